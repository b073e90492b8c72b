/-
  Functions that the law FnNormalSpots reaches: their walks and contracts, part 1.
-/
import Derived.Test.YtdikndbpcceogaaFnNormalSpotsGen
namespace Go.Proofs.Ytdikndbpcceogaa
open Go Go.Eng Go.Eng.Cod
set_option maxRecDepth 100000
set_option linter.unusedVariables false
set_option linter.unusedSimpArgs false

theorem nil_ok : EnvOK Try.prog (envL []) := E0

def within (a b c : Int) : Bool := decide (b ≤ a) && decide (a ≤ c)

theorem ok_impl_within : PureOK Try.prog n_impl_within (T3 within) := pureT3 nil_ok mixed hb_impl_within fun a b c => by
  simp [e_impl_within, within]

theorem ok_spec_l00In : PureOK Try.prog n_spec_l00In (T3 within) := pureT3 nil_ok mixed hb_spec_l00In fun a b c => by
  simp [e_spec_l00In, within]

theorem ok_spec_l00Min : PureOK Try.prog n_spec_l00Min (T2 fun a b : Int => min a b) := pureT2 nil_ok mixed hb_spec_l00Min fun a b => by
  simp [e_spec_l00Min, minI]

theorem ok_spec_l00Max : PureOK Try.prog n_spec_l00Max (T2 fun a b : Int => max a b) := pureT2 nil_ok mixed hb_spec_l00Max fun a b => by
  simp [e_spec_l00Max, maxI]

def validBox (b : Box) : Bool := within b.x1 0 b.x2 && within b.y1 0 b.y2 && decide (b.x2 ≤ 4095) && decide (b.y2 ≤ 4095)

theorem ok_impl_ValidBox : PureOK Try.prog n_impl_ValidBox (T1 validBox) :=
  pureT1 (E1 ok_impl_within) mixed hb_impl_ValidBox fun b => by
  simp [e_impl_ValidBox, envL, aBox, aLoad, cut, validBox]

theorem ok_spec_l02Box : PureOK Try.prog n_spec_l02Box (T1 validBox) :=
  pureT1 (E1 ok_spec_l00In) mixed hb_spec_l02Box fun b => by
  simp [e_spec_l02Box, envL, aBox, aLoad, cut, validBox]

theorem ok_impl_isCoord : PureOK Try.prog n_impl_isCoord (T1 fun y => within y 0 4095) := pureT1 (E1 ok_impl_within) mixed hb_impl_isCoord fun y => by
  simp [e_impl_isCoord, envL]

def joinBox (a b : Box) : Box := ⟨min a.x1 b.x1, min a.y1 b.y1, max a.x2 b.x2, max a.y2 b.y2⟩
theorem ok_impl_joinBoxes : PureOK Try.prog n_impl_joinBoxes (T2 joinBox) := pureT2 E0 mixed hb_impl_joinBoxes fun a b => by
  simp [e_impl_joinBoxes, aBox, aLoad, cut, aStore, splice, aBuild, aFill, retL, resL, pack, joinBox]

theorem ok_spec_l02Join : PureOK Try.prog n_spec_l02Join (T2 joinBox) := pureT2 (E2 ok_spec_l00Min ok_spec_l00Max) mixed hb_spec_l02Join fun a b => by
  simp [e_spec_l02Join, envL, aBox, aLoad, cut, aStore, splice, aBuild, aFill, retL, resL, pack, joinBox]

/-- The source of draws: how far it has read, its seed. -/
structure SS where
  at_ : Nat
  w : Int
def srow (q : Sl UInt8) (st : SS) : AObj := ⟨3, [[Sl.enc q, iv (st.at_ : Int), .sc (.int .u64 st.w)]]⟩
theorem store_head (s j k : Nat) (v : AV) (row : List AV) (t : Heap) (h1 : v.cells.length = s) (h2 : j + s ≤ row.length) (h3 : v.cells.all AV.flat = true) : aStore s (.ptr 0 1 0 j) v (⟨k, [row]⟩ :: t) = some (⟨k, [splice row j v.cells]⟩ :: t) := by
  simp only [aStore, List.getElem?_cons_zero, List.length_cons, List.length_nil, Nat.zero_add, if_true]
  rw [if_pos ⟨h1, h2, h3⟩]
  rfl
theorem v_mul (a b : Int) : aBin .mul (.sc (.int .u64 a)) (.sc (.int .u64 b)) = some (.sc (.int .u64 (IntKind.u64.wrap (a * b)))) := (rfl)
theorem v_add (a b : Int) : aBin .add (.sc (.int .u64 a)) (.sc (.int .u64 b)) = some (.sc (.int .u64 (IntKind.u64.wrap (a + b)))) := (rfl)
theorem v_shr40 (a : Int) : aBin .shr (.sc (.int .u64 a)) (.sc (.int .u64 40)) = some (.sc (.int .u64 (a.fdiv (2 ^ 40)))) := (rfl)
theorem v_conv (a : Int) : aConvInt .u64 (iv a) = some (.sc (.int .u64 (IntKind.u64.wrap a))) := (rfl)
theorem v_back (a : Int) : aConvInt .i64 (.sc (.int .u64 a)) = some (iv (wr a)) := (rfl)
theorem v_byte (b : UInt8) : aConvInt .i64 (bt b) = some (iv (b.toNat : Nat)) := by
  have h0 : aConvInt .i64 (bt b) = some (iv (wr (b.toNat : Int))) := rfl
  have := b.toNat_lt
  rw [h0, wr_id (by omega) (by omega)]
theorem v_and (a : Int) : ∃ r : Nat, r ≤ 255 ∧ aBin .and (.sc (.int .u64 a)) (.sc (.int .u64 255)) = some (.sc (.int .u64 (r : Int))) := by
  have h0 : aBin .and (.sc (.int .u64 a)) (.sc (.int .u64 255)) = some (.sc (.int .u64 (IntKind.u64.wrap ((BitVec.ofInt 64 a &&& BitVec.ofInt 64 255).toNat : Nat)))) := rfl
  have h1 : (BitVec.ofInt 64 a &&& BitVec.ofInt 64 255).toNat ≤ 255 := by
    rw [BitVec.toNat_and]
    have : (BitVec.ofInt 64 255).toNat = 255 := by decide
    rw [this]
    exact Nat.and_le_right
  refine ⟨(BitVec.ofInt 64 a &&& BitVec.ofInt 64 255).toNat, h1, ?_⟩
  rw [h0]
  generalize (BitVec.ofInt 64 a &&& BitVec.ofInt 64 255).toNat = r at h1
  congr 3
  simp only [IntKind.wrap, IntKind.bits, IntKind.signed]
  simp only [Bool.false_and, Bool.false_eq_true, if_false]
  omega

/-- What 'l00From' hands out. -/
def fromA (q : Sl UInt8) : AV := .np 3 [[Sl.enc q, iv 0, .sc (.int .u64 0)]] 0 0
theorem ok_spec_l00From : PureOK Try.prog n_spec_l00From (R1 fun q : Sl UInt8 => some (fromA q)) := pureR1 E0 mixed hb_spec_l00From fun q r h => by
  cases h
  apply pureG
  rw [e_spec_l00From]
  cases q <;> rfl
theorem hand_from (q : Sl UInt8) (h : Heap) : hand (fromA q) (noRef depth (Sl.enc q)) h = some (.ptr h.length 1 0 0, h ++ [srow q ⟨0, 0⟩]) := by
  cases q <;> rfl

theorem tt_spec_l00From : PureOK Try.prog n_spec_l00From (C1 fromA (fun q : Sl UInt8 => some q)) := pureR1 E0 mixed hb_spec_l00From fun q r h => by
  cases h
  apply pureG
  rw [e_spec_l00From]
  cases q <;> rfl

def t_spec_l00Src_next (s_ : l00Src) : Option (Int × l00Src) :=
  bif decide (s_.pos < (((s_.code.getD []).length : Nat) : Int)) then
    obind (getI (s_.code.getD []) s_.pos) fun a2 =>
    bif decide ((wr (s_.pos + 1)) ≤ (((s_.code.getD []).length : Nat) : Int)) then
      some ((a2.toNat : Int), (⟨s_.code, wr (s_.pos + 1), IntKind.u64.wrap ((IntKind.u64.wrap ((IntKind.u64.wrap (s_.seed * 6364136223846793005)) + (IntKind.u64.wrap (a2.toNat : Int)))) + 1442695040888963407)⟩ : l00Src))
    else
      some (wr (IntKind.u64.wrap ((BitVec.ofInt 64 (Int.fdiv (IntKind.u64.wrap ((IntKind.u64.wrap ((IntKind.u64.wrap (s_.seed * 6364136223846793005)) + (IntKind.u64.wrap (a2.toNat : Int)))) + 1442695040888963407)) (2 ^ 40)) &&& BitVec.ofInt 64 255).toNat : Nat)), (⟨s_.code, wr (s_.pos + 1), IntKind.u64.wrap ((IntKind.u64.wrap ((IntKind.u64.wrap (s_.seed * 6364136223846793005)) + (IntKind.u64.wrap (a2.toNat : Int)))) + 1442695040888963407)⟩ : l00Src))
  else
    bif decide ((wr (s_.pos + 1)) ≤ (((s_.code.getD []).length : Nat) : Int)) then
      some (0, (⟨s_.code, wr (s_.pos + 1), IntKind.u64.wrap ((IntKind.u64.wrap ((IntKind.u64.wrap (s_.seed * 6364136223846793005)) + (IntKind.u64.wrap 0))) + 1442695040888963407)⟩ : l00Src))
    else
      some (wr (IntKind.u64.wrap ((BitVec.ofInt 64 (Int.fdiv (IntKind.u64.wrap ((IntKind.u64.wrap ((IntKind.u64.wrap (s_.seed * 6364136223846793005)) + (IntKind.u64.wrap 0))) + 1442695040888963407)) (2 ^ 40)) &&& BitVec.ofInt 64 255).toNat : Nat)), (⟨s_.code, wr (s_.pos + 1), IntKind.u64.wrap ((IntKind.u64.wrap ((IntKind.u64.wrap (s_.seed * 6364136223846793005)) + (IntKind.u64.wrap 0))) + 1442695040888963407)⟩ : l00Src))

theorem ts_spec_l00Src_next (env : Nat → Contract)  {B : Base} {h : Heap} {o_ : Nat} (s_ : l00Src) (O : Hold B h [(AV.ptr o_ 1 0 0, .pt 3 [Sl.enc s_.code, iv s_.pos, AV.sc (.int .u64 s_.seed)])]) : Sim (denFn Try.prog env n_spec_l00Src_next [AV.ptr o_ 1 0 0] h) (t_spec_l00Src_next s_) (fun c p => p.1 = iv c.1 ∧ Hold B p.2 ([(AV.ptr o_ 1 0 0, .pt 3 [Sl.enc c.2.code, iv c.2.pos, AV.sc (.int .u64 c.2.seed)])])) := by
  rw [e_spec_l00Src_next]
  unfold t_spec_l00Src_next
  refine sim_let (v := AV.ptr o_ 1 0 0) rfl ?_
  refine sim_let (v := AV.ptr o_ 1 0 1) rfl ?_
  refine sim_let (v := iv s_.pos) (O.ld 0 rfl false 1 1) ?_
  refine sim_let (v := AV.ptr o_ 1 0 0) rfl ?_
  refine sim_let (v := AV.ptr o_ 1 0 0) rfl ?_
  refine sim_let (v := Sl.enc s_.code) (O.ld 0 rfl false 1 0) ?_
  refine sim_let (v := iv (((s_.code.getD []).length : Nat) : Int)) (Tab.enc h s_.code).len ?_
  refine sim_let (v := bv (decide (s_.pos < (((s_.code.getD []).length : Nat) : Int)))) (aBin_lss _ _) ?_
  refine sim_cond (fun c1 => ?_) (fun c1 => ?_)
  · refine sim_let (v := AV.ptr o_ 1 0 0) rfl ?_
    refine sim_let (v := AV.ptr o_ 1 0 0) rfl ?_
    refine sim_let (v := Sl.enc s_.code) (O.ld 0 rfl false 1 0) ?_
    refine sim_let (v := AV.ptr o_ 1 0 0) rfl ?_
    refine sim_let (v := AV.ptr o_ 1 0 1) rfl ?_
    refine sim_let (v := iv s_.pos) (O.ld 0 rfl false 1 1) ?_
    refine sim_get (Tab.enc h s_.code) (fun m3 a2 hi4 hm5 => ?_)
    refine sim_let (v := bt a2) ((Tab.enc h s_.code).ld hm5 false 1 0) ?_
    refine sim_let (v := iv (a2.toNat : Int)) (conv_byte _) ?_
    refine sim_let (v := AV.ptr o_ 1 0 0) rfl ?_
    refine sim_let (v := AV.ptr o_ 1 0 1) rfl ?_
    refine sim_let (v := iv s_.pos) (O.ld 0 rfl false 1 1) ?_
    refine sim_let (v := iv (wr (s_.pos + 1))) (aBin_add _ _) ?_
    refine sim_let (v := AV.ptr o_ 1 0 0) rfl ?_
    refine sim_let (v := AV.ptr o_ 1 0 1) rfl ?_
    refine sim_store O 0 (cs' := [Sl.enc s_.code, iv (wr (s_.pos + 1)), AV.sc (.int .u64 s_.seed)]) rfl (by first | rfl | simp) (by simp) (by first | rfl | simp) (by first | rfl | simp [splice]) (fun h6 O7 => ?_)
    replace O7 : Hold B h6 [(AV.ptr o_ 1 0 0, .pt 3 [Sl.enc s_.code, iv (wr (s_.pos + 1)), AV.sc (.int .u64 s_.seed)])] := O7
    refine sim_let (v := AV.ptr o_ 1 0 0) rfl ?_
    refine sim_let (v := AV.ptr o_ 1 0 2) rfl ?_
    refine sim_let (v := AV.sc (.int .u64 s_.seed)) (O7.ld 0 rfl false 1 2) ?_
    refine sim_let (v := AV.sc (.int .u64 (IntKind.u64.wrap (s_.seed * 6364136223846793005)))) rfl ?_
    refine sim_let (v := AV.sc (.int .u64 (IntKind.u64.wrap (a2.toNat : Int)))) rfl ?_
    refine sim_let (v := AV.sc (.int .u64 (IntKind.u64.wrap ((IntKind.u64.wrap (s_.seed * 6364136223846793005)) + (IntKind.u64.wrap (a2.toNat : Int)))))) rfl ?_
    refine sim_let (v := AV.sc (.int .u64 (IntKind.u64.wrap ((IntKind.u64.wrap ((IntKind.u64.wrap (s_.seed * 6364136223846793005)) + (IntKind.u64.wrap (a2.toNat : Int)))) + 1442695040888963407)))) rfl ?_
    refine sim_let (v := AV.ptr o_ 1 0 0) rfl ?_
    refine sim_let (v := AV.ptr o_ 1 0 2) rfl ?_
    refine sim_store O7 0 (cs' := [Sl.enc s_.code, iv (wr (s_.pos + 1)), AV.sc (.int .u64 (IntKind.u64.wrap ((IntKind.u64.wrap ((IntKind.u64.wrap (s_.seed * 6364136223846793005)) + (IntKind.u64.wrap (a2.toNat : Int)))) + 1442695040888963407)))]) rfl (by first | rfl | simp) (by simp) (by first | rfl | simp) (by first | rfl | simp [splice]) (fun h8 O9 => ?_)
    replace O9 : Hold B h8 [(AV.ptr o_ 1 0 0, .pt 3 [Sl.enc s_.code, iv (wr (s_.pos + 1)), AV.sc (.int .u64 (IntKind.u64.wrap ((IntKind.u64.wrap ((IntKind.u64.wrap (s_.seed * 6364136223846793005)) + (IntKind.u64.wrap (a2.toNat : Int)))) + 1442695040888963407)))])] := O9
    refine sim_let (v := AV.ptr o_ 1 0 0) rfl ?_
    refine sim_let (v := AV.ptr o_ 1 0 1) rfl ?_
    refine sim_let (v := iv (wr (s_.pos + 1))) (O9.ld 0 rfl false 1 1) ?_
    refine sim_let (v := AV.ptr o_ 1 0 0) rfl ?_
    refine sim_let (v := AV.ptr o_ 1 0 0) rfl ?_
    refine sim_let (v := Sl.enc s_.code) (O9.ld 0 rfl false 1 0) ?_
    refine sim_let (v := iv (((s_.code.getD []).length : Nat) : Int)) (Tab.enc h8 s_.code).len ?_
    refine sim_let (v := bv (decide ((wr (s_.pos + 1)) ≤ (((s_.code.getD []).length : Nat) : Int)))) (aBin_leq _ _) ?_
    refine sim_cond (fun c10 => ?_) (fun c10 => ?_)
    · exact sim_ret ⟨rfl, O9⟩
    · refine sim_let (v := AV.ptr o_ 1 0 0) rfl ?_
      refine sim_let (v := AV.ptr o_ 1 0 2) rfl ?_
      refine sim_let (v := AV.sc (.int .u64 (IntKind.u64.wrap ((IntKind.u64.wrap ((IntKind.u64.wrap (s_.seed * 6364136223846793005)) + (IntKind.u64.wrap (a2.toNat : Int)))) + 1442695040888963407)))) (O9.ld 0 rfl false 1 2) ?_
      refine sim_let (v := AV.sc (.int .u64 (Int.fdiv (IntKind.u64.wrap ((IntKind.u64.wrap ((IntKind.u64.wrap (s_.seed * 6364136223846793005)) + (IntKind.u64.wrap (a2.toNat : Int)))) + 1442695040888963407)) (2 ^ 40)))) rfl ?_
      refine sim_let (v := AV.sc (.int .u64 (IntKind.u64.wrap ((BitVec.ofInt 64 (Int.fdiv (IntKind.u64.wrap ((IntKind.u64.wrap ((IntKind.u64.wrap (s_.seed * 6364136223846793005)) + (IntKind.u64.wrap (a2.toNat : Int)))) + 1442695040888963407)) (2 ^ 40)) &&& BitVec.ofInt 64 255).toNat : Nat)))) rfl ?_
      refine sim_let (v := iv (wr (IntKind.u64.wrap ((BitVec.ofInt 64 (Int.fdiv (IntKind.u64.wrap ((IntKind.u64.wrap ((IntKind.u64.wrap (s_.seed * 6364136223846793005)) + (IntKind.u64.wrap (a2.toNat : Int)))) + 1442695040888963407)) (2 ^ 40)) &&& BitVec.ofInt 64 255).toNat : Nat)))) rfl ?_
      exact sim_ret ⟨rfl, O9⟩
  · refine sim_let (v := AV.ptr o_ 1 0 0) rfl ?_
    refine sim_let (v := AV.ptr o_ 1 0 1) rfl ?_
    refine sim_let (v := iv s_.pos) (O.ld 0 rfl false 1 1) ?_
    refine sim_let (v := iv (wr (s_.pos + 1))) (aBin_add _ _) ?_
    refine sim_let (v := AV.ptr o_ 1 0 0) rfl ?_
    refine sim_let (v := AV.ptr o_ 1 0 1) rfl ?_
    refine sim_store O 0 (cs' := [Sl.enc s_.code, iv (wr (s_.pos + 1)), AV.sc (.int .u64 s_.seed)]) rfl (by first | rfl | simp) (by simp) (by first | rfl | simp) (by first | rfl | simp [splice]) (fun h13 O14 => ?_)
    replace O14 : Hold B h13 [(AV.ptr o_ 1 0 0, .pt 3 [Sl.enc s_.code, iv (wr (s_.pos + 1)), AV.sc (.int .u64 s_.seed)])] := O14
    refine sim_let (v := AV.ptr o_ 1 0 0) rfl ?_
    refine sim_let (v := AV.ptr o_ 1 0 2) rfl ?_
    refine sim_let (v := AV.sc (.int .u64 s_.seed)) (O14.ld 0 rfl false 1 2) ?_
    refine sim_let (v := AV.sc (.int .u64 (IntKind.u64.wrap (s_.seed * 6364136223846793005)))) rfl ?_
    refine sim_let (v := AV.sc (.int .u64 (IntKind.u64.wrap 0))) rfl ?_
    refine sim_let (v := AV.sc (.int .u64 (IntKind.u64.wrap ((IntKind.u64.wrap (s_.seed * 6364136223846793005)) + (IntKind.u64.wrap 0))))) rfl ?_
    refine sim_let (v := AV.sc (.int .u64 (IntKind.u64.wrap ((IntKind.u64.wrap ((IntKind.u64.wrap (s_.seed * 6364136223846793005)) + (IntKind.u64.wrap 0))) + 1442695040888963407)))) rfl ?_
    refine sim_let (v := AV.ptr o_ 1 0 0) rfl ?_
    refine sim_let (v := AV.ptr o_ 1 0 2) rfl ?_
    refine sim_store O14 0 (cs' := [Sl.enc s_.code, iv (wr (s_.pos + 1)), AV.sc (.int .u64 (IntKind.u64.wrap ((IntKind.u64.wrap ((IntKind.u64.wrap (s_.seed * 6364136223846793005)) + (IntKind.u64.wrap 0))) + 1442695040888963407)))]) rfl (by first | rfl | simp) (by simp) (by first | rfl | simp) (by first | rfl | simp [splice]) (fun h15 O16 => ?_)
    replace O16 : Hold B h15 [(AV.ptr o_ 1 0 0, .pt 3 [Sl.enc s_.code, iv (wr (s_.pos + 1)), AV.sc (.int .u64 (IntKind.u64.wrap ((IntKind.u64.wrap ((IntKind.u64.wrap (s_.seed * 6364136223846793005)) + (IntKind.u64.wrap 0))) + 1442695040888963407)))])] := O16
    refine sim_let (v := AV.ptr o_ 1 0 0) rfl ?_
    refine sim_let (v := AV.ptr o_ 1 0 1) rfl ?_
    refine sim_let (v := iv (wr (s_.pos + 1))) (O16.ld 0 rfl false 1 1) ?_
    refine sim_let (v := AV.ptr o_ 1 0 0) rfl ?_
    refine sim_let (v := AV.ptr o_ 1 0 0) rfl ?_
    refine sim_let (v := Sl.enc s_.code) (O16.ld 0 rfl false 1 0) ?_
    refine sim_let (v := iv (((s_.code.getD []).length : Nat) : Int)) (Tab.enc h15 s_.code).len ?_
    refine sim_let (v := bv (decide ((wr (s_.pos + 1)) ≤ (((s_.code.getD []).length : Nat) : Int)))) (aBin_leq _ _) ?_
    refine sim_cond (fun c17 => ?_) (fun c17 => ?_)
    · exact sim_ret ⟨rfl, O16⟩
    · refine sim_let (v := AV.ptr o_ 1 0 0) rfl ?_
      refine sim_let (v := AV.ptr o_ 1 0 2) rfl ?_
      refine sim_let (v := AV.sc (.int .u64 (IntKind.u64.wrap ((IntKind.u64.wrap ((IntKind.u64.wrap (s_.seed * 6364136223846793005)) + (IntKind.u64.wrap 0))) + 1442695040888963407)))) (O16.ld 0 rfl false 1 2) ?_
      refine sim_let (v := AV.sc (.int .u64 (Int.fdiv (IntKind.u64.wrap ((IntKind.u64.wrap ((IntKind.u64.wrap (s_.seed * 6364136223846793005)) + (IntKind.u64.wrap 0))) + 1442695040888963407)) (2 ^ 40)))) rfl ?_
      refine sim_let (v := AV.sc (.int .u64 (IntKind.u64.wrap ((BitVec.ofInt 64 (Int.fdiv (IntKind.u64.wrap ((IntKind.u64.wrap ((IntKind.u64.wrap (s_.seed * 6364136223846793005)) + (IntKind.u64.wrap 0))) + 1442695040888963407)) (2 ^ 40)) &&& BitVec.ofInt 64 255).toNat : Nat)))) rfl ?_
      refine sim_let (v := iv (wr (IntKind.u64.wrap ((BitVec.ofInt 64 (Int.fdiv (IntKind.u64.wrap ((IntKind.u64.wrap ((IntKind.u64.wrap (s_.seed * 6364136223846793005)) + (IntKind.u64.wrap 0))) + 1442695040888963407)) (2 ^ 40)) &&& BitVec.ofInt 64 255).toNat : Nat)))) rfl ?_
      exact sim_ret ⟨rfl, O16⟩
noncomputable def ev_spec_l00Src_next : Nat → Contract := envL []
theorem eo_spec_l00Src_next : EnvOK Try.prog ev_spec_l00Src_next := E0
theorem tg_spec_l00Src_next {B : Base} {h : Heap} {o_ : Nat} (s_ : l00Src) (O : Hold B h [(AV.ptr o_ 1 0 0, .pt 3 [Sl.enc s_.code, iv s_.pos, AV.sc (.int .u64 s_.seed)])]) : Sim (denFn Try.prog ev_spec_l00Src_next n_spec_l00Src_next [AV.ptr o_ 1 0 0] h) (t_spec_l00Src_next s_) (fun c p => p.1 = iv c.1 ∧ Hold B p.2 ([(AV.ptr o_ 1 0 0, .pt 3 [Sl.enc c.2.code, iv c.2.pos, AV.sc (.int .u64 c.2.seed)])])) := ts_spec_l00Src_next ev_spec_l00Src_next  s_  O

def t_spec_l00Src_pick (s_ : l00Src) (n_ : Int) : Option (Int × l00Src) :=
  bif decide (n_ ≤ 1) then
    some (0, (⟨s_.code, s_.pos, s_.seed⟩ : l00Src))
  else
    obind (t_spec_l00Src_next s_) fun c3 =>
    bif decide (200 < n_) then
      obind (t_spec_l00Src_next c3.2) fun c10 =>
      obind (remI (wr ((wr (c3.1 * 256)) + c10.1)) n_) fun q16 =>
      some (q16, (⟨c10.2.code, c10.2.pos, c10.2.seed⟩ : l00Src))
    else
      obind (remI c3.1 n_) fun q18 =>
      some (q18, (⟨c3.2.code, c3.2.pos, c3.2.seed⟩ : l00Src))

theorem ts_spec_l00Src_pick (env : Nat → Contract) (he_spec_l00Src_next : env n_spec_l00Src_next = .gen (denFn Try.prog ev_spec_l00Src_next n_spec_l00Src_next)) {B : Base} {h : Heap} {o_ : Nat} (s_ : l00Src) (n_ : Int) (O : Hold B h [(AV.ptr o_ 1 0 0, .pt 3 [Sl.enc s_.code, iv s_.pos, AV.sc (.int .u64 s_.seed)])]) : Sim (denFn Try.prog env n_spec_l00Src_pick [AV.ptr o_ 1 0 0, iv n_] h) (t_spec_l00Src_pick s_ n_) (fun c p => p.1 = iv c.1 ∧ Hold B p.2 ([(AV.ptr o_ 1 0 0, .pt 3 [Sl.enc c.2.code, iv c.2.pos, AV.sc (.int .u64 c.2.seed)])])) := by
  rw [e_spec_l00Src_pick]
  unfold t_spec_l00Src_pick
  refine sim_let (v := bv (decide (n_ ≤ 1))) (aBin_leq _ _) ?_
  refine sim_cond (fun c1 => ?_) (fun c1 => ?_)
  · exact sim_ret ⟨rfl, O⟩
  · refine sim_gen he_spec_l00Src_next (tg_spec_l00Src_next s_ (O.start (i := 0) rfl rfl)) (fun c3 v4 h5 hq6 => ?_)
    obtain ⟨e_v4, O7⟩ := hq6
    dsimp only at e_v4
    subst v4
    have O8 : Hold B h5 [(AV.ptr o_ 1 0 0, .pt 3 [Sl.enc c3.2.code, iv c3.2.pos, AV.sc (.int .u64 c3.2.seed)])] := O.merge (i := 0) rfl rfl O7
    refine sim_let (v := bv (decide (200 < n_))) (aBin_gtr _ _) ?_
    refine sim_cond (fun c9 => ?_) (fun c9 => ?_)
    · refine sim_let (v := iv (wr (c3.1 * 256))) (aBin_mul _ _) ?_
      refine sim_gen he_spec_l00Src_next (tg_spec_l00Src_next c3.2 (O8.start (i := 0) rfl rfl)) (fun c10 v11 h12 hq13 => ?_)
      obtain ⟨e_v11, O14⟩ := hq13
      dsimp only at e_v11
      subst v11
      have O15 : Hold B h12 [(AV.ptr o_ 1 0 0, .pt 3 [Sl.enc c10.2.code, iv c10.2.pos, AV.sc (.int .u64 c10.2.seed)])] := O8.merge (i := 0) rfl rfl O14
      refine sim_let (v := iv (wr ((wr (c3.1 * 256)) + c10.1))) (aBin_add _ _) ?_
      refine sim_rem (fun q16 => ?_)
      exact sim_ret ⟨rfl, O15⟩
    · refine sim_rem (fun q18 => ?_)
      exact sim_ret ⟨rfl, O8⟩
noncomputable def ev_spec_l00Src_pick : Nat → Contract := envL [(n_spec_l00Src_next, .gen (denFn Try.prog ev_spec_l00Src_next n_spec_l00Src_next))]
theorem eo_spec_l00Src_pick : EnvOK Try.prog ev_spec_l00Src_pick := (EconsG (gen_of_den eo_spec_l00Src_next mixed hb_spec_l00Src_next) E0)
theorem tg_spec_l00Src_pick {B : Base} {h : Heap} {o_ : Nat} (s_ : l00Src) (n_ : Int) (O : Hold B h [(AV.ptr o_ 1 0 0, .pt 3 [Sl.enc s_.code, iv s_.pos, AV.sc (.int .u64 s_.seed)])]) : Sim (denFn Try.prog ev_spec_l00Src_pick n_spec_l00Src_pick [AV.ptr o_ 1 0 0, iv n_] h) (t_spec_l00Src_pick s_ n_) (fun c p => p.1 = iv c.1 ∧ Hold B p.2 ([(AV.ptr o_ 1 0 0, .pt 3 [Sl.enc c.2.code, iv c.2.pos, AV.sc (.int .u64 c.2.seed)])])) := ts_spec_l00Src_pick ev_spec_l00Src_pick (by simp [ev_spec_l00Src_pick, envL]) s_ n_  O

def t_spec_l00Src_one (s_ : l00Src) (n_ : Int) : Option (Bool × l00Src) :=
  obind (t_spec_l00Src_pick s_ n_) fun c1 =>
  some (decide (c1.1 = 0), (⟨c1.2.code, c1.2.pos, c1.2.seed⟩ : l00Src))

theorem ts_spec_l00Src_one (env : Nat → Contract) (he_spec_l00Src_pick : env n_spec_l00Src_pick = .gen (denFn Try.prog ev_spec_l00Src_pick n_spec_l00Src_pick)) {B : Base} {h : Heap} {o_ : Nat} (s_ : l00Src) (n_ : Int) (O : Hold B h [(AV.ptr o_ 1 0 0, .pt 3 [Sl.enc s_.code, iv s_.pos, AV.sc (.int .u64 s_.seed)])]) : Sim (denFn Try.prog env n_spec_l00Src_one [AV.ptr o_ 1 0 0, iv n_] h) (t_spec_l00Src_one s_ n_) (fun c p => p.1 = bv c.1 ∧ Hold B p.2 ([(AV.ptr o_ 1 0 0, .pt 3 [Sl.enc c.2.code, iv c.2.pos, AV.sc (.int .u64 c.2.seed)])])) := by
  rw [e_spec_l00Src_one]
  unfold t_spec_l00Src_one
  refine sim_gen he_spec_l00Src_pick (tg_spec_l00Src_pick s_ n_ (O.start (i := 0) rfl rfl)) (fun c1 v2 h3 hq4 => ?_)
  obtain ⟨e_v2, O5⟩ := hq4
  dsimp only at e_v2
  subst v2
  have O6 : Hold B h3 [(AV.ptr o_ 1 0 0, .pt 3 [Sl.enc c1.2.code, iv c1.2.pos, AV.sc (.int .u64 c1.2.seed)])] := O.merge (i := 0) rfl rfl O5
  refine sim_let (v := bv (decide (c1.1 = 0))) (aCmp_eq _ _) ?_
  exact sim_ret ⟨rfl, O6⟩
noncomputable def ev_spec_l00Src_one : Nat → Contract := envL [(n_spec_l00Src_pick, .gen (denFn Try.prog ev_spec_l00Src_pick n_spec_l00Src_pick))]
theorem eo_spec_l00Src_one : EnvOK Try.prog ev_spec_l00Src_one := (EconsG (gen_of_den eo_spec_l00Src_pick mixed hb_spec_l00Src_pick) E0)
theorem tg_spec_l00Src_one {B : Base} {h : Heap} {o_ : Nat} (s_ : l00Src) (n_ : Int) (O : Hold B h [(AV.ptr o_ 1 0 0, .pt 3 [Sl.enc s_.code, iv s_.pos, AV.sc (.int .u64 s_.seed)])]) : Sim (denFn Try.prog ev_spec_l00Src_one n_spec_l00Src_one [AV.ptr o_ 1 0 0, iv n_] h) (t_spec_l00Src_one s_ n_) (fun c p => p.1 = bv c.1 ∧ Hold B p.2 ([(AV.ptr o_ 1 0 0, .pt 3 [Sl.enc c.2.code, iv c.2.pos, AV.sc (.int .u64 c.2.seed)])])) := ts_spec_l00Src_one ev_spec_l00Src_one (by simp [ev_spec_l00Src_one, envL]) s_ n_  O

def t_laws_f6big (code_ : Sl UInt8) : Option Bool :=
  some (decide (4096 < (((code_.getD []).length : Nat) : Int)))

theorem ts_laws_f6big (env : Nat → Contract)  (code_ : Sl UInt8) : Sim (denFn Try.prog env n_laws_f6big [Sl.enc code_] []) (t_laws_f6big code_) fun c p => release p.2 depth p.1 = some ((fun c : Bool => enc c) c) := by
  have O := Hold.nil []
  generalize hB : (⟨[], []⟩ : Base) = B at O
  clear hB
  rw [e_laws_f6big]
  unfold t_laws_f6big
  refine sim_let (v := iv (((code_.getD []).length : Nat) : Int)) (Tab.enc [] code_).len ?_
  refine sim_let (v := bv (decide (4096 < (((code_.getD []).length : Nat) : Int)))) (aBin_gtr _ _) ?_
  exact sim_ret (release_plain (by rfl) _)
theorem tt_laws_f6big : PureOK Try.prog n_laws_f6big (C1 (fun c : Bool => enc c) t_laws_f6big) := pureC1 E0 mixed hb_laws_f6big fun code_ => ts_laws_f6big _  code_

def t_spec_l00Src_among (s_ : l00Src) (list_ : Sl Int) : Option (Int × l00Src) :=
  obind (t_spec_l00Src_pick s_ (((list_.getD []).length : Nat) : Int)) fun c1 =>
  obind (getI (list_.getD []) c1.1) fun a7 =>
  some (a7, (⟨c1.2.code, c1.2.pos, c1.2.seed⟩ : l00Src))

theorem ts_spec_l00Src_among (env : Nat → Contract) (he_spec_l00Src_pick : env n_spec_l00Src_pick = .gen (denFn Try.prog ev_spec_l00Src_pick n_spec_l00Src_pick)) {B : Base} {h : Heap} {o_ : Nat} (s_ : l00Src) (list_ : Sl Int) {list_x : AV} (T_list_ : ∀ h, (∀ o, o < B.h0.length → o ∉ B.F → h[o]? = B.h0[o]?) → Tab h list_x list_) (O : Hold B h [(AV.ptr o_ 1 0 0, .pt 3 [Sl.enc s_.code, iv s_.pos, AV.sc (.int .u64 s_.seed)])]) : Sim (denFn Try.prog env n_spec_l00Src_among [AV.ptr o_ 1 0 0, list_x] h) (t_spec_l00Src_among s_ list_) (fun c p => p.1 = iv c.1 ∧ Hold B p.2 ([(AV.ptr o_ 1 0 0, .pt 3 [Sl.enc c.2.code, iv c.2.pos, AV.sc (.int .u64 c.2.seed)])])) := by
  rw [e_spec_l00Src_among]
  unfold t_spec_l00Src_among
  refine sim_let (v := iv (((list_.getD []).length : Nat) : Int)) (T_list_ _ O.keep).len ?_
  refine sim_gen he_spec_l00Src_pick (tg_spec_l00Src_pick s_ (((list_.getD []).length : Nat) : Int) (O.start (i := 0) rfl rfl)) (fun c1 v2 h3 hq4 => ?_)
  obtain ⟨e_v2, O5⟩ := hq4
  dsimp only at e_v2
  subst v2
  have O6 : Hold B h3 [(AV.ptr o_ 1 0 0, .pt 3 [Sl.enc c1.2.code, iv c1.2.pos, AV.sc (.int .u64 c1.2.seed)])] := O.merge (i := 0) rfl rfl O5
  refine sim_get (T_list_ _ O6.keep) (fun m8 a7 hi9 hm10 => ?_)
  refine sim_let (v := iv a7) ((T_list_ _ O6.keep).ld hm10 false 1 0) ?_
  exact sim_ret ⟨rfl, O6⟩
noncomputable def ev_spec_l00Src_among : Nat → Contract := envL [(n_spec_l00Src_pick, .gen (denFn Try.prog ev_spec_l00Src_pick n_spec_l00Src_pick))]
theorem eo_spec_l00Src_among : EnvOK Try.prog ev_spec_l00Src_among := (EconsG (gen_of_den eo_spec_l00Src_pick mixed hb_spec_l00Src_pick) E0)
theorem tg_spec_l00Src_among {B : Base} {h : Heap} {o_ : Nat} (s_ : l00Src) (list_ : Sl Int) {list_x : AV} (T_list_ : ∀ h, (∀ o, o < B.h0.length → o ∉ B.F → h[o]? = B.h0[o]?) → Tab h list_x list_) (O : Hold B h [(AV.ptr o_ 1 0 0, .pt 3 [Sl.enc s_.code, iv s_.pos, AV.sc (.int .u64 s_.seed)])]) : Sim (denFn Try.prog ev_spec_l00Src_among n_spec_l00Src_among [AV.ptr o_ 1 0 0, list_x] h) (t_spec_l00Src_among s_ list_) (fun c p => p.1 = iv c.1 ∧ Hold B p.2 ([(AV.ptr o_ 1 0 0, .pt 3 [Sl.enc c.2.code, iv c.2.pos, AV.sc (.int .u64 c.2.seed)])])) := ts_spec_l00Src_among ev_spec_l00Src_among (by simp [ev_spec_l00Src_among, envL]) s_ list_ T_list_ O

def t_spec_l02Point (p_ : Point) : Option Bool :=
  obind (some (within p_.x 0 4095)) fun c5 =>
  obind (bif c5 then (obind (some (within p_.y 0 4095)) fun c7 => some c7) else some false) fun c8 =>
  obind (bif (bif c5 then c8 else false) then (obind (some (within p_.t 0 3600000)) fun c10 => some c10) else some false) fun c11 =>
  some (bif (bif c5 then c8 else false) then c11 else false)

theorem ts_spec_l02Point (env : Nat → Contract) (he_spec_l00In : env n_spec_l00In = .pure (T3 within)) (p_ : Point) : Sim (denFn Try.prog env n_spec_l02Point [AV.agg [iv p_.x, iv p_.y, iv p_.t]] []) (t_spec_l02Point p_) fun c p => release p.2 depth p.1 = some ((fun c : Bool => enc c) c) := by
  have O := Hold.nil []
  generalize hB : (⟨[], []⟩ : Base) = B at O
  clear hB
  rw [e_spec_l02Point]
  unfold t_spec_l02Point
  refine sim_box O (cs := [iv p_.x, iv p_.y, iv p_.t]) (by first | rfl | simp) (fun o1 h2 O3 => ?_)
  replace O3 : Hold B h2 [(AV.ptr o1 1 0 0, .pt 3 [iv p_.x, iv p_.y, iv p_.t])] := O3
  refine sim_let (v := AV.ptr o1 1 0 0) rfl ?_
  refine sim_let (v := iv p_.x) (O3.ld 0 rfl false 1 0) ?_
  refine sim_callV3 (t := within) he_spec_l00In (snapD_int _ _) (snapD_int _ _) (snapD_int _ _) (fun c5 => ?_)
  refine sim_guardT (e := bv) (fun hb6 => ?_) (fun c8 => ?_)
  · refine sim_let (v := AV.ptr o1 1 0 1) rfl ?_
    refine sim_let (v := iv p_.y) (O3.ld 0 rfl false 1 1) ?_
    refine sim_callV3 (t := within) he_spec_l00In (snapD_int _ _) (snapD_int _ _) (snapD_int _ _) (fun c7 => ?_)
    exact sim_ret rfl
  · refine sim_let (v := bv (bif c5 then c8 else false)) (pick_b _ _ _) ?_
    refine sim_guardT (e := bv) (fun hb9 => ?_) (fun c11 => ?_)
    · refine sim_let (v := AV.ptr o1 1 0 2) rfl ?_
      refine sim_let (v := iv p_.t) (O3.ld 0 rfl false 1 2) ?_
      refine sim_callV3 (t := within) he_spec_l00In (snapD_int _ _) (snapD_int _ _) (snapD_int _ _) (fun c10 => ?_)
      exact sim_ret rfl
    · refine sim_let (v := bv (bif (bif c5 then c8 else false) then c11 else false)) (pick_b _ _ _) ?_
      exact sim_ret (release_plain (by rfl) _)
theorem tt_spec_l02Point : PureOK Try.prog n_spec_l02Point (C1 (fun c : Bool => enc c) t_spec_l02Point) := pureC1 (Econs ok_spec_l00In E0) mixed hb_spec_l02Point fun p_ => ts_spec_l02Point _ (by simp [envL]) p_

def s0_spec_l02DrawStroke : ((Sl UInt8) × Int × Int × (Sl Point) × Int × Int × Int × Int × Int × Int) → Option (Sum ((Sl UInt8) × Int × Int × (Sl Point) × Int × Int × Int × Int × Int × Int) ((Sl UInt8) × Int × Int × (Sl Point))) := fun (w31, w32, w33, w35, w38, w39, w40, w41, w42, w43) =>
  bif decide (0 < w43) then
    obind (appO w35 ([(⟨w39, w40, w38⟩ : Point)] : List Point)) fun _ =>
    obind (t_spec_l00Src_pick (⟨w31, w32, w33⟩ : l00Src) 20) fun c73 =>
    obind (t_spec_l00Src_pick c73.2 9) fun c79 =>
    obind (some ((fun a b : Int => min a b) 4095 (wr ((wr ((wr (w39 + w41)) + c79.1)) - 4)))) fun c85 =>
    obind (some ((fun a b : Int => max a b) 0 c85)) fun c86 =>
    obind (t_spec_l00Src_pick c79.2 9) fun c87 =>
    obind (some ((fun a b : Int => min a b) 4095 (wr ((wr ((wr (w40 + w42)) + c87.1)) - 4)))) fun c93 =>
    obind (some ((fun a b : Int => max a b) 0 c93)) fun c94 =>
    obind (t_spec_l00Src_one c87.2 3) fun c95 =>
    bif c95.1 then
      obind (t_spec_l00Src_pick c95.2 80) fun c102 =>
      obind (t_spec_l00Src_pick c102.2 80) fun c108 =>
      some (.inl (c108.2.code, c108.2.pos, c108.2.seed, (appS w35 ([(⟨w39, w40, w38⟩ : Point)] : List Point)), wr (w38 + (wr (1 + c73.1))), c86, c94, wr (c102.1 - 40), wr (c108.1 - 40), wr (w43 - 1)))
    else
      some (.inl (c95.2.code, c95.2.pos, c95.2.seed, (appS w35 ([(⟨w39, w40, w38⟩ : Point)] : List Point)), wr (w38 + (wr (1 + c73.1))), c86, c94, w41, w42, wr (w43 - 1)))
  else
    some (.inr (w31, w32, w33, w35))
def t_spec_l02DrawStroke (s_ : l00Src) (time_ : Int) (x_ : Int) (y_ : Int) : Option (Stroke × l00Src) :=
  obind (t_spec_l00Src_pick s_ 60) fun c11 =>
  obind (t_spec_l00Src_pick c11.2 60) fun c17 =>
  obind (t_spec_l00Src_pick c17.2 10) fun c23 =>
  obind (loopT s0_spec_l02DrawStroke (c23.2.code, c23.2.pos, c23.2.seed, (none : Sl Point), time_, x_, y_, wr (c11.1 - 20), wr (c17.1 - 30), wr (1 + c23.1))) fun (q46, q47, q48, q50) =>
  some ((⟨q50⟩ : Stroke), (⟨q46, q47, q48⟩ : l00Src))

theorem tl0_spec_l02DrawStroke (env : Nat → Contract) {B : Base} (he_spec_l00Max : env n_spec_l00Max = .pure (T2 (fun a b : Int => max a b))) (he_spec_l00Min : env n_spec_l00Min = .pure (T2 (fun a b : Int => min a b))) (he_spec_l00Src_one : env n_spec_l00Src_one = .gen (denFn Try.prog ev_spec_l00Src_one n_spec_l00Src_one)) (he_spec_l00Src_pick : env n_spec_l00Src_pick = .gen (denFn Try.prog ev_spec_l00Src_pick n_spec_l00Src_pick)) (o_ : Nat) (o1 : Nat) (o5 : Nat) (c11 : Int × l00Src) (c17 : Int × l00Src) (c23 : Int × l00Src)  {st : (Sl UInt8) × Int × Int × (Sl Point) × Int × Int × Int × Int × Int × Int} {tm : TM} {h : Heap} (R : (fun (st : (Sl UInt8) × Int × Int × (Sl Point) × Int × Int × Int × Int × Int × Int) tm h36 => match st with | (w31, w32, w33, w35, w38, w39, w40, w41, w42, w43) => ∃ z34, tm = ((AV.ptr o_ 1 0 0) :: (iv w38) :: (iv w39) :: (iv w40) :: und :: und :: und :: und :: (AV.ptr o1 1 0 0) :: (AV.ptr o5 1 0 0) :: (iv w41) :: (iv w42) :: (iv w43) :: (AV.agg [nilS]) :: (AV.ptr o_ 1 0 0) :: (iv c11.1) :: (iv (wr (c11.1 - 20))) :: (AV.ptr o_ 1 0 0) :: (iv c17.1) :: (iv (wr (c17.1 - 30))) :: (AV.ptr o_ 1 0 0) :: (iv c23.1) :: (iv (wr (1 + c23.1))) :: AV.top :: AV.top :: AV.top :: AV.top :: AV.top :: AV.top :: AV.top :: AV.top :: AV.top :: AV.top :: AV.top :: AV.top :: AV.top :: AV.top :: AV.top :: AV.top :: AV.top :: AV.top :: AV.top :: AV.top :: AV.top :: AV.top :: AV.top :: AV.top :: AV.top :: AV.top :: AV.top :: AV.top :: AV.top :: AV.top :: AV.top :: AV.top :: AV.top :: AV.top :: AV.top :: AV.top :: AV.top :: AV.top :: AV.top :: AV.top :: AV.top :: AV.top :: AV.top :: AV.top :: und :: []) ∧ Hold B h36 [(AV.ptr o_ 1 0 0, .pt 3 [Sl.enc w31, iv w32, AV.sc (.int .u64 w33)]), (AV.ptr o1 1 0 0, .pt 1 [nilS]), (AV.ptr o5 1 0 0, .pt 1 [z34]), (z34, obS (w35 : Sl Point))]) st tm h) : Sim (loopP hm0_spec_l02DrawStroke xm0_spec_l02DrawStroke (lb0_spec_l02DrawStroke env) tm h) (loopT s0_spec_l02DrawStroke st) (fun (q : (Sl UInt8) × Int × Int × (Sl Point)) (r : Res) => match q with | (q46, q47, q48, q50) => ∃ (q51 : Int) (q52 : Int) (q53 : Int) (q54 : Int) (q55 : Int) (q56 : Int) (z49 : AV) (h44 : Heap), r = (.exit 0, ((AV.ptr o_ 1 0 0) :: (iv q51) :: (iv q52) :: (iv q53) :: und :: und :: und :: und :: (AV.ptr o1 1 0 0) :: (AV.ptr o5 1 0 0) :: (iv q54) :: (iv q55) :: (iv q56) :: (AV.agg [nilS]) :: (AV.ptr o_ 1 0 0) :: (iv c11.1) :: (iv (wr (c11.1 - 20))) :: (AV.ptr o_ 1 0 0) :: (iv c17.1) :: (iv (wr (c17.1 - 30))) :: (AV.ptr o_ 1 0 0) :: (iv c23.1) :: (iv (wr (1 + c23.1))) :: AV.top :: AV.top :: AV.top :: AV.top :: AV.top :: AV.top :: AV.top :: AV.top :: AV.top :: AV.top :: AV.top :: AV.top :: AV.top :: AV.top :: AV.top :: AV.top :: AV.top :: AV.top :: AV.top :: AV.top :: AV.top :: AV.top :: AV.top :: AV.top :: AV.top :: AV.top :: AV.top :: AV.top :: AV.top :: AV.top :: AV.top :: AV.top :: AV.top :: AV.top :: AV.top :: AV.top :: AV.top :: AV.top :: AV.top :: AV.top :: AV.top :: AV.top :: AV.top :: AV.top :: und :: []), h44) ∧ Hold B h44 [(AV.ptr o_ 1 0 0, .pt 3 [Sl.enc q46, iv q47, AV.sc (.int .u64 q48)]), (AV.ptr o1 1 0 0, .pt 1 [nilS]), (AV.ptr o5 1 0 0, .pt 1 [z49]), (z49, obS (q50 : Sl Point))]) := by
  refine loop_sim (Rel := fun (st : (Sl UInt8) × Int × Int × (Sl Point) × Int × Int × Int × Int × Int × Int) tm h36 => match st with | (w31, w32, w33, w35, w38, w39, w40, w41, w42, w43) => ∃ z34, tm = ((AV.ptr o_ 1 0 0) :: (iv w38) :: (iv w39) :: (iv w40) :: und :: und :: und :: und :: (AV.ptr o1 1 0 0) :: (AV.ptr o5 1 0 0) :: (iv w41) :: (iv w42) :: (iv w43) :: (AV.agg [nilS]) :: (AV.ptr o_ 1 0 0) :: (iv c11.1) :: (iv (wr (c11.1 - 20))) :: (AV.ptr o_ 1 0 0) :: (iv c17.1) :: (iv (wr (c17.1 - 30))) :: (AV.ptr o_ 1 0 0) :: (iv c23.1) :: (iv (wr (1 + c23.1))) :: AV.top :: AV.top :: AV.top :: AV.top :: AV.top :: AV.top :: AV.top :: AV.top :: AV.top :: AV.top :: AV.top :: AV.top :: AV.top :: AV.top :: AV.top :: AV.top :: AV.top :: AV.top :: AV.top :: AV.top :: AV.top :: AV.top :: AV.top :: AV.top :: AV.top :: AV.top :: AV.top :: AV.top :: AV.top :: AV.top :: AV.top :: AV.top :: AV.top :: AV.top :: AV.top :: AV.top :: AV.top :: AV.top :: AV.top :: AV.top :: AV.top :: AV.top :: AV.top :: AV.top :: und :: []) ∧ Hold B h36 [(AV.ptr o_ 1 0 0, .pt 3 [Sl.enc w31, iv w32, AV.sc (.int .u64 w33)]), (AV.ptr o1 1 0 0, .pt 1 [nilS]), (AV.ptr o5 1 0 0, .pt 1 [z34]), (z34, obS (w35 : Sl Point))]) (fun st tm h36 R => ?_) R
  obtain ⟨w31, w32, w33, w35, w38, w39, w40, w41, w42, w43⟩ := st
  obtain ⟨z34, rfl, O37⟩ := R
  rw [e_lb0_spec_l02DrawStroke]
  unfold s0_spec_l02DrawStroke
  dsimp only
  refine sim_let (v := bv (decide (0 < w43))) (aBin_gtr _ _) ?_
  refine sim_cond (fun c60 => ?_) (fun c60 => ?_)
  · refine sim_let (v := AV.ptr o5 1 0 0) rfl ?_
    refine sim_let (v := z34) (O37.ld 2 rfl false 1 0) ?_
    refine sim_let (v := AV.agg [iv w39, iv w40, iv w38]) (by first | rfl | simp [aBuild, aFill, splice]) ?_
    refine sim_build (A := Point) O37 ([(⟨w39, w40, w38⟩ : Point)] : List Point) rfl (by first | rfl | simp [aFillRows, zrows]) rfl (fun x61 h62 O63 => ?_)
    replace O63 : Hold B h62 [(AV.ptr o_ 1 0 0, .pt 3 [Sl.enc w31, iv w32, AV.sc (.int .u64 w33)]), (AV.ptr o1 1 0 0, .pt 1 [nilS]), (AV.ptr o5 1 0 0, .pt 1 [z34]), (z34, obS (w35 : Sl Point)), (x61, obS ((some ([(⟨w39, w40, w38⟩ : Point)] : List Point)) : Sl Point))] := O63
    refine sim_append (A := Point) (s := w35) O63 3 ([(⟨w39, w40, w38⟩ : Point)] : List Point) rfl (O63.src (A := Point) (s := (some ([(⟨w39, w40, w38⟩ : Point)] : List Point))) 4 rfl) (by decide) (fun x66 h67 O68 => ?_)
    replace O68 : Hold B h67 [(AV.ptr o_ 1 0 0, .pt 3 [Sl.enc w31, iv w32, AV.sc (.int .u64 w33)]), (AV.ptr o1 1 0 0, .pt 1 [nilS]), (AV.ptr o5 1 0 0, .pt 1 [z34]), (x66, obS ((appS w35 ([(⟨w39, w40, w38⟩ : Point)] : List Point)) : Sl Point)), (x61, obS ((some ([(⟨w39, w40, w38⟩ : Point)] : List Point)) : Sl Point))] := O68
    have O70 : Hold B h67 [(AV.ptr o_ 1 0 0, .pt 3 [Sl.enc w31, iv w32, AV.sc (.int .u64 w33)]), (AV.ptr o1 1 0 0, .pt 1 [nilS]), (AV.ptr o5 1 0 0, .pt 1 [z34]), (x66, obS ((appS w35 ([(⟨w39, w40, w38⟩ : Point)] : List Point)) : Sl Point))] := O68.sel [0, 1, 2, 3] (by decide) rfl
    refine sim_let (v := AV.ptr o5 1 0 0) rfl ?_
    refine sim_store O70 2 (cs' := [x66]) rfl (by first | rfl | simp [(O70.one (A := Point) (s := (appS w35 ([(⟨w39, w40, w38⟩ : Point)] : List Point))) 3 rfl).1, (O70.one (A := Point) (s := (appS w35 ([(⟨w39, w40, w38⟩ : Point)] : List Point))) 3 rfl).2]) (by simp) (by first | rfl | simp [(O70.one (A := Point) (s := (appS w35 ([(⟨w39, w40, w38⟩ : Point)] : List Point))) 3 rfl).1, (O70.one (A := Point) (s := (appS w35 ([(⟨w39, w40, w38⟩ : Point)] : List Point))) 3 rfl).2]) (by first | rfl | simp [splice, (O70.one (A := Point) (s := (appS w35 ([(⟨w39, w40, w38⟩ : Point)] : List Point))) 3 rfl).1, (O70.one (A := Point) (s := (appS w35 ([(⟨w39, w40, w38⟩ : Point)] : List Point))) 3 rfl).2]) (fun h71 O72 => ?_)
    replace O72 : Hold B h71 [(AV.ptr o_ 1 0 0, .pt 3 [Sl.enc w31, iv w32, AV.sc (.int .u64 w33)]), (AV.ptr o1 1 0 0, .pt 1 [nilS]), (AV.ptr o5 1 0 0, .pt 1 [x66]), (x66, obS ((appS w35 ([(⟨w39, w40, w38⟩ : Point)] : List Point)) : Sl Point))] := O72
    refine sim_gen he_spec_l00Src_pick (tg_spec_l00Src_pick (⟨w31, w32, w33⟩ : l00Src) 20 (O72.start (i := 0) rfl rfl)) (fun c73 v74 h75 hq76 => ?_)
    obtain ⟨e_v74, O77⟩ := hq76
    dsimp only at e_v74
    subst v74
    have O78 : Hold B h75 [(AV.ptr o_ 1 0 0, .pt 3 [Sl.enc c73.2.code, iv c73.2.pos, AV.sc (.int .u64 c73.2.seed)]), (AV.ptr o1 1 0 0, .pt 1 [nilS]), (AV.ptr o5 1 0 0, .pt 1 [x66]), (x66, obS ((appS w35 ([(⟨w39, w40, w38⟩ : Point)] : List Point)) : Sl Point))] := O72.merge (i := 0) rfl rfl O77
    refine sim_let (v := iv (wr (1 + c73.1))) (aBin_add _ _) ?_
    refine sim_let (v := iv (wr (w38 + (wr (1 + c73.1))))) (aBin_add _ _) ?_
    refine sim_let (v := iv (wr (w39 + w41))) (aBin_add _ _) ?_
    refine sim_gen he_spec_l00Src_pick (tg_spec_l00Src_pick c73.2 9 (O78.start (i := 0) rfl rfl)) (fun c79 v80 h81 hq82 => ?_)
    obtain ⟨e_v80, O83⟩ := hq82
    dsimp only at e_v80
    subst v80
    have O84 : Hold B h81 [(AV.ptr o_ 1 0 0, .pt 3 [Sl.enc c79.2.code, iv c79.2.pos, AV.sc (.int .u64 c79.2.seed)]), (AV.ptr o1 1 0 0, .pt 1 [nilS]), (AV.ptr o5 1 0 0, .pt 1 [x66]), (x66, obS ((appS w35 ([(⟨w39, w40, w38⟩ : Point)] : List Point)) : Sl Point))] := O78.merge (i := 0) rfl rfl O83
    refine sim_let (v := iv (wr ((wr (w39 + w41)) + c79.1))) (aBin_add _ _) ?_
    refine sim_let (v := iv (wr ((wr ((wr (w39 + w41)) + c79.1)) - 4))) (aBin_sub _ _) ?_
    refine sim_callV2 (t := (fun a b : Int => min a b)) he_spec_l00Min (snapD_int _ _) (snapD_int _ _) (fun c85 => ?_)
    refine sim_callV2 (t := (fun a b : Int => max a b)) he_spec_l00Max (snapD_int _ _) (snapD_int _ _) (fun c86 => ?_)
    refine sim_let (v := iv (wr (w40 + w42))) (aBin_add _ _) ?_
    refine sim_gen he_spec_l00Src_pick (tg_spec_l00Src_pick c79.2 9 (O84.start (i := 0) rfl rfl)) (fun c87 v88 h89 hq90 => ?_)
    obtain ⟨e_v88, O91⟩ := hq90
    dsimp only at e_v88
    subst v88
    have O92 : Hold B h89 [(AV.ptr o_ 1 0 0, .pt 3 [Sl.enc c87.2.code, iv c87.2.pos, AV.sc (.int .u64 c87.2.seed)]), (AV.ptr o1 1 0 0, .pt 1 [nilS]), (AV.ptr o5 1 0 0, .pt 1 [x66]), (x66, obS ((appS w35 ([(⟨w39, w40, w38⟩ : Point)] : List Point)) : Sl Point))] := O84.merge (i := 0) rfl rfl O91
    refine sim_let (v := iv (wr ((wr (w40 + w42)) + c87.1))) (aBin_add _ _) ?_
    refine sim_let (v := iv (wr ((wr ((wr (w40 + w42)) + c87.1)) - 4))) (aBin_sub _ _) ?_
    refine sim_callV2 (t := (fun a b : Int => min a b)) he_spec_l00Min (snapD_int _ _) (snapD_int _ _) (fun c93 => ?_)
    refine sim_callV2 (t := (fun a b : Int => max a b)) he_spec_l00Max (snapD_int _ _) (snapD_int _ _) (fun c94 => ?_)
    refine sim_gen he_spec_l00Src_one (tg_spec_l00Src_one c87.2 3 (O92.start (i := 0) rfl rfl)) (fun c95 v96 h97 hq98 => ?_)
    obtain ⟨e_v96, O99⟩ := hq98
    dsimp only at e_v96
    subst v96
    have O100 : Hold B h97 [(AV.ptr o_ 1 0 0, .pt 3 [Sl.enc c95.2.code, iv c95.2.pos, AV.sc (.int .u64 c95.2.seed)]), (AV.ptr o1 1 0 0, .pt 1 [nilS]), (AV.ptr o5 1 0 0, .pt 1 [x66]), (x66, obS ((appS w35 ([(⟨w39, w40, w38⟩ : Point)] : List Point)) : Sl Point))] := O92.merge (i := 0) rfl rfl O99
    refine sim_cond (fun c101 => ?_) (fun c101 => ?_)
    · refine sim_gen he_spec_l00Src_pick (tg_spec_l00Src_pick c95.2 80 (O100.start (i := 0) rfl rfl)) (fun c102 v103 h104 hq105 => ?_)
      obtain ⟨e_v103, O106⟩ := hq105
      dsimp only at e_v103
      subst v103
      have O107 : Hold B h104 [(AV.ptr o_ 1 0 0, .pt 3 [Sl.enc c102.2.code, iv c102.2.pos, AV.sc (.int .u64 c102.2.seed)]), (AV.ptr o1 1 0 0, .pt 1 [nilS]), (AV.ptr o5 1 0 0, .pt 1 [x66]), (x66, obS ((appS w35 ([(⟨w39, w40, w38⟩ : Point)] : List Point)) : Sl Point))] := O100.merge (i := 0) rfl rfl O106
      refine sim_let (v := iv (wr (c102.1 - 40))) (aBin_sub _ _) ?_
      refine sim_gen he_spec_l00Src_pick (tg_spec_l00Src_pick c102.2 80 (O107.start (i := 0) rfl rfl)) (fun c108 v109 h110 hq111 => ?_)
      obtain ⟨e_v109, O112⟩ := hq111
      dsimp only at e_v109
      subst v109
      have O113 : Hold B h110 [(AV.ptr o_ 1 0 0, .pt 3 [Sl.enc c108.2.code, iv c108.2.pos, AV.sc (.int .u64 c108.2.seed)]), (AV.ptr o1 1 0 0, .pt 1 [nilS]), (AV.ptr o5 1 0 0, .pt 1 [x66]), (x66, obS ((appS w35 ([(⟨w39, w40, w38⟩ : Point)] : List Point)) : Sl Point))] := O107.merge (i := 0) rfl rfl O112
      refine sim_let (v := iv (wr (c108.1 - 40))) (aBin_sub _ _) ?_
      refine sim_let (v := iv (wr (w43 - 1))) (aBin_sub _ _) ?_
      exact sim_ret ⟨rfl, _, rfl, O113⟩
    · refine sim_let (v := iv (wr (w43 - 1))) (aBin_sub _ _) ?_
      exact sim_ret ⟨rfl, _, rfl, O100⟩
  · exact sim_ret ⟨nofun, _, _, _, _, _, _, _, _, rfl, O37⟩
theorem ts_spec_l02DrawStroke (env : Nat → Contract) (he_spec_l00Max : env n_spec_l00Max = .pure (T2 (fun a b : Int => max a b))) (he_spec_l00Min : env n_spec_l00Min = .pure (T2 (fun a b : Int => min a b))) (he_spec_l00Src_one : env n_spec_l00Src_one = .gen (denFn Try.prog ev_spec_l00Src_one n_spec_l00Src_one)) (he_spec_l00Src_pick : env n_spec_l00Src_pick = .gen (denFn Try.prog ev_spec_l00Src_pick n_spec_l00Src_pick)) {B : Base} {h : Heap} {o_ : Nat} (s_ : l00Src) (time_ : Int) (x_ : Int) (y_ : Int) (O : Hold B h [(AV.ptr o_ 1 0 0, .pt 3 [Sl.enc s_.code, iv s_.pos, AV.sc (.int .u64 s_.seed)])]) : Sim (denFn Try.prog env n_spec_l02DrawStroke [AV.ptr o_ 1 0 0, iv time_, iv x_, iv y_] h) (t_spec_l02DrawStroke s_ time_ x_ y_) (fun c p => ∃ x1, p.1 = AV.agg [x1] ∧ Hold B p.2 ([(AV.ptr o_ 1 0 0, .pt 3 [Sl.enc c.2.code, iv c.2.pos, AV.sc (.int .u64 c.2.seed)]), (x1, obS (c.1.points : Sl Point))])) := by
  rw [e_spec_l02DrawStroke]
  unfold t_spec_l02DrawStroke
  refine sim_box O (cs := [nilS]) (by first | rfl | simp) (fun o1 h2 O3 => ?_)
  replace O3 : Hold B h2 [(AV.ptr o_ 1 0 0, .pt 3 [Sl.enc s_.code, iv s_.pos, AV.sc (.int .u64 s_.seed)]), (AV.ptr o1 1 0 0, .pt 1 [nilS])] := O3
  refine sim_let (v := AV.agg [nilS]) (by first | rfl | simp [aBuild, aFill, splice]) ?_
  refine sim_box O3 (cs := [nilS]) (by first | rfl | simp) (fun o5 h6 O7 => ?_)
  replace O7 : Hold B h6 [(AV.ptr o_ 1 0 0, .pt 3 [Sl.enc s_.code, iv s_.pos, AV.sc (.int .u64 s_.seed)]), (AV.ptr o1 1 0 0, .pt 1 [nilS]), (AV.ptr o5 1 0 0, .pt 1 [nilS])] := O7
  refine sim_store O7 2 (cs' := [nilS]) rfl (by first | rfl | simp) (by simp) (by first | rfl | simp) (by first | rfl | simp [splice]) (fun h9 O10 => ?_)
  replace O10 : Hold B h9 [(AV.ptr o_ 1 0 0, .pt 3 [Sl.enc s_.code, iv s_.pos, AV.sc (.int .u64 s_.seed)]), (AV.ptr o1 1 0 0, .pt 1 [nilS]), (AV.ptr o5 1 0 0, .pt 1 [nilS])] := O10
  refine sim_gen he_spec_l00Src_pick (tg_spec_l00Src_pick s_ 60 (O10.start (i := 0) rfl rfl)) (fun c11 v12 h13 hq14 => ?_)
  obtain ⟨e_v12, O15⟩ := hq14
  dsimp only at e_v12
  subst v12
  have O16 : Hold B h13 [(AV.ptr o_ 1 0 0, .pt 3 [Sl.enc c11.2.code, iv c11.2.pos, AV.sc (.int .u64 c11.2.seed)]), (AV.ptr o1 1 0 0, .pt 1 [nilS]), (AV.ptr o5 1 0 0, .pt 1 [nilS])] := O10.merge (i := 0) rfl rfl O15
  refine sim_let (v := iv (wr (c11.1 - 20))) (aBin_sub _ _) ?_
  refine sim_gen he_spec_l00Src_pick (tg_spec_l00Src_pick c11.2 60 (O16.start (i := 0) rfl rfl)) (fun c17 v18 h19 hq20 => ?_)
  obtain ⟨e_v18, O21⟩ := hq20
  dsimp only at e_v18
  subst v18
  have O22 : Hold B h19 [(AV.ptr o_ 1 0 0, .pt 3 [Sl.enc c17.2.code, iv c17.2.pos, AV.sc (.int .u64 c17.2.seed)]), (AV.ptr o1 1 0 0, .pt 1 [nilS]), (AV.ptr o5 1 0 0, .pt 1 [nilS])] := O16.merge (i := 0) rfl rfl O21
  refine sim_let (v := iv (wr (c17.1 - 30))) (aBin_sub _ _) ?_
  refine sim_gen he_spec_l00Src_pick (tg_spec_l00Src_pick c17.2 10 (O22.start (i := 0) rfl rfl)) (fun c23 v24 h25 hq26 => ?_)
  obtain ⟨e_v24, O27⟩ := hq26
  dsimp only at e_v24
  subst v24
  have O28 : Hold B h25 [(AV.ptr o_ 1 0 0, .pt 3 [Sl.enc c23.2.code, iv c23.2.pos, AV.sc (.int .u64 c23.2.seed)]), (AV.ptr o1 1 0 0, .pt 1 [nilS]), (AV.ptr o5 1 0 0, .pt 1 [nilS])] := O22.merge (i := 0) rfl rfl O27
  refine sim_let (v := iv (wr (1 + c23.1))) (aBin_add _ _) ?_
  have O29 : Hold B h25 [(AV.ptr o_ 1 0 0, .pt 3 [Sl.enc c23.2.code, iv c23.2.pos, AV.sc (.int .u64 c23.2.seed)]), (AV.ptr o1 1 0 0, .pt 1 [nilS]), (AV.ptr o5 1 0 0, .pt 1 [nilS]), (nilS, obS ((none : Sl Point) : Sl Point))] := O28.addnil
  refine sim_bind ((tl0_spec_l02DrawStroke env he_spec_l00Max he_spec_l00Min he_spec_l00Src_one he_spec_l00Src_pick o_ o1 o5 c11 c17 c23) ⟨_, rfl, O29⟩) (fun qq118 r hq => ?_)
  obtain ⟨q46, q47, q48, q50⟩ := qq118
  obtain ⟨q51, q52, q53, q54, q55, q56, z49, h44, rfl, O45⟩ := hq
  rw [e_lk0x0_spec_l02DrawStroke]
  refine sim_let (v := AV.agg [z49]) (O45.ld 2 rfl true 1 0) ?_
  refine sim_store O45 1 (cs' := [z49]) rfl (by first | rfl | simp [(O45.one (A := Point) (s := q50) 3 rfl).1, (O45.one (A := Point) (s := q50) 3 rfl).2]) (by simp) (by first | rfl | simp [(O45.one (A := Point) (s := q50) 3 rfl).1, (O45.one (A := Point) (s := q50) 3 rfl).2]) (by first | rfl | simp [splice, (O45.one (A := Point) (s := q50) 3 rfl).1, (O45.one (A := Point) (s := q50) 3 rfl).2]) (fun h57 O58 => ?_)
  replace O58 : Hold B h57 [(AV.ptr o_ 1 0 0, .pt 3 [Sl.enc q46, iv q47, AV.sc (.int .u64 q48)]), (AV.ptr o1 1 0 0, .pt 1 [z49]), (AV.ptr o5 1 0 0, .pt 1 [z49]), (z49, obS (q50 : Sl Point))] := O58
  refine sim_retL (resL_c (v := AV.agg [z49]) (O58.ld 1 rfl true 1 0) (resL_nil _)) ?_
  dsimp only [pack]
  have O59 : Hold B h57 [(AV.ptr o_ 1 0 0, .pt 3 [Sl.enc q46, iv q47, AV.sc (.int .u64 q48)]), (z49, obS (q50 : Sl Point))] := O58.sel [0, 3] (by decide) rfl
  exact sim_ret ⟨_, rfl, O59⟩
noncomputable def ev_spec_l02DrawStroke : Nat → Contract := envL [(n_spec_l00Max, .pure (T2 (fun a b : Int => max a b))), (n_spec_l00Min, .pure (T2 (fun a b : Int => min a b))), (n_spec_l00Src_one, .gen (denFn Try.prog ev_spec_l00Src_one n_spec_l00Src_one)), (n_spec_l00Src_pick, .gen (denFn Try.prog ev_spec_l00Src_pick n_spec_l00Src_pick))]
theorem eo_spec_l02DrawStroke : EnvOK Try.prog ev_spec_l02DrawStroke := (Econs ok_spec_l00Max (Econs ok_spec_l00Min (EconsG (gen_of_den eo_spec_l00Src_one mixed hb_spec_l00Src_one) (EconsG (gen_of_den eo_spec_l00Src_pick mixed hb_spec_l00Src_pick) E0))))
theorem tg_spec_l02DrawStroke {B : Base} {h : Heap} {o_ : Nat} (s_ : l00Src) (time_ : Int) (x_ : Int) (y_ : Int) (O : Hold B h [(AV.ptr o_ 1 0 0, .pt 3 [Sl.enc s_.code, iv s_.pos, AV.sc (.int .u64 s_.seed)])]) : Sim (denFn Try.prog ev_spec_l02DrawStroke n_spec_l02DrawStroke [AV.ptr o_ 1 0 0, iv time_, iv x_, iv y_] h) (t_spec_l02DrawStroke s_ time_ x_ y_) (fun c p => ∃ x1, p.1 = AV.agg [x1] ∧ Hold B p.2 ([(AV.ptr o_ 1 0 0, .pt 3 [Sl.enc c.2.code, iv c.2.pos, AV.sc (.int .u64 c.2.seed)]), (x1, obS (c.1.points : Sl Point))])) := ts_spec_l02DrawStroke ev_spec_l02DrawStroke (by simp [ev_spec_l02DrawStroke, envL]) (by simp [ev_spec_l02DrawStroke, envL]) (by simp [ev_spec_l02DrawStroke, envL]) (by simp [ev_spec_l02DrawStroke, envL]) s_ time_ x_ y_  O

def t_spec_l02Last (s_ : Stroke) : Option Int :=
  obind (getI (s_.points.getD []) (wr ((((s_.points.getD []).length : Nat) : Int) - 1))) fun a1 =>
  some a1.t
def tp_spec_l02Last (s_p : Pt Stroke) : Option Int := obind s_p.get fun s_ => t_spec_l02Last s_

theorem ts_spec_l02Last (env : Nat → Contract)  (s_ : Stroke) {s_p : Pt Stroke} (hp_s_ : s_p.get = some s_) : Sim (denFn Try.prog env n_spec_l02Last [AV.fptr (Row.w Stroke) (s_p.tab.map Row.cells) s_p.i 0] []) (t_spec_l02Last s_) fun c p => release p.2 depth p.1 = some ((fun c : Int => enc c) c) := by
  have O := Hold.nil []
  generalize hB : (⟨[], []⟩ : Base) = B at O
  clear hB
  rw [e_spec_l02Last]
  unfold t_spec_l02Last
  refine sim_let (v := AV.fptr (Row.w Stroke) (s_p.tab.map Row.cells) s_p.i 0) rfl ?_
  refine sim_let (v := AV.fptr (Row.w Stroke) (s_p.tab.map Row.cells) s_p.i 0) rfl ?_
  refine sim_let (v := Sl.enc s_.points) (ld_pt hp_s_ false 1 0) ?_
  refine sim_let (v := AV.fptr (Row.w Stroke) (s_p.tab.map Row.cells) s_p.i 0) rfl ?_
  refine sim_let (v := AV.fptr (Row.w Stroke) (s_p.tab.map Row.cells) s_p.i 0) rfl ?_
  refine sim_let (v := Sl.enc s_.points) (ld_pt hp_s_ false 1 0) ?_
  refine sim_let (v := iv (((s_.points.getD []).length : Nat) : Int)) (Tab.enc [] s_.points).len ?_
  refine sim_let (v := iv (wr ((((s_.points.getD []).length : Nat) : Int) - 1))) (aBin_sub _ _) ?_
  refine sim_get (Tab.enc [] s_.points) (fun m2 a1 hi3 hm4 => ?_)
  refine sim_let (v := elp (Sl.enc s_.points) m2 2) ((Tab.enc [] s_.points).fld _ _ _) ?_
  refine sim_let (v := iv a1.t) ((Tab.enc [] s_.points).ld hm4 false 1 2) ?_
  exact sim_ret (release_plain (by rfl) _)
theorem tt_spec_l02Last : PureOK Try.prog n_spec_l02Last (C1 (fun c : Int => enc c) tp_spec_l02Last) := pureC1 E0 mixed hb_spec_l02Last fun s_p => sim_getP fun s_ hp_s_ => ts_spec_l02Last _  s_ hp_s_

def s0_spec_l02Draw : ((Sl UInt8) × Int × Int × (Sl Stroke) × Int × Int × Int) → Option (Sum ((Sl UInt8) × Int × Int × (Sl Stroke) × Int × Int × Int) ((Sl UInt8) × Int × Int × (Sl Stroke))) := fun (w31, w32, w33, w35, w40, w41, w42) =>
  bif decide (0 < w42) then
    obind (t_spec_l00Src_pick (⟨w31, w32, w33⟩ : l00Src) 200) fun c60 =>
    obind (t_spec_l02DrawStroke c60.2 w40 w41 (wr (300 + c60.1))) fun c66 =>
    obind (appO w35 ([(⟨c66.1.points⟩ : Stroke)] : List Stroke)) fun _ =>
    obind (t_spec_l02Last c66.1) fun c94 =>
    obind (t_spec_l00Src_pick c66.2 200) fun c95 =>
    obind (t_spec_l00Src_pick c95.2 200) fun c101 =>
    some (.inl (c101.2.code, c101.2.pos, c101.2.seed, (appS w35 ([(⟨c66.1.points⟩ : Stroke)] : List Stroke)), wr ((wr (c94 + 1)) + c95.1), wr (w41 + c101.1), wr (w42 - 1)))
  else
    some (.inr (w31, w32, w33, w35))
def t_spec_l02Draw (s_ : l00Src) (most_ : Int) : Option (Ink × l00Src) :=
  obind (t_spec_l00Src_pick s_ 100) fun c11 =>
  obind (t_spec_l00Src_pick c11.2 200) fun c17 =>
  obind (t_spec_l00Src_pick c17.2 (wr (most_ + 1))) fun c23 =>
  obind (loopT s0_spec_l02Draw (c23.2.code, c23.2.pos, c23.2.seed, (none : Sl Stroke), c11.1, wr (100 + c17.1), c23.1)) fun (q45, q46, q47, q49) =>
  some ((⟨q49⟩ : Ink), (⟨q45, q46, q47⟩ : l00Src))

theorem tl0_spec_l02Draw (env : Nat → Contract) {B : Base} (he_spec_l00Src_pick : env n_spec_l00Src_pick = .gen (denFn Try.prog ev_spec_l00Src_pick n_spec_l00Src_pick)) (he_spec_l02DrawStroke : env n_spec_l02DrawStroke = .gen (denFn Try.prog ev_spec_l02DrawStroke n_spec_l02DrawStroke)) (he_spec_l02Last : env n_spec_l02Last = .pure (C1 (fun c : Int => enc c) tp_spec_l02Last)) (o_ : Nat) (most_ : Int) (o1 : Nat) (o5 : Nat) (c11 : Int × l00Src) (c17 : Int × l00Src) (c23 : Int × l00Src)  {st : (Sl UInt8) × Int × Int × (Sl Stroke) × Int × Int × Int} {tm : TM} {h : Heap} (R : (fun (st : (Sl UInt8) × Int × Int × (Sl Stroke) × Int × Int × Int) tm h38 => match st with | (w31, w32, w33, w35, w40, w41, w42) => ∃ z34, ∃ ps36 : PS Stroke, tm = [AV.ptr o_ 1 0 0, iv most_, und, und, AV.ptr o1 1 0 0, AV.ptr o5 1 0 0, iv w40, iv w41, iv w42, AV.top, AV.agg [nilS], AV.ptr o_ 1 0 0, iv c11.1, AV.ptr o_ 1 0 0, iv c17.1, iv (wr (100 + c17.1)), AV.ptr o_ 1 0 0, iv most_, iv (wr (most_ + 1)), iv c23.1, AV.top, AV.top, AV.top, AV.top, AV.top, AV.top, AV.top, AV.top, AV.top, AV.top, AV.top, AV.top, AV.top, AV.top, AV.top, AV.top, AV.top, AV.top, AV.top, AV.top, AV.top, AV.top, AV.top, AV.top, AV.top, AV.top, und] ∧ pj ps36 = w35 ∧ Hold B h38 ([(AV.ptr o_ 1 0 0, .pt 3 [Sl.enc w31, iv w32, AV.sc (.int .u64 w33)]), (AV.ptr o1 1 0 0, .pt 1 [nilS]), (AV.ptr o5 1 0 0, .pt 1 [z34])] ++ D2 (A := Stroke) z34 ps36)) st tm h) : Sim (loopP hm0_spec_l02Draw xm0_spec_l02Draw (lb0_spec_l02Draw env) tm h) (loopT s0_spec_l02Draw st) (fun (q : (Sl UInt8) × Int × Int × (Sl Stroke)) (r : Res) => match q with | (q45, q46, q47, q49) => ∃ (q52 : Int) (q53 : Int) (q54 : Int) (z48 : AV) (z55 : AV) (ps50 : PS Stroke) (h43 : Heap), r = (.exit 0, [AV.ptr o_ 1 0 0, iv most_, und, und, AV.ptr o1 1 0 0, AV.ptr o5 1 0 0, iv q52, iv q53, iv q54, z55, AV.agg [nilS], AV.ptr o_ 1 0 0, iv c11.1, AV.ptr o_ 1 0 0, iv c17.1, iv (wr (100 + c17.1)), AV.ptr o_ 1 0 0, iv most_, iv (wr (most_ + 1)), iv c23.1, AV.top, AV.top, AV.top, AV.top, AV.top, AV.top, AV.top, AV.top, AV.top, AV.top, AV.top, AV.top, AV.top, AV.top, AV.top, AV.top, AV.top, AV.top, AV.top, AV.top, AV.top, AV.top, AV.top, AV.top, AV.top, AV.top, und], h43) ∧ pj ps50 = q49 ∧ Hold B h43 ([(AV.ptr o_ 1 0 0, .pt 3 [Sl.enc q45, iv q46, AV.sc (.int .u64 q47)]), (AV.ptr o1 1 0 0, .pt 1 [nilS]), (AV.ptr o5 1 0 0, .pt 1 [z48])] ++ D2 (A := Stroke) z48 ps50)) := by
  refine loop_sim (Rel := fun (st : (Sl UInt8) × Int × Int × (Sl Stroke) × Int × Int × Int) tm h38 => match st with | (w31, w32, w33, w35, w40, w41, w42) => ∃ z34, ∃ ps36 : PS Stroke, tm = [AV.ptr o_ 1 0 0, iv most_, und, und, AV.ptr o1 1 0 0, AV.ptr o5 1 0 0, iv w40, iv w41, iv w42, AV.top, AV.agg [nilS], AV.ptr o_ 1 0 0, iv c11.1, AV.ptr o_ 1 0 0, iv c17.1, iv (wr (100 + c17.1)), AV.ptr o_ 1 0 0, iv most_, iv (wr (most_ + 1)), iv c23.1, AV.top, AV.top, AV.top, AV.top, AV.top, AV.top, AV.top, AV.top, AV.top, AV.top, AV.top, AV.top, AV.top, AV.top, AV.top, AV.top, AV.top, AV.top, AV.top, AV.top, AV.top, AV.top, AV.top, AV.top, AV.top, AV.top, und] ∧ pj ps36 = w35 ∧ Hold B h38 ([(AV.ptr o_ 1 0 0, .pt 3 [Sl.enc w31, iv w32, AV.sc (.int .u64 w33)]), (AV.ptr o1 1 0 0, .pt 1 [nilS]), (AV.ptr o5 1 0 0, .pt 1 [z34])] ++ D2 (A := Stroke) z34 ps36)) (fun st tm h38 R => ?_) R
  obtain ⟨w31, w32, w33, w35, w40, w41, w42⟩ := st
  obtain ⟨z34, ps36, rfl, hp37, O39⟩ := R
  rw [e_lb0_spec_l02Draw]
  unfold s0_spec_l02Draw
  dsimp only
  refine sim_let (v := bv (decide (0 < w42))) (aBin_gtr _ _) ?_
  refine sim_cond (fun c59 => ?_) (fun c59 => ?_)
  · refine sim_gen he_spec_l00Src_pick (tg_spec_l00Src_pick (⟨w31, w32, w33⟩ : l00Src) 200 (O39.start (i := 0) rfl rfl)) (fun c60 v61 h62 hq63 => ?_)
    obtain ⟨e_v61, O64⟩ := hq63
    dsimp only at e_v61
    subst v61
    have O65 : Hold B h62 ([(AV.ptr o_ 1 0 0, .pt 3 [Sl.enc c60.2.code, iv c60.2.pos, AV.sc (.int .u64 c60.2.seed)]), (AV.ptr o1 1 0 0, .pt 1 [nilS]), (AV.ptr o5 1 0 0, .pt 1 [z34])] ++ D2 (A := Stroke) z34 ps36) := Hold.rot (l := [(AV.ptr o_ 1 0 0, .pt 3 [Sl.enc c60.2.code, iv c60.2.pos, AV.sc (.int .u64 c60.2.seed)]), (AV.ptr o1 1 0 0, .pt 1 [nilS]), (AV.ptr o5 1 0 0, .pt 1 [z34])]) (d := D2 (A := Stroke) z34 ps36) (n := []) (O39.merge (i := 0) rfl rfl O64)
    refine sim_let (v := iv (wr (300 + c60.1))) (aBin_add _ _) ?_
    refine sim_gen he_spec_l02DrawStroke (tg_spec_l02DrawStroke c60.2 w40 w41 (wr (300 + c60.1)) (O65.start (i := 0) rfl rfl)) (fun c66 v67 h68 hq69 => ?_)
    obtain ⟨x72, e_v67, O70⟩ := hq69
    dsimp only at e_v67
    subst v67
    have O71 : Hold B h68 ([(AV.ptr o_ 1 0 0, .pt 3 [Sl.enc c66.2.code, iv c66.2.pos, AV.sc (.int .u64 c66.2.seed)]), (AV.ptr o1 1 0 0, .pt 1 [nilS]), (AV.ptr o5 1 0 0, .pt 1 [z34]), (x72, obS (c66.1.points : Sl Point))] ++ D2 (A := Stroke) z34 ps36) := Hold.rot (l := [(AV.ptr o_ 1 0 0, .pt 3 [Sl.enc c66.2.code, iv c66.2.pos, AV.sc (.int .u64 c66.2.seed)]), (AV.ptr o1 1 0 0, .pt 1 [nilS]), (AV.ptr o5 1 0 0, .pt 1 [z34])]) (d := D2 (A := Stroke) z34 ps36) (n := [(x72, obS (c66.1.points : Sl Point))]) (O65.merge (i := 0) rfl rfl O70)
    refine sim_box O71 (cs := [nilS]) (by first | rfl | simp) (fun o74 h75 O76 => ?_)
    replace O76 : Hold B h75 ([(AV.ptr o_ 1 0 0, .pt 3 [Sl.enc c66.2.code, iv c66.2.pos, AV.sc (.int .u64 c66.2.seed)]), (AV.ptr o1 1 0 0, .pt 1 [nilS]), (AV.ptr o5 1 0 0, .pt 1 [z34]), (x72, obS (c66.1.points : Sl Point)), (AV.ptr o74 1 0 0, .pt 1 [nilS])] ++ D2 (A := Stroke) z34 ps36) := Hold.rot O76
    refine sim_store O76 4 (cs' := [x72]) rfl (by first | rfl | simp [(O76.one (A := Point) (s := c66.1.points) 3 rfl).1, (O76.one (A := Point) (s := c66.1.points) 3 rfl).2]) (by simp) (by first | rfl | simp [(O76.one (A := Point) (s := c66.1.points) 3 rfl).1, (O76.one (A := Point) (s := c66.1.points) 3 rfl).2]) (by first | rfl | simp [splice, (O76.one (A := Point) (s := c66.1.points) 3 rfl).1, (O76.one (A := Point) (s := c66.1.points) 3 rfl).2]) (fun h78 O79 => ?_)
    replace O79 : Hold B h78 ([(AV.ptr o_ 1 0 0, .pt 3 [Sl.enc c66.2.code, iv c66.2.pos, AV.sc (.int .u64 c66.2.seed)]), (AV.ptr o1 1 0 0, .pt 1 [nilS]), (AV.ptr o5 1 0 0, .pt 1 [z34]), (x72, obS (c66.1.points : Sl Point)), (AV.ptr o74 1 0 0, .pt 1 [x72])] ++ D2 (A := Stroke) z34 ps36) := O79
    refine sim_let (v := AV.ptr o5 1 0 0) rfl ?_
    refine sim_let (v := z34) (O79.ld 2 rfl false 1 0) ?_
    refine sim_let (v := AV.agg [x72]) (O79.ld 4 rfl true 1 0) ?_
    refine sim_buildRaw O79 [[x72]] 1 rfl (by first | rfl | simp [aFillRows, zrows, (O79.one (A := Point) (s := c66.1.points) 3 rfl).1, (O79.one (A := Point) (s := c66.1.points) 3 rfl).2]) rfl (fun x80 h81 O82 => ?_)
    replace O82 : Hold B h81 ([(AV.ptr o_ 1 0 0, .pt 3 [Sl.enc c66.2.code, iv c66.2.pos, AV.sc (.int .u64 c66.2.seed)]), (AV.ptr o1 1 0 0, .pt 1 [nilS]), (AV.ptr o5 1 0 0, .pt 1 [z34]), (x72, obS (c66.1.points : Sl Point)), (AV.ptr o74 1 0 0, .pt 1 [x72]), (x80, .sl 1 [[x72]])] ++ D2 (A := Stroke) z34 ps36) := Hold.rot O82
    have O84 : Hold B h81 ([(AV.ptr o_ 1 0 0, .pt 3 [Sl.enc c66.2.code, iv c66.2.pos, AV.sc (.int .u64 c66.2.seed)]), (AV.ptr o1 1 0 0, .pt 1 [nilS]), (AV.ptr o5 1 0 0, .pt 1 [z34]), (AV.ptr o74 1 0 0, .pt 1 [x72]), (x72, obS (c66.1.points : Sl Point)), (x80, .sl 1 [[x72]])] ++ D2 (A := Stroke) z34 ps36) := O82.selD [0, 1, 2, 4, 3, 5] (by decide) rfl
    refine sim_push (l := [(AV.ptr o_ 1 0 0, .pt 3 [Sl.enc c66.2.code, iv c66.2.pos, AV.sc (.int .u64 c66.2.seed)]), (AV.ptr o1 1 0 0, .pt 1 [nilS]), (AV.ptr o5 1 0 0, .pt 1 [z34]), (AV.ptr o74 1 0 0, .pt 1 [x72])]) (a := (⟨c66.1.points⟩ : Stroke)) (y := x72) (x := z34) (ps := ps36) O84 hp37 (by decide) (fun x85 ps88 h86 hp89 hm90 O87 => ?_)
    refine sim_let (v := AV.ptr o5 1 0 0) rfl ?_
    refine sim_store O87 2 (cs' := [x85]) rfl (by first | rfl | simp [(D2.oneX (l := [(AV.ptr o_ 1 0 0, .pt 3 [Sl.enc c66.2.code, iv c66.2.pos, AV.sc (.int .u64 c66.2.seed)]), (AV.ptr o1 1 0 0, .pt 1 [nilS]), (AV.ptr o5 1 0 0, .pt 1 [z34]), (AV.ptr o74 1 0 0, .pt 1 [x72])]) (x := x85) (ps := ps88) (A := Stroke) O87).1, (D2.oneX (l := [(AV.ptr o_ 1 0 0, .pt 3 [Sl.enc c66.2.code, iv c66.2.pos, AV.sc (.int .u64 c66.2.seed)]), (AV.ptr o1 1 0 0, .pt 1 [nilS]), (AV.ptr o5 1 0 0, .pt 1 [z34]), (AV.ptr o74 1 0 0, .pt 1 [x72])]) (x := x85) (ps := ps88) (A := Stroke) O87).2]) (by simp) (by first | rfl | simp [(D2.oneX (l := [(AV.ptr o_ 1 0 0, .pt 3 [Sl.enc c66.2.code, iv c66.2.pos, AV.sc (.int .u64 c66.2.seed)]), (AV.ptr o1 1 0 0, .pt 1 [nilS]), (AV.ptr o5 1 0 0, .pt 1 [z34]), (AV.ptr o74 1 0 0, .pt 1 [x72])]) (x := x85) (ps := ps88) (A := Stroke) O87).1, (D2.oneX (l := [(AV.ptr o_ 1 0 0, .pt 3 [Sl.enc c66.2.code, iv c66.2.pos, AV.sc (.int .u64 c66.2.seed)]), (AV.ptr o1 1 0 0, .pt 1 [nilS]), (AV.ptr o5 1 0 0, .pt 1 [z34]), (AV.ptr o74 1 0 0, .pt 1 [x72])]) (x := x85) (ps := ps88) (A := Stroke) O87).2]) (by first | rfl | simp [splice, (D2.oneX (l := [(AV.ptr o_ 1 0 0, .pt 3 [Sl.enc c66.2.code, iv c66.2.pos, AV.sc (.int .u64 c66.2.seed)]), (AV.ptr o1 1 0 0, .pt 1 [nilS]), (AV.ptr o5 1 0 0, .pt 1 [z34]), (AV.ptr o74 1 0 0, .pt 1 [x72])]) (x := x85) (ps := ps88) (A := Stroke) O87).1, (D2.oneX (l := [(AV.ptr o_ 1 0 0, .pt 3 [Sl.enc c66.2.code, iv c66.2.pos, AV.sc (.int .u64 c66.2.seed)]), (AV.ptr o1 1 0 0, .pt 1 [nilS]), (AV.ptr o5 1 0 0, .pt 1 [z34]), (AV.ptr o74 1 0 0, .pt 1 [x72])]) (x := x85) (ps := ps88) (A := Stroke) O87).2]) (fun h92 O93 => ?_)
    replace O93 : Hold B h92 ([(AV.ptr o_ 1 0 0, .pt 3 [Sl.enc c66.2.code, iv c66.2.pos, AV.sc (.int .u64 c66.2.seed)]), (AV.ptr o1 1 0 0, .pt 1 [nilS]), (AV.ptr o5 1 0 0, .pt 1 [x85]), (AV.ptr o74 1 0 0, .pt 1 [x72])] ++ D2 (A := Stroke) x85 ps88) := O93
    refine sim_eqO (y' := tp_spec_l02Last ⟨[c66.1], 0⟩) (by simp only [tp_spec_l02Last, get_pt1, obind_sm]) ?_
    refine sim_call1 he_spec_l02Last (O93.snapR 3 rfl c66.1 rfl (by simp [omap, O93.snap7 (A := Point) (s := c66.1.points) _ (D2.at hm90)])) (fun c94 => ?_)
    refine sim_let2 (hand_plain (by rfl) _ _) ?_
    refine sim_let (v := iv (wr (c94 + 1))) (aBin_add _ _) ?_
    refine sim_gen he_spec_l00Src_pick (tg_spec_l00Src_pick c66.2 200 (O93.start (i := 0) rfl rfl)) (fun c95 v96 h97 hq98 => ?_)
    obtain ⟨e_v96, O99⟩ := hq98
    dsimp only at e_v96
    subst v96
    have O100 : Hold B h97 ([(AV.ptr o_ 1 0 0, .pt 3 [Sl.enc c95.2.code, iv c95.2.pos, AV.sc (.int .u64 c95.2.seed)]), (AV.ptr o1 1 0 0, .pt 1 [nilS]), (AV.ptr o5 1 0 0, .pt 1 [x85]), (AV.ptr o74 1 0 0, .pt 1 [x72])] ++ D2 (A := Stroke) x85 ps88) := Hold.rot (l := [(AV.ptr o_ 1 0 0, .pt 3 [Sl.enc c95.2.code, iv c95.2.pos, AV.sc (.int .u64 c95.2.seed)]), (AV.ptr o1 1 0 0, .pt 1 [nilS]), (AV.ptr o5 1 0 0, .pt 1 [x85]), (AV.ptr o74 1 0 0, .pt 1 [x72])]) (d := D2 (A := Stroke) x85 ps88) (n := []) (O93.merge (i := 0) rfl rfl O99)
    refine sim_let (v := iv (wr ((wr (c94 + 1)) + c95.1))) (aBin_add _ _) ?_
    refine sim_gen he_spec_l00Src_pick (tg_spec_l00Src_pick c95.2 200 (O100.start (i := 0) rfl rfl)) (fun c101 v102 h103 hq104 => ?_)
    obtain ⟨e_v102, O105⟩ := hq104
    dsimp only at e_v102
    subst v102
    have O106 : Hold B h103 ([(AV.ptr o_ 1 0 0, .pt 3 [Sl.enc c101.2.code, iv c101.2.pos, AV.sc (.int .u64 c101.2.seed)]), (AV.ptr o1 1 0 0, .pt 1 [nilS]), (AV.ptr o5 1 0 0, .pt 1 [x85]), (AV.ptr o74 1 0 0, .pt 1 [x72])] ++ D2 (A := Stroke) x85 ps88) := Hold.rot (l := [(AV.ptr o_ 1 0 0, .pt 3 [Sl.enc c101.2.code, iv c101.2.pos, AV.sc (.int .u64 c101.2.seed)]), (AV.ptr o1 1 0 0, .pt 1 [nilS]), (AV.ptr o5 1 0 0, .pt 1 [x85]), (AV.ptr o74 1 0 0, .pt 1 [x72])]) (d := D2 (A := Stroke) x85 ps88) (n := []) (O100.merge (i := 0) rfl rfl O105)
    refine sim_let (v := iv (wr (w41 + c101.1))) (aBin_add _ _) ?_
    refine sim_let (v := iv (wr (w42 - 1))) (aBin_sub _ _) ?_
    have O107 : Hold B h103 ([(AV.ptr o_ 1 0 0, .pt 3 [Sl.enc c101.2.code, iv c101.2.pos, AV.sc (.int .u64 c101.2.seed)]), (AV.ptr o1 1 0 0, .pt 1 [nilS]), (AV.ptr o5 1 0 0, .pt 1 [x85])] ++ D2 (A := Stroke) x85 ps88) := O106.selD [0, 1, 2] (by decide) rfl
    exact sim_ret ⟨rfl, _, _, rfl, hp89, O107⟩
  · exact sim_ret ⟨nofun, _, _, _, _, _, _, _, rfl, hp37, O39⟩
theorem ts_spec_l02Draw (env : Nat → Contract) (he_spec_l00Src_pick : env n_spec_l00Src_pick = .gen (denFn Try.prog ev_spec_l00Src_pick n_spec_l00Src_pick)) (he_spec_l02DrawStroke : env n_spec_l02DrawStroke = .gen (denFn Try.prog ev_spec_l02DrawStroke n_spec_l02DrawStroke)) (he_spec_l02Last : env n_spec_l02Last = .pure (C1 (fun c : Int => enc c) tp_spec_l02Last)) {B : Base} {h : Heap} {o_ : Nat} (s_ : l00Src) (most_ : Int) (O : Hold B h [(AV.ptr o_ 1 0 0, .pt 3 [Sl.enc s_.code, iv s_.pos, AV.sc (.int .u64 s_.seed)])]) : Sim (denFn Try.prog env n_spec_l02Draw [AV.ptr o_ 1 0 0, iv most_] h) (t_spec_l02Draw s_ most_) (fun c p => ∃ x1, ∃ ps1 : PS Stroke, p.1 = AV.agg [x1] ∧ pj ps1 = c.1.strokes ∧ Hold B p.2 ([(AV.ptr o_ 1 0 0, .pt 3 [Sl.enc c.2.code, iv c.2.pos, AV.sc (.int .u64 c.2.seed)])] ++ D2 (A := Stroke) x1 ps1)) := by
  rw [e_spec_l02Draw]
  unfold t_spec_l02Draw
  refine sim_box O (cs := [nilS]) (by first | rfl | simp) (fun o1 h2 O3 => ?_)
  replace O3 : Hold B h2 [(AV.ptr o_ 1 0 0, .pt 3 [Sl.enc s_.code, iv s_.pos, AV.sc (.int .u64 s_.seed)]), (AV.ptr o1 1 0 0, .pt 1 [nilS])] := O3
  refine sim_let (v := AV.agg [nilS]) (by first | rfl | simp [aBuild, aFill, splice]) ?_
  refine sim_box O3 (cs := [nilS]) (by first | rfl | simp) (fun o5 h6 O7 => ?_)
  replace O7 : Hold B h6 [(AV.ptr o_ 1 0 0, .pt 3 [Sl.enc s_.code, iv s_.pos, AV.sc (.int .u64 s_.seed)]), (AV.ptr o1 1 0 0, .pt 1 [nilS]), (AV.ptr o5 1 0 0, .pt 1 [nilS])] := O7
  refine sim_store O7 2 (cs' := [nilS]) rfl (by first | rfl | simp) (by simp) (by first | rfl | simp) (by first | rfl | simp [splice]) (fun h9 O10 => ?_)
  replace O10 : Hold B h9 [(AV.ptr o_ 1 0 0, .pt 3 [Sl.enc s_.code, iv s_.pos, AV.sc (.int .u64 s_.seed)]), (AV.ptr o1 1 0 0, .pt 1 [nilS]), (AV.ptr o5 1 0 0, .pt 1 [nilS])] := O10
  refine sim_gen he_spec_l00Src_pick (tg_spec_l00Src_pick s_ 100 (O10.start (i := 0) rfl rfl)) (fun c11 v12 h13 hq14 => ?_)
  obtain ⟨e_v12, O15⟩ := hq14
  dsimp only at e_v12
  subst v12
  have O16 : Hold B h13 [(AV.ptr o_ 1 0 0, .pt 3 [Sl.enc c11.2.code, iv c11.2.pos, AV.sc (.int .u64 c11.2.seed)]), (AV.ptr o1 1 0 0, .pt 1 [nilS]), (AV.ptr o5 1 0 0, .pt 1 [nilS])] := O10.merge (i := 0) rfl rfl O15
  refine sim_gen he_spec_l00Src_pick (tg_spec_l00Src_pick c11.2 200 (O16.start (i := 0) rfl rfl)) (fun c17 v18 h19 hq20 => ?_)
  obtain ⟨e_v18, O21⟩ := hq20
  dsimp only at e_v18
  subst v18
  have O22 : Hold B h19 [(AV.ptr o_ 1 0 0, .pt 3 [Sl.enc c17.2.code, iv c17.2.pos, AV.sc (.int .u64 c17.2.seed)]), (AV.ptr o1 1 0 0, .pt 1 [nilS]), (AV.ptr o5 1 0 0, .pt 1 [nilS])] := O16.merge (i := 0) rfl rfl O21
  refine sim_let (v := iv (wr (100 + c17.1))) (aBin_add _ _) ?_
  refine sim_let (v := iv (wr (most_ + 1))) (aBin_add _ _) ?_
  refine sim_gen he_spec_l00Src_pick (tg_spec_l00Src_pick c17.2 (wr (most_ + 1)) (O22.start (i := 0) rfl rfl)) (fun c23 v24 h25 hq26 => ?_)
  obtain ⟨e_v24, O27⟩ := hq26
  dsimp only at e_v24
  subst v24
  have O28 : Hold B h25 [(AV.ptr o_ 1 0 0, .pt 3 [Sl.enc c23.2.code, iv c23.2.pos, AV.sc (.int .u64 c23.2.seed)]), (AV.ptr o1 1 0 0, .pt 1 [nilS]), (AV.ptr o5 1 0 0, .pt 1 [nilS])] := O22.merge (i := 0) rfl rfl O27
  have O29 : Hold B h25 ([(AV.ptr o_ 1 0 0, .pt 3 [Sl.enc c23.2.code, iv c23.2.pos, AV.sc (.int .u64 c23.2.seed)]), (AV.ptr o1 1 0 0, .pt 1 [nilS]), (AV.ptr o5 1 0 0, .pt 1 [nilS])] ++ D2 (A := Stroke) nilS (none : PS Stroke)) := O28.addnil
  refine sim_bind ((tl0_spec_l02Draw env he_spec_l00Src_pick he_spec_l02DrawStroke he_spec_l02Last o_ most_ o1 o5 c11 c17 c23) ⟨_, _, rfl, (rfl : pj (none : PS Stroke) = (none : Sl Stroke)), O29⟩) (fun qq110 r hq => ?_)
  obtain ⟨q45, q46, q47, q49⟩ := qq110
  obtain ⟨q52, q53, q54, z48, z55, ps50, h43, rfl, hp51, O44⟩ := hq
  rw [e_lk0x0_spec_l02Draw]
  refine sim_let (v := AV.agg [z48]) (O44.ld 2 rfl true 1 0) ?_
  refine sim_store O44 1 (cs' := [z48]) rfl (by first | rfl | simp [(D2.oneX (l := [(AV.ptr o_ 1 0 0, .pt 3 [Sl.enc q45, iv q46, AV.sc (.int .u64 q47)]), (AV.ptr o1 1 0 0, .pt 1 [nilS]), (AV.ptr o5 1 0 0, .pt 1 [z48])]) (x := z48) (ps := ps50) (A := Stroke) O44).1, (D2.oneX (l := [(AV.ptr o_ 1 0 0, .pt 3 [Sl.enc q45, iv q46, AV.sc (.int .u64 q47)]), (AV.ptr o1 1 0 0, .pt 1 [nilS]), (AV.ptr o5 1 0 0, .pt 1 [z48])]) (x := z48) (ps := ps50) (A := Stroke) O44).2]) (by simp) (by first | rfl | simp [(D2.oneX (l := [(AV.ptr o_ 1 0 0, .pt 3 [Sl.enc q45, iv q46, AV.sc (.int .u64 q47)]), (AV.ptr o1 1 0 0, .pt 1 [nilS]), (AV.ptr o5 1 0 0, .pt 1 [z48])]) (x := z48) (ps := ps50) (A := Stroke) O44).1, (D2.oneX (l := [(AV.ptr o_ 1 0 0, .pt 3 [Sl.enc q45, iv q46, AV.sc (.int .u64 q47)]), (AV.ptr o1 1 0 0, .pt 1 [nilS]), (AV.ptr o5 1 0 0, .pt 1 [z48])]) (x := z48) (ps := ps50) (A := Stroke) O44).2]) (by first | rfl | simp [splice, (D2.oneX (l := [(AV.ptr o_ 1 0 0, .pt 3 [Sl.enc q45, iv q46, AV.sc (.int .u64 q47)]), (AV.ptr o1 1 0 0, .pt 1 [nilS]), (AV.ptr o5 1 0 0, .pt 1 [z48])]) (x := z48) (ps := ps50) (A := Stroke) O44).1, (D2.oneX (l := [(AV.ptr o_ 1 0 0, .pt 3 [Sl.enc q45, iv q46, AV.sc (.int .u64 q47)]), (AV.ptr o1 1 0 0, .pt 1 [nilS]), (AV.ptr o5 1 0 0, .pt 1 [z48])]) (x := z48) (ps := ps50) (A := Stroke) O44).2]) (fun h56 O57 => ?_)
  replace O57 : Hold B h56 ([(AV.ptr o_ 1 0 0, .pt 3 [Sl.enc q45, iv q46, AV.sc (.int .u64 q47)]), (AV.ptr o1 1 0 0, .pt 1 [z48]), (AV.ptr o5 1 0 0, .pt 1 [z48])] ++ D2 (A := Stroke) z48 ps50) := O57
  refine sim_retL (resL_c (v := AV.agg [z48]) (O57.ld 1 rfl true 1 0) (resL_nil _)) ?_
  dsimp only [pack]
  have O58 : Hold B h56 ([(AV.ptr o_ 1 0 0, .pt 3 [Sl.enc q45, iv q46, AV.sc (.int .u64 q47)])] ++ D2 (A := Stroke) z48 ps50) := O57.selD [0] (by decide) rfl
  exact sim_ret ⟨_, _, rfl, hp51, O58⟩
noncomputable def ev_spec_l02Draw : Nat → Contract := envL [(n_spec_l00Src_pick, .gen (denFn Try.prog ev_spec_l00Src_pick n_spec_l00Src_pick)), (n_spec_l02DrawStroke, .gen (denFn Try.prog ev_spec_l02DrawStroke n_spec_l02DrawStroke)), (n_spec_l02Last, .pure (C1 (fun c : Int => enc c) tp_spec_l02Last))]
theorem eo_spec_l02Draw : EnvOK Try.prog ev_spec_l02Draw := (EconsG (gen_of_den eo_spec_l00Src_pick mixed hb_spec_l00Src_pick) (EconsG (gen_of_den eo_spec_l02DrawStroke mixed hb_spec_l02DrawStroke) (Econs tt_spec_l02Last E0)))
theorem tg_spec_l02Draw {B : Base} {h : Heap} {o_ : Nat} (s_ : l00Src) (most_ : Int) (O : Hold B h [(AV.ptr o_ 1 0 0, .pt 3 [Sl.enc s_.code, iv s_.pos, AV.sc (.int .u64 s_.seed)])]) : Sim (denFn Try.prog ev_spec_l02Draw n_spec_l02Draw [AV.ptr o_ 1 0 0, iv most_] h) (t_spec_l02Draw s_ most_) (fun c p => ∃ x1, ∃ ps1 : PS Stroke, p.1 = AV.agg [x1] ∧ pj ps1 = c.1.strokes ∧ Hold B p.2 ([(AV.ptr o_ 1 0 0, .pt 3 [Sl.enc c.2.code, iv c.2.pos, AV.sc (.int .u64 c.2.seed)])] ++ D2 (A := Stroke) x1 ps1)) := ts_spec_l02Draw ev_spec_l02Draw (by simp [ev_spec_l02Draw, envL]) (by simp [ev_spec_l02Draw, envL]) (by simp [ev_spec_l02Draw, envL]) s_ most_  O

def s0_spec_l02Long (n_ : Int) : ((Sl Point) × Int) → Option (Sum ((Sl Point) × Int) (Sl Point)) := fun (w14, w17) =>
  bif decide (w17 < n_) then
    obind (appO w14 ([(⟨wr (10 + w17), wr (50 - (wr (Int.tdiv w17 2))), wr (3 * w17)⟩ : Point)] : List Point)) fun _ =>
    some (.inl ((appS w14 ([(⟨wr (10 + w17), wr (50 - (wr (Int.tdiv w17 2))), wr (3 * w17)⟩ : Point)] : List Point)), wr (w17 + 1)))
  else
    some (.inr w14)
def t_spec_l02Long (n_ : Int) : Option Stroke :=
  obind (loopT (s0_spec_l02Long n_) ((none : Sl Point), 0)) fun q21 =>
  some (⟨q21⟩ : Stroke)

theorem tl0_spec_l02Long (env : Nat → Contract) {B : Base}  (n_ : Int) (o1 : Nat) (o5 : Nat)  {st : (Sl Point) × Int} {tm : TM} {h : Heap} (R : (fun (st : (Sl Point) × Int) tm h15 => match st with | (w14, w17) => ∃ z13, tm = [iv n_, und, AV.ptr o1 1 0 0, AV.ptr o5 1 0 0, iv w17, AV.agg [nilS], AV.top, AV.top, AV.top, AV.top, AV.top, AV.top, AV.top, AV.top, AV.top, AV.top, AV.top, AV.top, AV.top, AV.top, AV.top, AV.top, AV.top, AV.top, und] ∧ Hold B h15 [(AV.ptr o1 1 0 0, .pt 1 [nilS]), (AV.ptr o5 1 0 0, .pt 1 [z13]), (z13, obS (w14 : Sl Point))]) st tm h) : Sim (loopP hm0_spec_l02Long xm0_spec_l02Long (lb0_spec_l02Long env) tm h) (loopT (s0_spec_l02Long n_) st) (fun (q : Sl Point) (r : Res) => match q with | q21 => ∃ (q22 : Int) (z20 : AV) (h18 : Heap), r = (.exit 0, [iv n_, und, AV.ptr o1 1 0 0, AV.ptr o5 1 0 0, iv q22, AV.agg [nilS], AV.top, AV.top, AV.top, AV.top, AV.top, AV.top, AV.top, AV.top, AV.top, AV.top, AV.top, AV.top, AV.top, AV.top, AV.top, AV.top, AV.top, AV.top, und], h18) ∧ Hold B h18 [(AV.ptr o1 1 0 0, .pt 1 [nilS]), (AV.ptr o5 1 0 0, .pt 1 [z20]), (z20, obS (q21 : Sl Point))]) := by
  refine loop_sim (Rel := fun (st : (Sl Point) × Int) tm h15 => match st with | (w14, w17) => ∃ z13, tm = [iv n_, und, AV.ptr o1 1 0 0, AV.ptr o5 1 0 0, iv w17, AV.agg [nilS], AV.top, AV.top, AV.top, AV.top, AV.top, AV.top, AV.top, AV.top, AV.top, AV.top, AV.top, AV.top, AV.top, AV.top, AV.top, AV.top, AV.top, AV.top, und] ∧ Hold B h15 [(AV.ptr o1 1 0 0, .pt 1 [nilS]), (AV.ptr o5 1 0 0, .pt 1 [z13]), (z13, obS (w14 : Sl Point))]) (fun st tm h15 R => ?_) R
  obtain ⟨w14, w17⟩ := st
  obtain ⟨z13, rfl, O16⟩ := R
  rw [e_lb0_spec_l02Long]
  unfold s0_spec_l02Long
  dsimp only
  refine sim_let (v := bv (decide (w17 < n_))) (aBin_lss _ _) ?_
  refine sim_cond (fun c26 => ?_) (fun c26 => ?_)
  · refine sim_let (v := AV.ptr o5 1 0 0) rfl ?_
    refine sim_let (v := z13) (O16.ld 1 rfl false 1 0) ?_
    refine sim_let (v := iv (wr (10 + w17))) (aBin_add _ _) ?_
    refine sim_let (v := iv (wr (Int.tdiv w17 2))) (aBin_quo _ _ (by decide)) ?_
    refine sim_let (v := iv (wr (50 - (wr (Int.tdiv w17 2))))) (aBin_sub _ _) ?_
    refine sim_let (v := iv (wr (3 * w17))) (aBin_mul _ _) ?_
    refine sim_let (v := AV.agg [iv (wr (10 + w17)), iv (wr (50 - (wr (Int.tdiv w17 2)))), iv (wr (3 * w17))]) (by first | rfl | simp [aBuild, aFill, splice]) ?_
    refine sim_build (A := Point) O16 ([(⟨wr (10 + w17), wr (50 - (wr (Int.tdiv w17 2))), wr (3 * w17)⟩ : Point)] : List Point) rfl (by first | rfl | simp [aFillRows, zrows]) rfl (fun x27 h28 O29 => ?_)
    replace O29 : Hold B h28 [(AV.ptr o1 1 0 0, .pt 1 [nilS]), (AV.ptr o5 1 0 0, .pt 1 [z13]), (z13, obS (w14 : Sl Point)), (x27, obS ((some ([(⟨wr (10 + w17), wr (50 - (wr (Int.tdiv w17 2))), wr (3 * w17)⟩ : Point)] : List Point)) : Sl Point))] := O29
    refine sim_append (A := Point) (s := w14) O29 2 ([(⟨wr (10 + w17), wr (50 - (wr (Int.tdiv w17 2))), wr (3 * w17)⟩ : Point)] : List Point) rfl (O29.src (A := Point) (s := (some ([(⟨wr (10 + w17), wr (50 - (wr (Int.tdiv w17 2))), wr (3 * w17)⟩ : Point)] : List Point))) 3 rfl) (by decide) (fun x32 h33 O34 => ?_)
    replace O34 : Hold B h33 [(AV.ptr o1 1 0 0, .pt 1 [nilS]), (AV.ptr o5 1 0 0, .pt 1 [z13]), (x32, obS ((appS w14 ([(⟨wr (10 + w17), wr (50 - (wr (Int.tdiv w17 2))), wr (3 * w17)⟩ : Point)] : List Point)) : Sl Point)), (x27, obS ((some ([(⟨wr (10 + w17), wr (50 - (wr (Int.tdiv w17 2))), wr (3 * w17)⟩ : Point)] : List Point)) : Sl Point))] := O34
    have O36 : Hold B h33 [(AV.ptr o1 1 0 0, .pt 1 [nilS]), (AV.ptr o5 1 0 0, .pt 1 [z13]), (x32, obS ((appS w14 ([(⟨wr (10 + w17), wr (50 - (wr (Int.tdiv w17 2))), wr (3 * w17)⟩ : Point)] : List Point)) : Sl Point))] := O34.sel [0, 1, 2] (by decide) rfl
    refine sim_let (v := AV.ptr o5 1 0 0) rfl ?_
    refine sim_store O36 1 (cs' := [x32]) rfl (by first | rfl | simp [(O36.one (A := Point) (s := (appS w14 ([(⟨wr (10 + w17), wr (50 - (wr (Int.tdiv w17 2))), wr (3 * w17)⟩ : Point)] : List Point))) 2 rfl).1, (O36.one (A := Point) (s := (appS w14 ([(⟨wr (10 + w17), wr (50 - (wr (Int.tdiv w17 2))), wr (3 * w17)⟩ : Point)] : List Point))) 2 rfl).2]) (by simp) (by first | rfl | simp [(O36.one (A := Point) (s := (appS w14 ([(⟨wr (10 + w17), wr (50 - (wr (Int.tdiv w17 2))), wr (3 * w17)⟩ : Point)] : List Point))) 2 rfl).1, (O36.one (A := Point) (s := (appS w14 ([(⟨wr (10 + w17), wr (50 - (wr (Int.tdiv w17 2))), wr (3 * w17)⟩ : Point)] : List Point))) 2 rfl).2]) (by first | rfl | simp [splice, (O36.one (A := Point) (s := (appS w14 ([(⟨wr (10 + w17), wr (50 - (wr (Int.tdiv w17 2))), wr (3 * w17)⟩ : Point)] : List Point))) 2 rfl).1, (O36.one (A := Point) (s := (appS w14 ([(⟨wr (10 + w17), wr (50 - (wr (Int.tdiv w17 2))), wr (3 * w17)⟩ : Point)] : List Point))) 2 rfl).2]) (fun h37 O38 => ?_)
    replace O38 : Hold B h37 [(AV.ptr o1 1 0 0, .pt 1 [nilS]), (AV.ptr o5 1 0 0, .pt 1 [x32]), (x32, obS ((appS w14 ([(⟨wr (10 + w17), wr (50 - (wr (Int.tdiv w17 2))), wr (3 * w17)⟩ : Point)] : List Point)) : Sl Point))] := O38
    refine sim_let (v := iv (wr (w17 + 1))) (aBin_add _ _) ?_
    exact sim_ret ⟨rfl, _, rfl, O38⟩
  · exact sim_ret ⟨nofun, _, _, _, rfl, O16⟩
theorem ts_spec_l02Long (env : Nat → Contract)  (n_ : Int) : Sim (denFn Try.prog env n_spec_l02Long [iv n_] []) (t_spec_l02Long n_) fun c p => release p.2 depth p.1 = some ((fun c : Stroke => AV.agg [rS c.points]) c) := by
  have O := Hold.nil []
  generalize hB : (⟨[], []⟩ : Base) = B at O
  clear hB
  rw [e_spec_l02Long]
  unfold t_spec_l02Long
  refine sim_box O (cs := [nilS]) (by first | rfl | simp) (fun o1 h2 O3 => ?_)
  replace O3 : Hold B h2 [(AV.ptr o1 1 0 0, .pt 1 [nilS])] := O3
  refine sim_let (v := AV.agg [nilS]) (by first | rfl | simp [aBuild, aFill, splice]) ?_
  refine sim_box O3 (cs := [nilS]) (by first | rfl | simp) (fun o5 h6 O7 => ?_)
  replace O7 : Hold B h6 [(AV.ptr o1 1 0 0, .pt 1 [nilS]), (AV.ptr o5 1 0 0, .pt 1 [nilS])] := O7
  refine sim_store O7 1 (cs' := [nilS]) rfl (by first | rfl | simp) (by simp) (by first | rfl | simp) (by first | rfl | simp [splice]) (fun h9 O10 => ?_)
  replace O10 : Hold B h9 [(AV.ptr o1 1 0 0, .pt 1 [nilS]), (AV.ptr o5 1 0 0, .pt 1 [nilS])] := O10
  have O11 : Hold B h9 [(AV.ptr o1 1 0 0, .pt 1 [nilS]), (AV.ptr o5 1 0 0, .pt 1 [nilS]), (nilS, obS ((none : Sl Point) : Sl Point))] := O10.addnil
  refine sim_bind ((tl0_spec_l02Long env n_ o1 o5) ⟨_, rfl, O11⟩) (fun qq42 r hq => ?_)
  revert hq
  revert qq42
  intro q21 hq
  obtain ⟨q22, z20, h18, rfl, O19⟩ := hq
  rw [e_lk0x0_spec_l02Long]
  refine sim_let (v := AV.agg [z20]) (O19.ld 1 rfl true 1 0) ?_
  refine sim_store O19 0 (cs' := [z20]) rfl (by first | rfl | simp [(O19.one (A := Point) (s := q21) 2 rfl).1, (O19.one (A := Point) (s := q21) 2 rfl).2]) (by simp) (by first | rfl | simp [(O19.one (A := Point) (s := q21) 2 rfl).1, (O19.one (A := Point) (s := q21) 2 rfl).2]) (by first | rfl | simp [splice, (O19.one (A := Point) (s := q21) 2 rfl).1, (O19.one (A := Point) (s := q21) 2 rfl).2]) (fun h23 O24 => ?_)
  replace O24 : Hold B h23 [(AV.ptr o1 1 0 0, .pt 1 [z20]), (AV.ptr o5 1 0 0, .pt 1 [z20]), (z20, obS (q21 : Sl Point))] := O24
  refine sim_retL (resL_c (v := AV.agg [z20]) (O24.ld 0 rfl true 1 0) (resL_nil _)) ?_
  dsimp only [pack]
  have O25 : Hold B h23 [(z20, obS (q21 : Sl Point))] := O24.sel [2] (by decide) rfl
  exact sim_ret (release_of (by simp only [ids_tup, ids_aggD, ids_agg, ids_iv, ids_bv, ids_sv, ids_bt, ids_nilS, ids_enc, O25.idsD (A := Point) (s := q21) 0 rfl, List.map_append, List.map_nil, List.flatMap_cons, List.flatMap_nil, List.append_nil, List.nil_append]; simpa only [List.flatMap_cons, List.flatMap_nil, List.append_nil, List.nil_append] using O25.nd2) (by simp only [rel_tup, rel_aggD, rel_agg, rel_iv, rel_bv, rel_sv, rel_bt, rel_nilS, rel_enc, O25.relD (A := Point) (s := q21) 0 rfl, omapc, omapn, obind_sm] <;> rfl))
theorem tt_spec_l02Long : PureOK Try.prog n_spec_l02Long (C1 (fun c : Stroke => AV.agg [rS c.points]) t_spec_l02Long) := pureC1 E0 mixed hb_spec_l02Long fun n_ => ts_spec_l02Long _  n_

def s0_spec_l02Bent (c149 : Int × l00Src) : ((Sl Stroke) × Int) → Option (Sum ((Sl Stroke) × Int) (Sl Stroke)) := fun (w159, w164) =>
  bif decide (w164 < (wr (16 + c149.1))) then
    obind (appO w159 ([(⟨(some ([(⟨w164, 5, w164⟩ : Point)] : List Point))⟩ : Stroke)] : List Stroke)) fun _ =>
    some (.inl ((appS w159 ([(⟨(some ([(⟨w164, 5, w164⟩ : Point)] : List Point))⟩ : Stroke)] : List Stroke)), wr (w164 + 1)))
  else
    some (.inr w159)
def t_spec_l02Bent (s_ : l00Src) : Option (Ink × l00Src) :=
  obind (t_spec_l02Draw s_ 5) fun c5 =>
  obind (t_spec_l00Src_pick c5.2 20) fun c21 =>
  bif decide (c21.1 = 0) then
    obind (appO c5.1.strokes ([(⟨(none : Sl Point)⟩ : Stroke)] : List Stroke)) fun _ =>
    some ((⟨(appS c5.1.strokes ([(⟨(none : Sl Point)⟩ : Stroke)] : List Stroke))⟩ : Ink), (⟨c21.2.code, c21.2.pos, c21.2.seed⟩ : l00Src))
  else
    bif decide (c21.1 = 1) then
      bif decide (0 < (((c5.1.strokes.getD []).length : Nat) : Int)) then
        obind (t_spec_l00Src_pick c21.2 (((c5.1.strokes.getD []).length : Nat) : Int)) fun c49 =>
        obind (getI (c5.1.strokes.getD []) c49.1) fun a55 =>
        obind (getI (a55.points.getD []) 0) fun a61 =>
        obind (t_spec_l00Src_among c49.2 (some ([(-1), 4095, 4096] : List Int))) fun c69 =>
        some ((⟨(setS c5.1.strokes c49.1 (⟨(setS a55.points 0 (⟨c69.1, a61.y, a61.t⟩ : Point))⟩ : Stroke))⟩ : Ink), (⟨c69.2.code, c69.2.pos, c69.2.seed⟩ : l00Src))
      else
        some (c5.1, (⟨c21.2.code, c21.2.pos, c21.2.seed⟩ : l00Src))
    else
      bif decide (c21.1 = 2) then
        bif decide (0 < (((c5.1.strokes.getD []).length : Nat) : Int)) then
          obind (t_spec_l00Src_pick c21.2 (((c5.1.strokes.getD []).length : Nat) : Int)) fun c87 =>
          obind (getI (c5.1.strokes.getD []) c87.1) fun a93 =>
          obind (getI (a93.points.getD []) 0) fun a99 =>
          obind (t_spec_l00Src_among c87.2 (some ([(-1), 0, 3600000, 3600001] : List Int))) fun c107 =>
          some ((⟨(setS c5.1.strokes c87.1 (⟨(setS a93.points 0 (⟨a99.x, a99.y, c107.1⟩ : Point))⟩ : Stroke))⟩ : Ink), (⟨c107.2.code, c107.2.pos, c107.2.seed⟩ : l00Src))
        else
          some (c5.1, (⟨c21.2.code, c21.2.pos, c21.2.seed⟩ : l00Src))
      else
        bif decide (c21.1 = 3) then
          obind (t_spec_l00Src_pick c21.2 2) fun c124 =>
          obind (t_spec_l02Long (wr (60 + c124.1))) fun c130 =>
          some ((⟨(some ([(⟨c130.points⟩ : Stroke)] : List Stroke))⟩ : Ink), (⟨c124.2.code, c124.2.pos, c124.2.seed⟩ : l00Src))
        else
          bif decide (c21.1 = 4) then
            obind (t_spec_l00Src_pick c21.2 2) fun c149 =>
            obind (loopT (s0_spec_l02Bent c149) ((none : Sl Stroke), 0)) fun q168 =>
            some ((⟨q168⟩ : Ink), (⟨c149.2.code, c149.2.pos, c149.2.seed⟩ : l00Src))
          else
            some (c5.1, (⟨c21.2.code, c21.2.pos, c21.2.seed⟩ : l00Src))

theorem tl0_spec_l02Bent (env : Nat → Contract) {B : Base} (he_spec_l00Src_among : env n_spec_l00Src_among = .gen (denFn Try.prog ev_spec_l00Src_among n_spec_l00Src_among)) (he_spec_l00Src_pick : env n_spec_l00Src_pick = .gen (denFn Try.prog ev_spec_l00Src_pick n_spec_l00Src_pick)) (he_spec_l02Draw : env n_spec_l02Draw = .gen (denFn Try.prog ev_spec_l02Draw n_spec_l02Draw)) (he_spec_l02Long : env n_spec_l02Long = .pure (C1 (fun c : Stroke => AV.agg [rS c.points]) t_spec_l02Long)) (o_ : Nat) (o1 : Nat) (c5 : Ink × l00Src) (x11 : AV) (o15 : Nat) (c21 : Int × l00Src) (c149 : Int × l00Src)  {st : (Sl Stroke) × Int} {tm : TM} {h : Heap} (R : (fun (st : (Sl Stroke) × Int) tm h162 => match st with | (w159, w164) => ∃ z158, ∃ ps160 : PS Stroke, tm = ((AV.ptr o_ 1 0 0) :: und :: (AV.ptr o1 1 0 0) :: (AV.ptr o15 1 0 0) :: (iv (((c5.1.strokes.getD []).length : Nat) : Int)) :: und :: und :: und :: und :: (iv (wr (16 + c149.1))) :: (iv w164) :: (AV.ptr o_ 1 0 0) :: (AV.agg [x11]) :: (AV.ptr o15 1 0 0) :: x11 :: (iv (((c5.1.strokes.getD []).length : Nat) : Int)) :: (AV.ptr o_ 1 0 0) :: (iv c21.1) :: (bv (decide (c21.1 = 0))) :: (bv (decide (c21.1 = 0))) :: und :: und :: und :: und :: und :: und :: (bv (decide (c21.1 = 1))) :: (bv (decide (c21.1 = 1))) :: und :: und :: und :: und :: und :: und :: und :: und :: und :: und :: und :: und :: und :: und :: und :: und :: und :: und :: (bv (decide (c21.1 = 2))) :: (bv (decide (c21.1 = 2))) :: und :: und :: und :: und :: und :: und :: und :: und :: und :: und :: und :: und :: und :: und :: und :: und :: und :: und :: (bv (decide (c21.1 = 3))) :: (bv (decide (c21.1 = 3))) :: und :: und :: und :: und :: und :: und :: (bv (decide (c21.1 = 4))) :: (bv (decide (c21.1 = 4))) :: (AV.agg [nilS]) :: (AV.ptr o_ 1 0 0) :: (iv c149.1) :: (iv (wr (16 + c149.1))) :: AV.top :: AV.top :: AV.top :: AV.top :: AV.top :: AV.top :: AV.top :: AV.top :: AV.top :: AV.top :: AV.top :: AV.top :: AV.top :: AV.top :: AV.top :: und :: []) ∧ pj ps160 = w159 ∧ Hold B h162 ([(AV.ptr o_ 1 0 0, .pt 3 [Sl.enc c149.2.code, iv c149.2.pos, AV.sc (.int .u64 c149.2.seed)]), (AV.ptr o1 1 0 0, .pt 1 [nilS]), (AV.ptr o15 1 0 0, .pt 1 [z158])] ++ D2 (A := Stroke) z158 ps160)) st tm h) : Sim (loopP hm0_spec_l02Bent xm0_spec_l02Bent (lb0_spec_l02Bent env) tm h) (loopT (s0_spec_l02Bent c149) st) (fun (q : Sl Stroke) (r : Res) => match q with | q168 => ∃ (q171 : Int) (z167 : AV) (ps169 : PS Stroke) (h165 : Heap), r = (.exit 1, ((AV.ptr o_ 1 0 0) :: und :: (AV.ptr o1 1 0 0) :: (AV.ptr o15 1 0 0) :: (iv (((c5.1.strokes.getD []).length : Nat) : Int)) :: und :: und :: und :: und :: (iv (wr (16 + c149.1))) :: (iv q171) :: (AV.ptr o_ 1 0 0) :: (AV.agg [x11]) :: (AV.ptr o15 1 0 0) :: x11 :: (iv (((c5.1.strokes.getD []).length : Nat) : Int)) :: (AV.ptr o_ 1 0 0) :: (iv c21.1) :: (bv (decide (c21.1 = 0))) :: (bv (decide (c21.1 = 0))) :: und :: und :: und :: und :: und :: und :: (bv (decide (c21.1 = 1))) :: (bv (decide (c21.1 = 1))) :: und :: und :: und :: und :: und :: und :: und :: und :: und :: und :: und :: und :: und :: und :: und :: und :: und :: und :: (bv (decide (c21.1 = 2))) :: (bv (decide (c21.1 = 2))) :: und :: und :: und :: und :: und :: und :: und :: und :: und :: und :: und :: und :: und :: und :: und :: und :: und :: und :: (bv (decide (c21.1 = 3))) :: (bv (decide (c21.1 = 3))) :: und :: und :: und :: und :: und :: und :: (bv (decide (c21.1 = 4))) :: (bv (decide (c21.1 = 4))) :: (AV.agg [nilS]) :: (AV.ptr o_ 1 0 0) :: (iv c149.1) :: (iv (wr (16 + c149.1))) :: AV.top :: AV.top :: AV.top :: AV.top :: AV.top :: AV.top :: AV.top :: AV.top :: AV.top :: AV.top :: AV.top :: AV.top :: AV.top :: AV.top :: AV.top :: und :: []), h165) ∧ pj ps169 = q168 ∧ Hold B h165 ([(AV.ptr o_ 1 0 0, .pt 3 [Sl.enc c149.2.code, iv c149.2.pos, AV.sc (.int .u64 c149.2.seed)]), (AV.ptr o1 1 0 0, .pt 1 [nilS]), (AV.ptr o15 1 0 0, .pt 1 [z167])] ++ D2 (A := Stroke) z167 ps169)) := by
  refine loop_sim (Rel := fun (st : (Sl Stroke) × Int) tm h162 => match st with | (w159, w164) => ∃ z158, ∃ ps160 : PS Stroke, tm = ((AV.ptr o_ 1 0 0) :: und :: (AV.ptr o1 1 0 0) :: (AV.ptr o15 1 0 0) :: (iv (((c5.1.strokes.getD []).length : Nat) : Int)) :: und :: und :: und :: und :: (iv (wr (16 + c149.1))) :: (iv w164) :: (AV.ptr o_ 1 0 0) :: (AV.agg [x11]) :: (AV.ptr o15 1 0 0) :: x11 :: (iv (((c5.1.strokes.getD []).length : Nat) : Int)) :: (AV.ptr o_ 1 0 0) :: (iv c21.1) :: (bv (decide (c21.1 = 0))) :: (bv (decide (c21.1 = 0))) :: und :: und :: und :: und :: und :: und :: (bv (decide (c21.1 = 1))) :: (bv (decide (c21.1 = 1))) :: und :: und :: und :: und :: und :: und :: und :: und :: und :: und :: und :: und :: und :: und :: und :: und :: und :: und :: (bv (decide (c21.1 = 2))) :: (bv (decide (c21.1 = 2))) :: und :: und :: und :: und :: und :: und :: und :: und :: und :: und :: und :: und :: und :: und :: und :: und :: und :: und :: (bv (decide (c21.1 = 3))) :: (bv (decide (c21.1 = 3))) :: und :: und :: und :: und :: und :: und :: (bv (decide (c21.1 = 4))) :: (bv (decide (c21.1 = 4))) :: (AV.agg [nilS]) :: (AV.ptr o_ 1 0 0) :: (iv c149.1) :: (iv (wr (16 + c149.1))) :: AV.top :: AV.top :: AV.top :: AV.top :: AV.top :: AV.top :: AV.top :: AV.top :: AV.top :: AV.top :: AV.top :: AV.top :: AV.top :: AV.top :: AV.top :: und :: []) ∧ pj ps160 = w159 ∧ Hold B h162 ([(AV.ptr o_ 1 0 0, .pt 3 [Sl.enc c149.2.code, iv c149.2.pos, AV.sc (.int .u64 c149.2.seed)]), (AV.ptr o1 1 0 0, .pt 1 [nilS]), (AV.ptr o15 1 0 0, .pt 1 [z158])] ++ D2 (A := Stroke) z158 ps160)) (fun st tm h162 R => ?_) R
  obtain ⟨w159, w164⟩ := st
  obtain ⟨z158, ps160, rfl, hp161, O163⟩ := R
  rw [e_lb0_spec_l02Bent]
  unfold s0_spec_l02Bent
  dsimp only
  refine sim_let (v := bv (decide (w164 < (wr (16 + c149.1))))) (aBin_lss _ _) ?_
  refine sim_cond (fun c175 => ?_) (fun c175 => ?_)
  · refine sim_let (v := AV.ptr o15 1 0 0) rfl ?_
    refine sim_let (v := z158) (O163.ld 2 rfl false 1 0) ?_
    refine sim_let (v := AV.agg [iv w164, iv 5, iv w164]) (by first | rfl | simp [aBuild, aFill, splice]) ?_
    refine sim_build (A := Point) O163 ([(⟨w164, 5, w164⟩ : Point)] : List Point) rfl (by first | rfl | simp [aFillRows, zrows]) rfl (fun x176 h177 O178 => ?_)
    replace O178 : Hold B h177 ([(AV.ptr o_ 1 0 0, .pt 3 [Sl.enc c149.2.code, iv c149.2.pos, AV.sc (.int .u64 c149.2.seed)]), (AV.ptr o1 1 0 0, .pt 1 [nilS]), (AV.ptr o15 1 0 0, .pt 1 [z158]), (x176, obS ((some ([(⟨w164, 5, w164⟩ : Point)] : List Point)) : Sl Point))] ++ D2 (A := Stroke) z158 ps160) := Hold.rot O178
    refine sim_let (v := AV.agg [x176]) (by first | rfl | simp [aBuild, aFill, splice, (O178.one (A := Point) (s := (some ([(⟨w164, 5, w164⟩ : Point)] : List Point))) 3 rfl).1, (O178.one (A := Point) (s := (some ([(⟨w164, 5, w164⟩ : Point)] : List Point))) 3 rfl).2]) ?_
    refine sim_buildRaw O178 [[x176]] 1 rfl (by first | rfl | simp [aFillRows, zrows, (O178.one (A := Point) (s := (some ([(⟨w164, 5, w164⟩ : Point)] : List Point))) 3 rfl).1, (O178.one (A := Point) (s := (some ([(⟨w164, 5, w164⟩ : Point)] : List Point))) 3 rfl).2]) rfl (fun x180 h181 O182 => ?_)
    replace O182 : Hold B h181 ([(AV.ptr o_ 1 0 0, .pt 3 [Sl.enc c149.2.code, iv c149.2.pos, AV.sc (.int .u64 c149.2.seed)]), (AV.ptr o1 1 0 0, .pt 1 [nilS]), (AV.ptr o15 1 0 0, .pt 1 [z158]), (x176, obS ((some ([(⟨w164, 5, w164⟩ : Point)] : List Point)) : Sl Point)), (x180, .sl 1 [[x176]])] ++ D2 (A := Stroke) z158 ps160) := Hold.rot O182
    have O184 : Hold B h181 ([(AV.ptr o_ 1 0 0, .pt 3 [Sl.enc c149.2.code, iv c149.2.pos, AV.sc (.int .u64 c149.2.seed)]), (AV.ptr o1 1 0 0, .pt 1 [nilS]), (AV.ptr o15 1 0 0, .pt 1 [z158]), (x176, obS ((some ([(⟨w164, 5, w164⟩ : Point)] : List Point)) : Sl Point)), (x180, .sl 1 [[x176]])] ++ D2 (A := Stroke) z158 ps160) := O182.selD [0, 1, 2, 3, 4] (by decide) rfl
    refine sim_push (l := [(AV.ptr o_ 1 0 0, .pt 3 [Sl.enc c149.2.code, iv c149.2.pos, AV.sc (.int .u64 c149.2.seed)]), (AV.ptr o1 1 0 0, .pt 1 [nilS]), (AV.ptr o15 1 0 0, .pt 1 [z158])]) (a := (⟨(some ([(⟨w164, 5, w164⟩ : Point)] : List Point))⟩ : Stroke)) (y := x176) (x := z158) (ps := ps160) O184 hp161 (by decide) (fun x185 ps188 h186 hp189 hm190 O187 => ?_)
    refine sim_let (v := AV.ptr o15 1 0 0) rfl ?_
    refine sim_store O187 2 (cs' := [x185]) rfl (by first | rfl | simp [(D2.oneX (l := [(AV.ptr o_ 1 0 0, .pt 3 [Sl.enc c149.2.code, iv c149.2.pos, AV.sc (.int .u64 c149.2.seed)]), (AV.ptr o1 1 0 0, .pt 1 [nilS]), (AV.ptr o15 1 0 0, .pt 1 [z158])]) (x := x185) (ps := ps188) (A := Stroke) O187).1, (D2.oneX (l := [(AV.ptr o_ 1 0 0, .pt 3 [Sl.enc c149.2.code, iv c149.2.pos, AV.sc (.int .u64 c149.2.seed)]), (AV.ptr o1 1 0 0, .pt 1 [nilS]), (AV.ptr o15 1 0 0, .pt 1 [z158])]) (x := x185) (ps := ps188) (A := Stroke) O187).2]) (by simp) (by first | rfl | simp [(D2.oneX (l := [(AV.ptr o_ 1 0 0, .pt 3 [Sl.enc c149.2.code, iv c149.2.pos, AV.sc (.int .u64 c149.2.seed)]), (AV.ptr o1 1 0 0, .pt 1 [nilS]), (AV.ptr o15 1 0 0, .pt 1 [z158])]) (x := x185) (ps := ps188) (A := Stroke) O187).1, (D2.oneX (l := [(AV.ptr o_ 1 0 0, .pt 3 [Sl.enc c149.2.code, iv c149.2.pos, AV.sc (.int .u64 c149.2.seed)]), (AV.ptr o1 1 0 0, .pt 1 [nilS]), (AV.ptr o15 1 0 0, .pt 1 [z158])]) (x := x185) (ps := ps188) (A := Stroke) O187).2]) (by first | rfl | simp [splice, (D2.oneX (l := [(AV.ptr o_ 1 0 0, .pt 3 [Sl.enc c149.2.code, iv c149.2.pos, AV.sc (.int .u64 c149.2.seed)]), (AV.ptr o1 1 0 0, .pt 1 [nilS]), (AV.ptr o15 1 0 0, .pt 1 [z158])]) (x := x185) (ps := ps188) (A := Stroke) O187).1, (D2.oneX (l := [(AV.ptr o_ 1 0 0, .pt 3 [Sl.enc c149.2.code, iv c149.2.pos, AV.sc (.int .u64 c149.2.seed)]), (AV.ptr o1 1 0 0, .pt 1 [nilS]), (AV.ptr o15 1 0 0, .pt 1 [z158])]) (x := x185) (ps := ps188) (A := Stroke) O187).2]) (fun h192 O193 => ?_)
    replace O193 : Hold B h192 ([(AV.ptr o_ 1 0 0, .pt 3 [Sl.enc c149.2.code, iv c149.2.pos, AV.sc (.int .u64 c149.2.seed)]), (AV.ptr o1 1 0 0, .pt 1 [nilS]), (AV.ptr o15 1 0 0, .pt 1 [x185])] ++ D2 (A := Stroke) x185 ps188) := O193
    refine sim_let (v := iv (wr (w164 + 1))) (aBin_add _ _) ?_
    exact sim_ret ⟨rfl, _, _, rfl, hp189, O193⟩
  · exact sim_ret ⟨nofun, _, _, _, _, rfl, hp161, O163⟩
theorem ts_spec_l02Bent (env : Nat → Contract) (he_spec_l00Src_among : env n_spec_l00Src_among = .gen (denFn Try.prog ev_spec_l00Src_among n_spec_l00Src_among)) (he_spec_l00Src_pick : env n_spec_l00Src_pick = .gen (denFn Try.prog ev_spec_l00Src_pick n_spec_l00Src_pick)) (he_spec_l02Draw : env n_spec_l02Draw = .gen (denFn Try.prog ev_spec_l02Draw n_spec_l02Draw)) (he_spec_l02Long : env n_spec_l02Long = .pure (C1 (fun c : Stroke => AV.agg [rS c.points]) t_spec_l02Long)) {B : Base} {h : Heap} {o_ : Nat} (s_ : l00Src) (O : Hold B h [(AV.ptr o_ 1 0 0, .pt 3 [Sl.enc s_.code, iv s_.pos, AV.sc (.int .u64 s_.seed)])]) : Sim (denFn Try.prog env n_spec_l02Bent [AV.ptr o_ 1 0 0] h) (t_spec_l02Bent s_) (fun c p => ∃ x1, ∃ ps1 : PS Stroke, p.1 = AV.agg [x1] ∧ pj ps1 = c.1.strokes ∧ Hold B p.2 ([(AV.ptr o_ 1 0 0, .pt 3 [Sl.enc c.2.code, iv c.2.pos, AV.sc (.int .u64 c.2.seed)])] ++ D2 (A := Stroke) x1 ps1)) := by
  rw [e_spec_l02Bent]
  unfold t_spec_l02Bent
  refine sim_box O (cs := [nilS]) (by first | rfl | simp) (fun o1 h2 O3 => ?_)
  replace O3 : Hold B h2 [(AV.ptr o_ 1 0 0, .pt 3 [Sl.enc s_.code, iv s_.pos, AV.sc (.int .u64 s_.seed)]), (AV.ptr o1 1 0 0, .pt 1 [nilS])] := O3
  refine sim_gen he_spec_l02Draw (tg_spec_l02Draw s_ 5 (O3.start (i := 0) rfl rfl)) (fun c5 v6 h7 hq8 => ?_)
  obtain ⟨x11, ps13, e_v6, hp14, O9⟩ := hq8
  dsimp only at e_v6
  subst v6
  have O10 : Hold B h7 ([(AV.ptr o_ 1 0 0, .pt 3 [Sl.enc c5.2.code, iv c5.2.pos, AV.sc (.int .u64 c5.2.seed)]), (AV.ptr o1 1 0 0, .pt 1 [nilS])] ++ D2 (A := Stroke) x11 ps13) := O3.merge (i := 0) rfl rfl O9
  refine sim_box O10 (cs := [nilS]) (by first | rfl | simp) (fun o15 h16 O17 => ?_)
  replace O17 : Hold B h16 ([(AV.ptr o_ 1 0 0, .pt 3 [Sl.enc c5.2.code, iv c5.2.pos, AV.sc (.int .u64 c5.2.seed)]), (AV.ptr o1 1 0 0, .pt 1 [nilS]), (AV.ptr o15 1 0 0, .pt 1 [nilS])] ++ D2 (A := Stroke) x11 ps13) := Hold.rot O17
  refine sim_store O17 2 (cs' := [x11]) rfl (by first | rfl | simp [(D2.oneX (l := [(AV.ptr o_ 1 0 0, .pt 3 [Sl.enc c5.2.code, iv c5.2.pos, AV.sc (.int .u64 c5.2.seed)]), (AV.ptr o1 1 0 0, .pt 1 [nilS]), (AV.ptr o15 1 0 0, .pt 1 [nilS])]) (x := x11) (ps := ps13) (A := Stroke) O17).1, (D2.oneX (l := [(AV.ptr o_ 1 0 0, .pt 3 [Sl.enc c5.2.code, iv c5.2.pos, AV.sc (.int .u64 c5.2.seed)]), (AV.ptr o1 1 0 0, .pt 1 [nilS]), (AV.ptr o15 1 0 0, .pt 1 [nilS])]) (x := x11) (ps := ps13) (A := Stroke) O17).2]) (by simp) (by first | rfl | simp [(D2.oneX (l := [(AV.ptr o_ 1 0 0, .pt 3 [Sl.enc c5.2.code, iv c5.2.pos, AV.sc (.int .u64 c5.2.seed)]), (AV.ptr o1 1 0 0, .pt 1 [nilS]), (AV.ptr o15 1 0 0, .pt 1 [nilS])]) (x := x11) (ps := ps13) (A := Stroke) O17).1, (D2.oneX (l := [(AV.ptr o_ 1 0 0, .pt 3 [Sl.enc c5.2.code, iv c5.2.pos, AV.sc (.int .u64 c5.2.seed)]), (AV.ptr o1 1 0 0, .pt 1 [nilS]), (AV.ptr o15 1 0 0, .pt 1 [nilS])]) (x := x11) (ps := ps13) (A := Stroke) O17).2]) (by first | rfl | simp [splice, (D2.oneX (l := [(AV.ptr o_ 1 0 0, .pt 3 [Sl.enc c5.2.code, iv c5.2.pos, AV.sc (.int .u64 c5.2.seed)]), (AV.ptr o1 1 0 0, .pt 1 [nilS]), (AV.ptr o15 1 0 0, .pt 1 [nilS])]) (x := x11) (ps := ps13) (A := Stroke) O17).1, (D2.oneX (l := [(AV.ptr o_ 1 0 0, .pt 3 [Sl.enc c5.2.code, iv c5.2.pos, AV.sc (.int .u64 c5.2.seed)]), (AV.ptr o1 1 0 0, .pt 1 [nilS]), (AV.ptr o15 1 0 0, .pt 1 [nilS])]) (x := x11) (ps := ps13) (A := Stroke) O17).2]) (fun h19 O20 => ?_)
  replace O20 : Hold B h19 ([(AV.ptr o_ 1 0 0, .pt 3 [Sl.enc c5.2.code, iv c5.2.pos, AV.sc (.int .u64 c5.2.seed)]), (AV.ptr o1 1 0 0, .pt 1 [nilS]), (AV.ptr o15 1 0 0, .pt 1 [x11])] ++ D2 (A := Stroke) x11 ps13) := O20
  refine sim_let (v := AV.ptr o15 1 0 0) rfl ?_
  refine sim_let (v := x11) (O20.ld 2 rfl false 1 0) ?_
  refine sim_let (v := iv (((c5.1.strokes.getD []).length : Nat) : Int)) (D2.lenS (l := [(AV.ptr o_ 1 0 0, .pt 3 [Sl.enc c5.2.code, iv c5.2.pos, AV.sc (.int .u64 c5.2.seed)]), (AV.ptr o1 1 0 0, .pt 1 [nilS]), (AV.ptr o15 1 0 0, .pt 1 [x11])]) (x := x11) (ps := ps13) (A := Stroke) O20 hp14) ?_
  refine sim_gen he_spec_l00Src_pick (tg_spec_l00Src_pick c5.2 20 (O20.start (i := 0) rfl rfl)) (fun c21 v22 h23 hq24 => ?_)
  obtain ⟨e_v22, O25⟩ := hq24
  dsimp only at e_v22
  subst v22
  have O26 : Hold B h23 ([(AV.ptr o_ 1 0 0, .pt 3 [Sl.enc c21.2.code, iv c21.2.pos, AV.sc (.int .u64 c21.2.seed)]), (AV.ptr o1 1 0 0, .pt 1 [nilS]), (AV.ptr o15 1 0 0, .pt 1 [x11])] ++ D2 (A := Stroke) x11 ps13) := Hold.rot (l := [(AV.ptr o_ 1 0 0, .pt 3 [Sl.enc c21.2.code, iv c21.2.pos, AV.sc (.int .u64 c21.2.seed)]), (AV.ptr o1 1 0 0, .pt 1 [nilS]), (AV.ptr o15 1 0 0, .pt 1 [x11])]) (d := D2 (A := Stroke) x11 ps13) (n := []) (O20.merge (i := 0) rfl rfl O25)
  refine sim_let (v := bv (decide (c21.1 = 0))) (aCmp_eq _ _) ?_
  refine sim_cond (fun c27 => ?_) (fun c27 => ?_)
  · refine sim_let (v := AV.ptr o15 1 0 0) rfl ?_
    refine sim_let (v := x11) (O26.ld 2 rfl false 1 0) ?_
    refine sim_let (v := AV.agg [nilS]) (by first | rfl | simp [aBuild, aFill, splice]) ?_
    have O28 : Hold B h23 ([(AV.ptr o_ 1 0 0, .pt 3 [Sl.enc c21.2.code, iv c21.2.pos, AV.sc (.int .u64 c21.2.seed)]), (AV.ptr o1 1 0 0, .pt 1 [nilS]), (AV.ptr o15 1 0 0, .pt 1 [x11]), (nilS, obS ((none : Sl Point) : Sl Point))] ++ D2 (A := Stroke) x11 ps13) := Hold.rot O26.addnil
    refine sim_buildRaw O28 [[nilS]] 1 rfl (by first | rfl | simp [aFillRows, zrows, (O28.one (A := Point) (s := (none : Sl Point)) 3 rfl).1, (O28.one (A := Point) (s := (none : Sl Point)) 3 rfl).2]) rfl (fun x30 h31 O32 => ?_)
    replace O32 : Hold B h31 ([(AV.ptr o_ 1 0 0, .pt 3 [Sl.enc c21.2.code, iv c21.2.pos, AV.sc (.int .u64 c21.2.seed)]), (AV.ptr o1 1 0 0, .pt 1 [nilS]), (AV.ptr o15 1 0 0, .pt 1 [x11]), (nilS, obS ((none : Sl Point) : Sl Point)), (x30, .sl 1 [[nilS]])] ++ D2 (A := Stroke) x11 ps13) := Hold.rot O32
    have O34 : Hold B h31 ([(AV.ptr o_ 1 0 0, .pt 3 [Sl.enc c21.2.code, iv c21.2.pos, AV.sc (.int .u64 c21.2.seed)]), (AV.ptr o1 1 0 0, .pt 1 [nilS]), (AV.ptr o15 1 0 0, .pt 1 [x11]), (nilS, obS ((none : Sl Point) : Sl Point)), (x30, .sl 1 [[nilS]])] ++ D2 (A := Stroke) x11 ps13) := O32.selD [0, 1, 2, 3, 4] (by decide) rfl
    refine sim_push (l := [(AV.ptr o_ 1 0 0, .pt 3 [Sl.enc c21.2.code, iv c21.2.pos, AV.sc (.int .u64 c21.2.seed)]), (AV.ptr o1 1 0 0, .pt 1 [nilS]), (AV.ptr o15 1 0 0, .pt 1 [x11])]) (a := (⟨(none : Sl Point)⟩ : Stroke)) (y := nilS) (x := x11) (ps := ps13) O34 hp14 (by decide) (fun x35 ps38 h36 hp39 hm40 O37 => ?_)
    refine sim_let (v := AV.ptr o15 1 0 0) rfl ?_
    refine sim_store O37 2 (cs' := [x35]) rfl (by first | rfl | simp [(D2.oneX (l := [(AV.ptr o_ 1 0 0, .pt 3 [Sl.enc c21.2.code, iv c21.2.pos, AV.sc (.int .u64 c21.2.seed)]), (AV.ptr o1 1 0 0, .pt 1 [nilS]), (AV.ptr o15 1 0 0, .pt 1 [x11])]) (x := x35) (ps := ps38) (A := Stroke) O37).1, (D2.oneX (l := [(AV.ptr o_ 1 0 0, .pt 3 [Sl.enc c21.2.code, iv c21.2.pos, AV.sc (.int .u64 c21.2.seed)]), (AV.ptr o1 1 0 0, .pt 1 [nilS]), (AV.ptr o15 1 0 0, .pt 1 [x11])]) (x := x35) (ps := ps38) (A := Stroke) O37).2]) (by simp) (by first | rfl | simp [(D2.oneX (l := [(AV.ptr o_ 1 0 0, .pt 3 [Sl.enc c21.2.code, iv c21.2.pos, AV.sc (.int .u64 c21.2.seed)]), (AV.ptr o1 1 0 0, .pt 1 [nilS]), (AV.ptr o15 1 0 0, .pt 1 [x11])]) (x := x35) (ps := ps38) (A := Stroke) O37).1, (D2.oneX (l := [(AV.ptr o_ 1 0 0, .pt 3 [Sl.enc c21.2.code, iv c21.2.pos, AV.sc (.int .u64 c21.2.seed)]), (AV.ptr o1 1 0 0, .pt 1 [nilS]), (AV.ptr o15 1 0 0, .pt 1 [x11])]) (x := x35) (ps := ps38) (A := Stroke) O37).2]) (by first | rfl | simp [splice, (D2.oneX (l := [(AV.ptr o_ 1 0 0, .pt 3 [Sl.enc c21.2.code, iv c21.2.pos, AV.sc (.int .u64 c21.2.seed)]), (AV.ptr o1 1 0 0, .pt 1 [nilS]), (AV.ptr o15 1 0 0, .pt 1 [x11])]) (x := x35) (ps := ps38) (A := Stroke) O37).1, (D2.oneX (l := [(AV.ptr o_ 1 0 0, .pt 3 [Sl.enc c21.2.code, iv c21.2.pos, AV.sc (.int .u64 c21.2.seed)]), (AV.ptr o1 1 0 0, .pt 1 [nilS]), (AV.ptr o15 1 0 0, .pt 1 [x11])]) (x := x35) (ps := ps38) (A := Stroke) O37).2]) (fun h42 O43 => ?_)
    replace O43 : Hold B h42 ([(AV.ptr o_ 1 0 0, .pt 3 [Sl.enc c21.2.code, iv c21.2.pos, AV.sc (.int .u64 c21.2.seed)]), (AV.ptr o1 1 0 0, .pt 1 [nilS]), (AV.ptr o15 1 0 0, .pt 1 [x35])] ++ D2 (A := Stroke) x35 ps38) := O43
    refine sim_let (v := AV.agg [x35]) (O43.ld 2 rfl true 1 0) ?_
    refine sim_store O43 1 (cs' := [x35]) rfl (by first | rfl | simp [(D2.oneX (l := [(AV.ptr o_ 1 0 0, .pt 3 [Sl.enc c21.2.code, iv c21.2.pos, AV.sc (.int .u64 c21.2.seed)]), (AV.ptr o1 1 0 0, .pt 1 [nilS]), (AV.ptr o15 1 0 0, .pt 1 [x35])]) (x := x35) (ps := ps38) (A := Stroke) O43).1, (D2.oneX (l := [(AV.ptr o_ 1 0 0, .pt 3 [Sl.enc c21.2.code, iv c21.2.pos, AV.sc (.int .u64 c21.2.seed)]), (AV.ptr o1 1 0 0, .pt 1 [nilS]), (AV.ptr o15 1 0 0, .pt 1 [x35])]) (x := x35) (ps := ps38) (A := Stroke) O43).2]) (by simp) (by first | rfl | simp [(D2.oneX (l := [(AV.ptr o_ 1 0 0, .pt 3 [Sl.enc c21.2.code, iv c21.2.pos, AV.sc (.int .u64 c21.2.seed)]), (AV.ptr o1 1 0 0, .pt 1 [nilS]), (AV.ptr o15 1 0 0, .pt 1 [x35])]) (x := x35) (ps := ps38) (A := Stroke) O43).1, (D2.oneX (l := [(AV.ptr o_ 1 0 0, .pt 3 [Sl.enc c21.2.code, iv c21.2.pos, AV.sc (.int .u64 c21.2.seed)]), (AV.ptr o1 1 0 0, .pt 1 [nilS]), (AV.ptr o15 1 0 0, .pt 1 [x35])]) (x := x35) (ps := ps38) (A := Stroke) O43).2]) (by first | rfl | simp [splice, (D2.oneX (l := [(AV.ptr o_ 1 0 0, .pt 3 [Sl.enc c21.2.code, iv c21.2.pos, AV.sc (.int .u64 c21.2.seed)]), (AV.ptr o1 1 0 0, .pt 1 [nilS]), (AV.ptr o15 1 0 0, .pt 1 [x35])]) (x := x35) (ps := ps38) (A := Stroke) O43).1, (D2.oneX (l := [(AV.ptr o_ 1 0 0, .pt 3 [Sl.enc c21.2.code, iv c21.2.pos, AV.sc (.int .u64 c21.2.seed)]), (AV.ptr o1 1 0 0, .pt 1 [nilS]), (AV.ptr o15 1 0 0, .pt 1 [x35])]) (x := x35) (ps := ps38) (A := Stroke) O43).2]) (fun h44 O45 => ?_)
    replace O45 : Hold B h44 ([(AV.ptr o_ 1 0 0, .pt 3 [Sl.enc c21.2.code, iv c21.2.pos, AV.sc (.int .u64 c21.2.seed)]), (AV.ptr o1 1 0 0, .pt 1 [x35]), (AV.ptr o15 1 0 0, .pt 1 [x35])] ++ D2 (A := Stroke) x35 ps38) := O45
    refine sim_retL (resL_c (v := AV.agg [x35]) (O45.ld 1 rfl true 1 0) (resL_nil _)) ?_
    dsimp only [pack]
    have O46 : Hold B h44 ([(AV.ptr o_ 1 0 0, .pt 3 [Sl.enc c21.2.code, iv c21.2.pos, AV.sc (.int .u64 c21.2.seed)])] ++ D2 (A := Stroke) x35 ps38) := O45.selD [0] (by decide) rfl
    exact sim_ret ⟨_, _, rfl, hp39, O46⟩
  · refine sim_let (v := bv (decide (c21.1 = 1))) (aCmp_eq _ _) ?_
    refine sim_cond (fun c47 => ?_) (fun c47 => ?_)
    · refine sim_let (v := bv (decide (0 < (((c5.1.strokes.getD []).length : Nat) : Int)))) (aBin_gtr _ _) ?_
      refine sim_cond (fun c48 => ?_) (fun c48 => ?_)
      · refine sim_gen he_spec_l00Src_pick (tg_spec_l00Src_pick c21.2 (((c5.1.strokes.getD []).length : Nat) : Int) (O26.start (i := 0) rfl rfl)) (fun c49 v50 h51 hq52 => ?_)
        obtain ⟨e_v50, O53⟩ := hq52
        dsimp only at e_v50
        subst v50
        have O54 : Hold B h51 ([(AV.ptr o_ 1 0 0, .pt 3 [Sl.enc c49.2.code, iv c49.2.pos, AV.sc (.int .u64 c49.2.seed)]), (AV.ptr o1 1 0 0, .pt 1 [nilS]), (AV.ptr o15 1 0 0, .pt 1 [x11])] ++ D2 (A := Stroke) x11 ps13) := Hold.rot (l := [(AV.ptr o_ 1 0 0, .pt 3 [Sl.enc c49.2.code, iv c49.2.pos, AV.sc (.int .u64 c49.2.seed)]), (AV.ptr o1 1 0 0, .pt 1 [nilS]), (AV.ptr o15 1 0 0, .pt 1 [x11])]) (d := D2 (A := Stroke) x11 ps13) (n := []) (O26.merge (i := 0) rfl rfl O53)
        refine sim_let (v := AV.ptr o15 1 0 0) rfl ?_
        refine sim_let (v := x11) (O54.ld 2 rfl false 1 0) ?_
        refine sim_getN (l := [(AV.ptr o_ 1 0 0, .pt 3 [Sl.enc c49.2.code, iv c49.2.pos, AV.sc (.int .u64 c49.2.seed)]), (AV.ptr o1 1 0 0, .pt 1 [nilS]), (AV.ptr o15 1 0 0, .pt 1 [x11])]) (x := x11) (ps := ps13) (A := Stroke) O54 hp14 (fun m56 a55 x59 hi57 hm58 hg60 => ?_)
        refine sim_let (v := elp x11 m56 0) (D2.fld (l := [(AV.ptr o_ 1 0 0, .pt 3 [Sl.enc c49.2.code, iv c49.2.pos, AV.sc (.int .u64 c49.2.seed)]), (AV.ptr o1 1 0 0, .pt 1 [nilS]), (AV.ptr o15 1 0 0, .pt 1 [x11])]) (x := x11) (ps := ps13) (A := Stroke) O54 hm58 _ _) ?_
        refine sim_let (v := x59) (D2.ld (l := [(AV.ptr o_ 1 0 0, .pt 3 [Sl.enc c49.2.code, iv c49.2.pos, AV.sc (.int .u64 c49.2.seed)]), (AV.ptr o1 1 0 0, .pt 1 [nilS]), (AV.ptr o15 1 0 0, .pt 1 [x11])]) (x := x11) (ps := ps13) (A := Stroke) O54 hm58 false 1 0) ?_
        refine sim_get (D2.tab (l := [(AV.ptr o_ 1 0 0, .pt 3 [Sl.enc c49.2.code, iv c49.2.pos, AV.sc (.int .u64 c49.2.seed)]), (AV.ptr o1 1 0 0, .pt 1 [nilS]), (AV.ptr o15 1 0 0, .pt 1 [x11])]) (x := x11) (ps := ps13) (A := Stroke) O54 hm58) (fun m62 a61 hi63 hm64 => ?_)
        refine sim_build (A := Int) O54 ([(-1), 4095, 4096] : List Int) rfl (by first | rfl | simp [aFillRows, zrows]) rfl (fun x65 h66 O67 => ?_)
        replace O67 : Hold B h66 ([(AV.ptr o_ 1 0 0, .pt 3 [Sl.enc c49.2.code, iv c49.2.pos, AV.sc (.int .u64 c49.2.seed)]), (AV.ptr o1 1 0 0, .pt 1 [nilS]), (AV.ptr o15 1 0 0, .pt 1 [x11]), (x65, obS ((some ([(-1), 4095, 4096] : List Int)) : Sl Int))] ++ D2 (A := Stroke) x11 ps13) := Hold.rot O67
        refine sim_gen he_spec_l00Src_among (tg_spec_l00Src_among c49.2 (some ([(-1), 4095, 4096] : List Int)) (O67.tabK (A := Int) (s := (some ([(-1), 4095, 4096] : List Int))) 3 0 rfl rfl rfl (by decide)) (O67.start (i := 0) rfl rfl)) (fun c69 v70 h71 hq72 => ?_)
        obtain ⟨e_v70, O73⟩ := hq72
        dsimp only at e_v70
        subst v70
        have O74 : Hold B h71 ([(AV.ptr o_ 1 0 0, .pt 3 [Sl.enc c69.2.code, iv c69.2.pos, AV.sc (.int .u64 c69.2.seed)]), (AV.ptr o1 1 0 0, .pt 1 [nilS]), (AV.ptr o15 1 0 0, .pt 1 [x11]), (x65, obS ((some ([(-1), 4095, 4096] : List Int)) : Sl Int))] ++ D2 (A := Stroke) x11 ps13) := Hold.rot (l := [(AV.ptr o_ 1 0 0, .pt 3 [Sl.enc c69.2.code, iv c69.2.pos, AV.sc (.int .u64 c69.2.seed)]), (AV.ptr o1 1 0 0, .pt 1 [nilS]), (AV.ptr o15 1 0 0, .pt 1 [x11]), (x65, obS ((some ([(-1), 4095, 4096] : List Int)) : Sl Int))]) (d := D2 (A := Stroke) x11 ps13) (n := []) (O67.merge (i := 0) rfl rfl O73)
        refine sim_let (v := elp x59 m62 0) (nc_elp _ _ _) ?_
        refine sim_let (v := elp x59 m62 0) ((D2.tab (l := [(AV.ptr o_ 1 0 0, .pt 3 [Sl.enc c69.2.code, iv c69.2.pos, AV.sc (.int .u64 c69.2.seed)]), (AV.ptr o1 1 0 0, .pt 1 [nilS]), (AV.ptr o15 1 0 0, .pt 1 [x11]), (x65, obS ((some ([(-1), 4095, 4096] : List Int)) : Sl Int))]) (x := x11) (ps := ps13) (A := Stroke) O74 hm58).fld _ _ _) ?_
        refine sim_setIn (l := [(AV.ptr o_ 1 0 0, .pt 3 [Sl.enc c69.2.code, iv c69.2.pos, AV.sc (.int .u64 c69.2.seed)]), (AV.ptr o1 1 0 0, .pt 1 [nilS]), (AV.ptr o15 1 0 0, .pt 1 [x11]), (x65, obS ((some ([(-1), 4095, 4096] : List Int)) : Sl Int))]) (x := x11) (ps := ps13) (A := Stroke) O74 hp14 (⟨(setS a55.points 0 (⟨c69.1, a61.y, a61.t⟩ : Point))⟩ : Stroke) (⟨c69.1, a61.y, a61.t⟩ : Point) (by first | exact hi57 | rfl) hm58 hi63 hm64 rfl rfl rfl (by first | exact Nat.le_of_ble_eq_true rfl | simp) (by first | rfl | simp) (by first | rfl | simp [splice]) (fun ps77 h75 hp78 O76 => ?_)
        refine sim_let (v := AV.agg [x11]) (O76.ld 2 rfl true 1 0) ?_
        refine sim_store O76 1 (cs' := [x11]) rfl (by first | rfl | simp [(D2.oneX (l := [(AV.ptr o_ 1 0 0, .pt 3 [Sl.enc c69.2.code, iv c69.2.pos, AV.sc (.int .u64 c69.2.seed)]), (AV.ptr o1 1 0 0, .pt 1 [nilS]), (AV.ptr o15 1 0 0, .pt 1 [x11]), (x65, obS ((some ([(-1), 4095, 4096] : List Int)) : Sl Int))]) (x := x11) (ps := ps77) (A := Stroke) O76).1, (D2.oneX (l := [(AV.ptr o_ 1 0 0, .pt 3 [Sl.enc c69.2.code, iv c69.2.pos, AV.sc (.int .u64 c69.2.seed)]), (AV.ptr o1 1 0 0, .pt 1 [nilS]), (AV.ptr o15 1 0 0, .pt 1 [x11]), (x65, obS ((some ([(-1), 4095, 4096] : List Int)) : Sl Int))]) (x := x11) (ps := ps77) (A := Stroke) O76).2]) (by simp) (by first | rfl | simp [(D2.oneX (l := [(AV.ptr o_ 1 0 0, .pt 3 [Sl.enc c69.2.code, iv c69.2.pos, AV.sc (.int .u64 c69.2.seed)]), (AV.ptr o1 1 0 0, .pt 1 [nilS]), (AV.ptr o15 1 0 0, .pt 1 [x11]), (x65, obS ((some ([(-1), 4095, 4096] : List Int)) : Sl Int))]) (x := x11) (ps := ps77) (A := Stroke) O76).1, (D2.oneX (l := [(AV.ptr o_ 1 0 0, .pt 3 [Sl.enc c69.2.code, iv c69.2.pos, AV.sc (.int .u64 c69.2.seed)]), (AV.ptr o1 1 0 0, .pt 1 [nilS]), (AV.ptr o15 1 0 0, .pt 1 [x11]), (x65, obS ((some ([(-1), 4095, 4096] : List Int)) : Sl Int))]) (x := x11) (ps := ps77) (A := Stroke) O76).2]) (by first | rfl | simp [splice, (D2.oneX (l := [(AV.ptr o_ 1 0 0, .pt 3 [Sl.enc c69.2.code, iv c69.2.pos, AV.sc (.int .u64 c69.2.seed)]), (AV.ptr o1 1 0 0, .pt 1 [nilS]), (AV.ptr o15 1 0 0, .pt 1 [x11]), (x65, obS ((some ([(-1), 4095, 4096] : List Int)) : Sl Int))]) (x := x11) (ps := ps77) (A := Stroke) O76).1, (D2.oneX (l := [(AV.ptr o_ 1 0 0, .pt 3 [Sl.enc c69.2.code, iv c69.2.pos, AV.sc (.int .u64 c69.2.seed)]), (AV.ptr o1 1 0 0, .pt 1 [nilS]), (AV.ptr o15 1 0 0, .pt 1 [x11]), (x65, obS ((some ([(-1), 4095, 4096] : List Int)) : Sl Int))]) (x := x11) (ps := ps77) (A := Stroke) O76).2]) (fun h79 O80 => ?_)
        replace O80 : Hold B h79 ([(AV.ptr o_ 1 0 0, .pt 3 [Sl.enc c69.2.code, iv c69.2.pos, AV.sc (.int .u64 c69.2.seed)]), (AV.ptr o1 1 0 0, .pt 1 [x11]), (AV.ptr o15 1 0 0, .pt 1 [x11]), (x65, obS ((some ([(-1), 4095, 4096] : List Int)) : Sl Int))] ++ D2 (A := Stroke) x11 ps77) := O80
        refine sim_retL (resL_c (v := AV.agg [x11]) (O80.ld 1 rfl true 1 0) (resL_nil _)) ?_
        dsimp only [pack]
        have O81 : Hold B h79 ([(AV.ptr o_ 1 0 0, .pt 3 [Sl.enc c69.2.code, iv c69.2.pos, AV.sc (.int .u64 c69.2.seed)])] ++ D2 (A := Stroke) x11 ps77) := O80.selD [0] (by decide) rfl
        exact sim_ret ⟨_, _, rfl, hp78, O81⟩
      · refine sim_let (v := AV.agg [x11]) (O26.ld 2 rfl true 1 0) ?_
        refine sim_store O26 1 (cs' := [x11]) rfl (by first | rfl | simp [(D2.oneX (l := [(AV.ptr o_ 1 0 0, .pt 3 [Sl.enc c21.2.code, iv c21.2.pos, AV.sc (.int .u64 c21.2.seed)]), (AV.ptr o1 1 0 0, .pt 1 [nilS]), (AV.ptr o15 1 0 0, .pt 1 [x11])]) (x := x11) (ps := ps13) (A := Stroke) O26).1, (D2.oneX (l := [(AV.ptr o_ 1 0 0, .pt 3 [Sl.enc c21.2.code, iv c21.2.pos, AV.sc (.int .u64 c21.2.seed)]), (AV.ptr o1 1 0 0, .pt 1 [nilS]), (AV.ptr o15 1 0 0, .pt 1 [x11])]) (x := x11) (ps := ps13) (A := Stroke) O26).2]) (by simp) (by first | rfl | simp [(D2.oneX (l := [(AV.ptr o_ 1 0 0, .pt 3 [Sl.enc c21.2.code, iv c21.2.pos, AV.sc (.int .u64 c21.2.seed)]), (AV.ptr o1 1 0 0, .pt 1 [nilS]), (AV.ptr o15 1 0 0, .pt 1 [x11])]) (x := x11) (ps := ps13) (A := Stroke) O26).1, (D2.oneX (l := [(AV.ptr o_ 1 0 0, .pt 3 [Sl.enc c21.2.code, iv c21.2.pos, AV.sc (.int .u64 c21.2.seed)]), (AV.ptr o1 1 0 0, .pt 1 [nilS]), (AV.ptr o15 1 0 0, .pt 1 [x11])]) (x := x11) (ps := ps13) (A := Stroke) O26).2]) (by first | rfl | simp [splice, (D2.oneX (l := [(AV.ptr o_ 1 0 0, .pt 3 [Sl.enc c21.2.code, iv c21.2.pos, AV.sc (.int .u64 c21.2.seed)]), (AV.ptr o1 1 0 0, .pt 1 [nilS]), (AV.ptr o15 1 0 0, .pt 1 [x11])]) (x := x11) (ps := ps13) (A := Stroke) O26).1, (D2.oneX (l := [(AV.ptr o_ 1 0 0, .pt 3 [Sl.enc c21.2.code, iv c21.2.pos, AV.sc (.int .u64 c21.2.seed)]), (AV.ptr o1 1 0 0, .pt 1 [nilS]), (AV.ptr o15 1 0 0, .pt 1 [x11])]) (x := x11) (ps := ps13) (A := Stroke) O26).2]) (fun h82 O83 => ?_)
        replace O83 : Hold B h82 ([(AV.ptr o_ 1 0 0, .pt 3 [Sl.enc c21.2.code, iv c21.2.pos, AV.sc (.int .u64 c21.2.seed)]), (AV.ptr o1 1 0 0, .pt 1 [x11]), (AV.ptr o15 1 0 0, .pt 1 [x11])] ++ D2 (A := Stroke) x11 ps13) := O83
        refine sim_retL (resL_c (v := AV.agg [x11]) (O83.ld 1 rfl true 1 0) (resL_nil _)) ?_
        dsimp only [pack]
        have O84 : Hold B h82 ([(AV.ptr o_ 1 0 0, .pt 3 [Sl.enc c21.2.code, iv c21.2.pos, AV.sc (.int .u64 c21.2.seed)])] ++ D2 (A := Stroke) x11 ps13) := O83.selD [0] (by decide) rfl
        exact sim_ret ⟨_, _, rfl, hp14, O84⟩
    · refine sim_let (v := bv (decide (c21.1 = 2))) (aCmp_eq _ _) ?_
      refine sim_cond (fun c85 => ?_) (fun c85 => ?_)
      · refine sim_let (v := bv (decide (0 < (((c5.1.strokes.getD []).length : Nat) : Int)))) (aBin_gtr _ _) ?_
        refine sim_cond (fun c86 => ?_) (fun c86 => ?_)
        · refine sim_gen he_spec_l00Src_pick (tg_spec_l00Src_pick c21.2 (((c5.1.strokes.getD []).length : Nat) : Int) (O26.start (i := 0) rfl rfl)) (fun c87 v88 h89 hq90 => ?_)
          obtain ⟨e_v88, O91⟩ := hq90
          dsimp only at e_v88
          subst v88
          have O92 : Hold B h89 ([(AV.ptr o_ 1 0 0, .pt 3 [Sl.enc c87.2.code, iv c87.2.pos, AV.sc (.int .u64 c87.2.seed)]), (AV.ptr o1 1 0 0, .pt 1 [nilS]), (AV.ptr o15 1 0 0, .pt 1 [x11])] ++ D2 (A := Stroke) x11 ps13) := Hold.rot (l := [(AV.ptr o_ 1 0 0, .pt 3 [Sl.enc c87.2.code, iv c87.2.pos, AV.sc (.int .u64 c87.2.seed)]), (AV.ptr o1 1 0 0, .pt 1 [nilS]), (AV.ptr o15 1 0 0, .pt 1 [x11])]) (d := D2 (A := Stroke) x11 ps13) (n := []) (O26.merge (i := 0) rfl rfl O91)
          refine sim_let (v := AV.ptr o15 1 0 0) rfl ?_
          refine sim_let (v := x11) (O92.ld 2 rfl false 1 0) ?_
          refine sim_getN (l := [(AV.ptr o_ 1 0 0, .pt 3 [Sl.enc c87.2.code, iv c87.2.pos, AV.sc (.int .u64 c87.2.seed)]), (AV.ptr o1 1 0 0, .pt 1 [nilS]), (AV.ptr o15 1 0 0, .pt 1 [x11])]) (x := x11) (ps := ps13) (A := Stroke) O92 hp14 (fun m94 a93 x97 hi95 hm96 hg98 => ?_)
          refine sim_let (v := elp x11 m94 0) (D2.fld (l := [(AV.ptr o_ 1 0 0, .pt 3 [Sl.enc c87.2.code, iv c87.2.pos, AV.sc (.int .u64 c87.2.seed)]), (AV.ptr o1 1 0 0, .pt 1 [nilS]), (AV.ptr o15 1 0 0, .pt 1 [x11])]) (x := x11) (ps := ps13) (A := Stroke) O92 hm96 _ _) ?_
          refine sim_let (v := x97) (D2.ld (l := [(AV.ptr o_ 1 0 0, .pt 3 [Sl.enc c87.2.code, iv c87.2.pos, AV.sc (.int .u64 c87.2.seed)]), (AV.ptr o1 1 0 0, .pt 1 [nilS]), (AV.ptr o15 1 0 0, .pt 1 [x11])]) (x := x11) (ps := ps13) (A := Stroke) O92 hm96 false 1 0) ?_
          refine sim_get (D2.tab (l := [(AV.ptr o_ 1 0 0, .pt 3 [Sl.enc c87.2.code, iv c87.2.pos, AV.sc (.int .u64 c87.2.seed)]), (AV.ptr o1 1 0 0, .pt 1 [nilS]), (AV.ptr o15 1 0 0, .pt 1 [x11])]) (x := x11) (ps := ps13) (A := Stroke) O92 hm96) (fun m100 a99 hi101 hm102 => ?_)
          refine sim_build (A := Int) O92 ([(-1), 0, 3600000, 3600001] : List Int) rfl (by first | rfl | simp [aFillRows, zrows]) rfl (fun x103 h104 O105 => ?_)
          replace O105 : Hold B h104 ([(AV.ptr o_ 1 0 0, .pt 3 [Sl.enc c87.2.code, iv c87.2.pos, AV.sc (.int .u64 c87.2.seed)]), (AV.ptr o1 1 0 0, .pt 1 [nilS]), (AV.ptr o15 1 0 0, .pt 1 [x11]), (x103, obS ((some ([(-1), 0, 3600000, 3600001] : List Int)) : Sl Int))] ++ D2 (A := Stroke) x11 ps13) := Hold.rot O105
          refine sim_gen he_spec_l00Src_among (tg_spec_l00Src_among c87.2 (some ([(-1), 0, 3600000, 3600001] : List Int)) (O105.tabK (A := Int) (s := (some ([(-1), 0, 3600000, 3600001] : List Int))) 3 0 rfl rfl rfl (by decide)) (O105.start (i := 0) rfl rfl)) (fun c107 v108 h109 hq110 => ?_)
          obtain ⟨e_v108, O111⟩ := hq110
          dsimp only at e_v108
          subst v108
          have O112 : Hold B h109 ([(AV.ptr o_ 1 0 0, .pt 3 [Sl.enc c107.2.code, iv c107.2.pos, AV.sc (.int .u64 c107.2.seed)]), (AV.ptr o1 1 0 0, .pt 1 [nilS]), (AV.ptr o15 1 0 0, .pt 1 [x11]), (x103, obS ((some ([(-1), 0, 3600000, 3600001] : List Int)) : Sl Int))] ++ D2 (A := Stroke) x11 ps13) := Hold.rot (l := [(AV.ptr o_ 1 0 0, .pt 3 [Sl.enc c107.2.code, iv c107.2.pos, AV.sc (.int .u64 c107.2.seed)]), (AV.ptr o1 1 0 0, .pt 1 [nilS]), (AV.ptr o15 1 0 0, .pt 1 [x11]), (x103, obS ((some ([(-1), 0, 3600000, 3600001] : List Int)) : Sl Int))]) (d := D2 (A := Stroke) x11 ps13) (n := []) (O105.merge (i := 0) rfl rfl O111)
          refine sim_let (v := elp x97 m100 0) (nc_elp _ _ _) ?_
          refine sim_let (v := elp x97 m100 2) ((D2.tab (l := [(AV.ptr o_ 1 0 0, .pt 3 [Sl.enc c107.2.code, iv c107.2.pos, AV.sc (.int .u64 c107.2.seed)]), (AV.ptr o1 1 0 0, .pt 1 [nilS]), (AV.ptr o15 1 0 0, .pt 1 [x11]), (x103, obS ((some ([(-1), 0, 3600000, 3600001] : List Int)) : Sl Int))]) (x := x11) (ps := ps13) (A := Stroke) O112 hm96).fld _ _ _) ?_
          refine sim_setIn (l := [(AV.ptr o_ 1 0 0, .pt 3 [Sl.enc c107.2.code, iv c107.2.pos, AV.sc (.int .u64 c107.2.seed)]), (AV.ptr o1 1 0 0, .pt 1 [nilS]), (AV.ptr o15 1 0 0, .pt 1 [x11]), (x103, obS ((some ([(-1), 0, 3600000, 3600001] : List Int)) : Sl Int))]) (x := x11) (ps := ps13) (A := Stroke) O112 hp14 (⟨(setS a93.points 0 (⟨a99.x, a99.y, c107.1⟩ : Point))⟩ : Stroke) (⟨a99.x, a99.y, c107.1⟩ : Point) (by first | exact hi95 | rfl) hm96 hi101 hm102 rfl rfl rfl (by first | exact Nat.le_of_ble_eq_true rfl | simp) (by first | rfl | simp) (by first | rfl | simp [splice]) (fun ps115 h113 hp116 O114 => ?_)
          refine sim_let (v := AV.agg [x11]) (O114.ld 2 rfl true 1 0) ?_
          refine sim_store O114 1 (cs' := [x11]) rfl (by first | rfl | simp [(D2.oneX (l := [(AV.ptr o_ 1 0 0, .pt 3 [Sl.enc c107.2.code, iv c107.2.pos, AV.sc (.int .u64 c107.2.seed)]), (AV.ptr o1 1 0 0, .pt 1 [nilS]), (AV.ptr o15 1 0 0, .pt 1 [x11]), (x103, obS ((some ([(-1), 0, 3600000, 3600001] : List Int)) : Sl Int))]) (x := x11) (ps := ps115) (A := Stroke) O114).1, (D2.oneX (l := [(AV.ptr o_ 1 0 0, .pt 3 [Sl.enc c107.2.code, iv c107.2.pos, AV.sc (.int .u64 c107.2.seed)]), (AV.ptr o1 1 0 0, .pt 1 [nilS]), (AV.ptr o15 1 0 0, .pt 1 [x11]), (x103, obS ((some ([(-1), 0, 3600000, 3600001] : List Int)) : Sl Int))]) (x := x11) (ps := ps115) (A := Stroke) O114).2]) (by simp) (by first | rfl | simp [(D2.oneX (l := [(AV.ptr o_ 1 0 0, .pt 3 [Sl.enc c107.2.code, iv c107.2.pos, AV.sc (.int .u64 c107.2.seed)]), (AV.ptr o1 1 0 0, .pt 1 [nilS]), (AV.ptr o15 1 0 0, .pt 1 [x11]), (x103, obS ((some ([(-1), 0, 3600000, 3600001] : List Int)) : Sl Int))]) (x := x11) (ps := ps115) (A := Stroke) O114).1, (D2.oneX (l := [(AV.ptr o_ 1 0 0, .pt 3 [Sl.enc c107.2.code, iv c107.2.pos, AV.sc (.int .u64 c107.2.seed)]), (AV.ptr o1 1 0 0, .pt 1 [nilS]), (AV.ptr o15 1 0 0, .pt 1 [x11]), (x103, obS ((some ([(-1), 0, 3600000, 3600001] : List Int)) : Sl Int))]) (x := x11) (ps := ps115) (A := Stroke) O114).2]) (by first | rfl | simp [splice, (D2.oneX (l := [(AV.ptr o_ 1 0 0, .pt 3 [Sl.enc c107.2.code, iv c107.2.pos, AV.sc (.int .u64 c107.2.seed)]), (AV.ptr o1 1 0 0, .pt 1 [nilS]), (AV.ptr o15 1 0 0, .pt 1 [x11]), (x103, obS ((some ([(-1), 0, 3600000, 3600001] : List Int)) : Sl Int))]) (x := x11) (ps := ps115) (A := Stroke) O114).1, (D2.oneX (l := [(AV.ptr o_ 1 0 0, .pt 3 [Sl.enc c107.2.code, iv c107.2.pos, AV.sc (.int .u64 c107.2.seed)]), (AV.ptr o1 1 0 0, .pt 1 [nilS]), (AV.ptr o15 1 0 0, .pt 1 [x11]), (x103, obS ((some ([(-1), 0, 3600000, 3600001] : List Int)) : Sl Int))]) (x := x11) (ps := ps115) (A := Stroke) O114).2]) (fun h117 O118 => ?_)
          replace O118 : Hold B h117 ([(AV.ptr o_ 1 0 0, .pt 3 [Sl.enc c107.2.code, iv c107.2.pos, AV.sc (.int .u64 c107.2.seed)]), (AV.ptr o1 1 0 0, .pt 1 [x11]), (AV.ptr o15 1 0 0, .pt 1 [x11]), (x103, obS ((some ([(-1), 0, 3600000, 3600001] : List Int)) : Sl Int))] ++ D2 (A := Stroke) x11 ps115) := O118
          refine sim_retL (resL_c (v := AV.agg [x11]) (O118.ld 1 rfl true 1 0) (resL_nil _)) ?_
          dsimp only [pack]
          have O119 : Hold B h117 ([(AV.ptr o_ 1 0 0, .pt 3 [Sl.enc c107.2.code, iv c107.2.pos, AV.sc (.int .u64 c107.2.seed)])] ++ D2 (A := Stroke) x11 ps115) := O118.selD [0] (by decide) rfl
          exact sim_ret ⟨_, _, rfl, hp116, O119⟩
        · refine sim_let (v := AV.agg [x11]) (O26.ld 2 rfl true 1 0) ?_
          refine sim_store O26 1 (cs' := [x11]) rfl (by first | rfl | simp [(D2.oneX (l := [(AV.ptr o_ 1 0 0, .pt 3 [Sl.enc c21.2.code, iv c21.2.pos, AV.sc (.int .u64 c21.2.seed)]), (AV.ptr o1 1 0 0, .pt 1 [nilS]), (AV.ptr o15 1 0 0, .pt 1 [x11])]) (x := x11) (ps := ps13) (A := Stroke) O26).1, (D2.oneX (l := [(AV.ptr o_ 1 0 0, .pt 3 [Sl.enc c21.2.code, iv c21.2.pos, AV.sc (.int .u64 c21.2.seed)]), (AV.ptr o1 1 0 0, .pt 1 [nilS]), (AV.ptr o15 1 0 0, .pt 1 [x11])]) (x := x11) (ps := ps13) (A := Stroke) O26).2]) (by simp) (by first | rfl | simp [(D2.oneX (l := [(AV.ptr o_ 1 0 0, .pt 3 [Sl.enc c21.2.code, iv c21.2.pos, AV.sc (.int .u64 c21.2.seed)]), (AV.ptr o1 1 0 0, .pt 1 [nilS]), (AV.ptr o15 1 0 0, .pt 1 [x11])]) (x := x11) (ps := ps13) (A := Stroke) O26).1, (D2.oneX (l := [(AV.ptr o_ 1 0 0, .pt 3 [Sl.enc c21.2.code, iv c21.2.pos, AV.sc (.int .u64 c21.2.seed)]), (AV.ptr o1 1 0 0, .pt 1 [nilS]), (AV.ptr o15 1 0 0, .pt 1 [x11])]) (x := x11) (ps := ps13) (A := Stroke) O26).2]) (by first | rfl | simp [splice, (D2.oneX (l := [(AV.ptr o_ 1 0 0, .pt 3 [Sl.enc c21.2.code, iv c21.2.pos, AV.sc (.int .u64 c21.2.seed)]), (AV.ptr o1 1 0 0, .pt 1 [nilS]), (AV.ptr o15 1 0 0, .pt 1 [x11])]) (x := x11) (ps := ps13) (A := Stroke) O26).1, (D2.oneX (l := [(AV.ptr o_ 1 0 0, .pt 3 [Sl.enc c21.2.code, iv c21.2.pos, AV.sc (.int .u64 c21.2.seed)]), (AV.ptr o1 1 0 0, .pt 1 [nilS]), (AV.ptr o15 1 0 0, .pt 1 [x11])]) (x := x11) (ps := ps13) (A := Stroke) O26).2]) (fun h120 O121 => ?_)
          replace O121 : Hold B h120 ([(AV.ptr o_ 1 0 0, .pt 3 [Sl.enc c21.2.code, iv c21.2.pos, AV.sc (.int .u64 c21.2.seed)]), (AV.ptr o1 1 0 0, .pt 1 [x11]), (AV.ptr o15 1 0 0, .pt 1 [x11])] ++ D2 (A := Stroke) x11 ps13) := O121
          refine sim_retL (resL_c (v := AV.agg [x11]) (O121.ld 1 rfl true 1 0) (resL_nil _)) ?_
          dsimp only [pack]
          have O122 : Hold B h120 ([(AV.ptr o_ 1 0 0, .pt 3 [Sl.enc c21.2.code, iv c21.2.pos, AV.sc (.int .u64 c21.2.seed)])] ++ D2 (A := Stroke) x11 ps13) := O121.selD [0] (by decide) rfl
          exact sim_ret ⟨_, _, rfl, hp14, O122⟩
      · refine sim_let (v := bv (decide (c21.1 = 3))) (aCmp_eq _ _) ?_
        refine sim_cond (fun c123 => ?_) (fun c123 => ?_)
        · refine sim_gen he_spec_l00Src_pick (tg_spec_l00Src_pick c21.2 2 (O26.start (i := 0) rfl rfl)) (fun c124 v125 h126 hq127 => ?_)
          obtain ⟨e_v125, O128⟩ := hq127
          dsimp only at e_v125
          subst v125
          have O129 : Hold B h126 ([(AV.ptr o_ 1 0 0, .pt 3 [Sl.enc c124.2.code, iv c124.2.pos, AV.sc (.int .u64 c124.2.seed)]), (AV.ptr o1 1 0 0, .pt 1 [nilS]), (AV.ptr o15 1 0 0, .pt 1 [x11])] ++ D2 (A := Stroke) x11 ps13) := Hold.rot (l := [(AV.ptr o_ 1 0 0, .pt 3 [Sl.enc c124.2.code, iv c124.2.pos, AV.sc (.int .u64 c124.2.seed)]), (AV.ptr o1 1 0 0, .pt 1 [nilS]), (AV.ptr o15 1 0 0, .pt 1 [x11])]) (d := D2 (A := Stroke) x11 ps13) (n := []) (O26.merge (i := 0) rfl rfl O128)
          refine sim_let (v := iv (wr (60 + c124.1))) (aBin_add _ _) ?_
          refine sim_call1 he_spec_l02Long (snapD_int _ _) (fun c130 => ?_)
          refine sim_hand1 O129 (c130.points : Sl Point) (fun z1 => AV.agg [z1]) (by intro b; simp only [mat_tup, mat_aggD, mat_agg, matLc, matLn, mat_iv, mat_bv, mat_sv, mat_bt, mat_nilS, mat_rS, List.append_nil, List.nil_append, List.length_nil, Nat.add_zero]) (by simp only [noF_tup, noF_aggD, noF_agg, noF_iv, noF_bv, noF_sv, noF_bt, noF_nilS, noF_rS, List.all_cons, List.all_nil, Bool.and_self]) (fun x132 h133 O134 => ?_)
          replace O134 : Hold B h133 ([(AV.ptr o_ 1 0 0, .pt 3 [Sl.enc c124.2.code, iv c124.2.pos, AV.sc (.int .u64 c124.2.seed)]), (AV.ptr o1 1 0 0, .pt 1 [nilS]), (AV.ptr o15 1 0 0, .pt 1 [x11]), (x132, obS (c130.points : Sl Point))] ++ D2 (A := Stroke) x11 ps13) := Hold.rot O134
          refine sim_buildRaw O134 [[x132]] 1 rfl (by first | rfl | simp [aFillRows, zrows, (O134.one (A := Point) (s := c130.points) 3 rfl).1, (O134.one (A := Point) (s := c130.points) 3 rfl).2]) rfl (fun x135 h136 O137 => ?_)
          replace O137 : Hold B h136 ([(AV.ptr o_ 1 0 0, .pt 3 [Sl.enc c124.2.code, iv c124.2.pos, AV.sc (.int .u64 c124.2.seed)]), (AV.ptr o1 1 0 0, .pt 1 [nilS]), (AV.ptr o15 1 0 0, .pt 1 [x11]), (x132, obS (c130.points : Sl Point)), (x135, .sl 1 [[x132]])] ++ D2 (A := Stroke) x11 ps13) := Hold.rot O137
          have O139 : Hold B h136 [(AV.ptr o_ 1 0 0, .pt 3 [Sl.enc c124.2.code, iv c124.2.pos, AV.sc (.int .u64 c124.2.seed)]), (AV.ptr o1 1 0 0, .pt 1 [nilS]), (AV.ptr o15 1 0 0, .pt 1 [x11]), (x132, obS (c130.points : Sl Point)), (x135, .sl 1 [[x132]])] := O137.left
          have O140 : Hold B h136 ([(AV.ptr o_ 1 0 0, .pt 3 [Sl.enc c124.2.code, iv c124.2.pos, AV.sc (.int .u64 c124.2.seed)]), (AV.ptr o1 1 0 0, .pt 1 [nilS]), (AV.ptr o15 1 0 0, .pt 1 [x11])] ++ D2 (A := Stroke) x135 (some [((⟨c130.points⟩ : Stroke), x132)])) := O139.sel [0, 1, 2, 4, 3] (by decide) rfl
          refine sim_let (v := AV.agg [x135]) (by first | rfl | simp [aBuild, aFill, splice, (D2.oneX (l := [(AV.ptr o_ 1 0 0, .pt 3 [Sl.enc c124.2.code, iv c124.2.pos, AV.sc (.int .u64 c124.2.seed)]), (AV.ptr o1 1 0 0, .pt 1 [nilS]), (AV.ptr o15 1 0 0, .pt 1 [x11])]) (x := x135) (ps := (some [((⟨c130.points⟩ : Stroke), x132)])) (A := Stroke) O140).1, (D2.oneX (l := [(AV.ptr o_ 1 0 0, .pt 3 [Sl.enc c124.2.code, iv c124.2.pos, AV.sc (.int .u64 c124.2.seed)]), (AV.ptr o1 1 0 0, .pt 1 [nilS]), (AV.ptr o15 1 0 0, .pt 1 [x11])]) (x := x135) (ps := (some [((⟨c130.points⟩ : Stroke), x132)])) (A := Stroke) O140).2]) ?_
          refine sim_store O140 2 (cs' := [x135]) rfl (by first | rfl | simp [(D2.oneX (l := [(AV.ptr o_ 1 0 0, .pt 3 [Sl.enc c124.2.code, iv c124.2.pos, AV.sc (.int .u64 c124.2.seed)]), (AV.ptr o1 1 0 0, .pt 1 [nilS]), (AV.ptr o15 1 0 0, .pt 1 [x11])]) (x := x135) (ps := (some [((⟨c130.points⟩ : Stroke), x132)])) (A := Stroke) O140).1, (D2.oneX (l := [(AV.ptr o_ 1 0 0, .pt 3 [Sl.enc c124.2.code, iv c124.2.pos, AV.sc (.int .u64 c124.2.seed)]), (AV.ptr o1 1 0 0, .pt 1 [nilS]), (AV.ptr o15 1 0 0, .pt 1 [x11])]) (x := x135) (ps := (some [((⟨c130.points⟩ : Stroke), x132)])) (A := Stroke) O140).2]) (by simp) (by first | rfl | simp [(D2.oneX (l := [(AV.ptr o_ 1 0 0, .pt 3 [Sl.enc c124.2.code, iv c124.2.pos, AV.sc (.int .u64 c124.2.seed)]), (AV.ptr o1 1 0 0, .pt 1 [nilS]), (AV.ptr o15 1 0 0, .pt 1 [x11])]) (x := x135) (ps := (some [((⟨c130.points⟩ : Stroke), x132)])) (A := Stroke) O140).1, (D2.oneX (l := [(AV.ptr o_ 1 0 0, .pt 3 [Sl.enc c124.2.code, iv c124.2.pos, AV.sc (.int .u64 c124.2.seed)]), (AV.ptr o1 1 0 0, .pt 1 [nilS]), (AV.ptr o15 1 0 0, .pt 1 [x11])]) (x := x135) (ps := (some [((⟨c130.points⟩ : Stroke), x132)])) (A := Stroke) O140).2]) (by first | rfl | simp [splice, (D2.oneX (l := [(AV.ptr o_ 1 0 0, .pt 3 [Sl.enc c124.2.code, iv c124.2.pos, AV.sc (.int .u64 c124.2.seed)]), (AV.ptr o1 1 0 0, .pt 1 [nilS]), (AV.ptr o15 1 0 0, .pt 1 [x11])]) (x := x135) (ps := (some [((⟨c130.points⟩ : Stroke), x132)])) (A := Stroke) O140).1, (D2.oneX (l := [(AV.ptr o_ 1 0 0, .pt 3 [Sl.enc c124.2.code, iv c124.2.pos, AV.sc (.int .u64 c124.2.seed)]), (AV.ptr o1 1 0 0, .pt 1 [nilS]), (AV.ptr o15 1 0 0, .pt 1 [x11])]) (x := x135) (ps := (some [((⟨c130.points⟩ : Stroke), x132)])) (A := Stroke) O140).2]) (fun h141 O142 => ?_)
          replace O142 : Hold B h141 ([(AV.ptr o_ 1 0 0, .pt 3 [Sl.enc c124.2.code, iv c124.2.pos, AV.sc (.int .u64 c124.2.seed)]), (AV.ptr o1 1 0 0, .pt 1 [nilS]), (AV.ptr o15 1 0 0, .pt 1 [x135])] ++ D2 (A := Stroke) x135 (some [((⟨c130.points⟩ : Stroke), x132)])) := O142
          refine sim_let (v := AV.agg [x135]) (O142.ld 2 rfl true 1 0) ?_
          refine sim_store O142 1 (cs' := [x135]) rfl (by first | rfl | simp [(D2.oneX (l := [(AV.ptr o_ 1 0 0, .pt 3 [Sl.enc c124.2.code, iv c124.2.pos, AV.sc (.int .u64 c124.2.seed)]), (AV.ptr o1 1 0 0, .pt 1 [nilS]), (AV.ptr o15 1 0 0, .pt 1 [x135])]) (x := x135) (ps := (some [((⟨c130.points⟩ : Stroke), x132)])) (A := Stroke) O142).1, (D2.oneX (l := [(AV.ptr o_ 1 0 0, .pt 3 [Sl.enc c124.2.code, iv c124.2.pos, AV.sc (.int .u64 c124.2.seed)]), (AV.ptr o1 1 0 0, .pt 1 [nilS]), (AV.ptr o15 1 0 0, .pt 1 [x135])]) (x := x135) (ps := (some [((⟨c130.points⟩ : Stroke), x132)])) (A := Stroke) O142).2]) (by simp) (by first | rfl | simp [(D2.oneX (l := [(AV.ptr o_ 1 0 0, .pt 3 [Sl.enc c124.2.code, iv c124.2.pos, AV.sc (.int .u64 c124.2.seed)]), (AV.ptr o1 1 0 0, .pt 1 [nilS]), (AV.ptr o15 1 0 0, .pt 1 [x135])]) (x := x135) (ps := (some [((⟨c130.points⟩ : Stroke), x132)])) (A := Stroke) O142).1, (D2.oneX (l := [(AV.ptr o_ 1 0 0, .pt 3 [Sl.enc c124.2.code, iv c124.2.pos, AV.sc (.int .u64 c124.2.seed)]), (AV.ptr o1 1 0 0, .pt 1 [nilS]), (AV.ptr o15 1 0 0, .pt 1 [x135])]) (x := x135) (ps := (some [((⟨c130.points⟩ : Stroke), x132)])) (A := Stroke) O142).2]) (by first | rfl | simp [splice, (D2.oneX (l := [(AV.ptr o_ 1 0 0, .pt 3 [Sl.enc c124.2.code, iv c124.2.pos, AV.sc (.int .u64 c124.2.seed)]), (AV.ptr o1 1 0 0, .pt 1 [nilS]), (AV.ptr o15 1 0 0, .pt 1 [x135])]) (x := x135) (ps := (some [((⟨c130.points⟩ : Stroke), x132)])) (A := Stroke) O142).1, (D2.oneX (l := [(AV.ptr o_ 1 0 0, .pt 3 [Sl.enc c124.2.code, iv c124.2.pos, AV.sc (.int .u64 c124.2.seed)]), (AV.ptr o1 1 0 0, .pt 1 [nilS]), (AV.ptr o15 1 0 0, .pt 1 [x135])]) (x := x135) (ps := (some [((⟨c130.points⟩ : Stroke), x132)])) (A := Stroke) O142).2]) (fun h143 O144 => ?_)
          replace O144 : Hold B h143 ([(AV.ptr o_ 1 0 0, .pt 3 [Sl.enc c124.2.code, iv c124.2.pos, AV.sc (.int .u64 c124.2.seed)]), (AV.ptr o1 1 0 0, .pt 1 [x135]), (AV.ptr o15 1 0 0, .pt 1 [x135])] ++ D2 (A := Stroke) x135 (some [((⟨c130.points⟩ : Stroke), x132)])) := O144
          refine sim_retL (resL_c (v := AV.agg [x135]) (O144.ld 1 rfl true 1 0) (resL_nil _)) ?_
          dsimp only [pack]
          have O145 : Hold B h143 ([(AV.ptr o_ 1 0 0, .pt 3 [Sl.enc c124.2.code, iv c124.2.pos, AV.sc (.int .u64 c124.2.seed)])] ++ D2 (A := Stroke) x135 (some [((⟨c130.points⟩ : Stroke), x132)])) := O144.selD [0] (by decide) rfl
          exact sim_ret ⟨_, _, rfl, (rfl : pj ((some [((⟨c130.points⟩ : Stroke), x132)]) : PS Stroke) = (some ([(⟨c130.points⟩ : Stroke)] : List Stroke))), O145⟩
        · refine sim_let (v := bv (decide (c21.1 = 4))) (aCmp_eq _ _) ?_
          refine sim_cond (fun c146 => ?_) (fun c146 => ?_)
          · refine sim_let (v := AV.agg [nilS]) (by first | rfl | simp [aBuild, aFill, splice]) ?_
            refine sim_store O26 2 (cs' := [nilS]) rfl (by first | rfl | simp) (by simp) (by first | rfl | simp) (by first | rfl | simp [splice]) (fun h147 O148 => ?_)
            replace O148 : Hold B h147 ([(AV.ptr o_ 1 0 0, .pt 3 [Sl.enc c21.2.code, iv c21.2.pos, AV.sc (.int .u64 c21.2.seed)]), (AV.ptr o1 1 0 0, .pt 1 [nilS]), (AV.ptr o15 1 0 0, .pt 1 [nilS])] ++ D2 (A := Stroke) x11 ps13) := O148
            refine sim_gen he_spec_l00Src_pick (tg_spec_l00Src_pick c21.2 2 (O148.start (i := 0) rfl rfl)) (fun c149 v150 h151 hq152 => ?_)
            obtain ⟨e_v150, O153⟩ := hq152
            dsimp only at e_v150
            subst v150
            have O154 : Hold B h151 ([(AV.ptr o_ 1 0 0, .pt 3 [Sl.enc c149.2.code, iv c149.2.pos, AV.sc (.int .u64 c149.2.seed)]), (AV.ptr o1 1 0 0, .pt 1 [nilS]), (AV.ptr o15 1 0 0, .pt 1 [nilS])] ++ D2 (A := Stroke) x11 ps13) := Hold.rot (l := [(AV.ptr o_ 1 0 0, .pt 3 [Sl.enc c149.2.code, iv c149.2.pos, AV.sc (.int .u64 c149.2.seed)]), (AV.ptr o1 1 0 0, .pt 1 [nilS]), (AV.ptr o15 1 0 0, .pt 1 [nilS])]) (d := D2 (A := Stroke) x11 ps13) (n := []) (O148.merge (i := 0) rfl rfl O153)
            refine sim_let (v := iv (wr (16 + c149.1))) (aBin_add _ _) ?_
            have O157 : Hold B h151 [(AV.ptr o_ 1 0 0, .pt 3 [Sl.enc c149.2.code, iv c149.2.pos, AV.sc (.int .u64 c149.2.seed)]), (AV.ptr o1 1 0 0, .pt 1 [nilS]), (AV.ptr o15 1 0 0, .pt 1 [nilS])] := O154.left
            have O155 : Hold B h151 ([(AV.ptr o_ 1 0 0, .pt 3 [Sl.enc c149.2.code, iv c149.2.pos, AV.sc (.int .u64 c149.2.seed)]), (AV.ptr o1 1 0 0, .pt 1 [nilS]), (AV.ptr o15 1 0 0, .pt 1 [nilS])] ++ D2 (A := Stroke) nilS (none : PS Stroke)) := O157.addnil
            refine sim_bind ((tl0_spec_l02Bent env he_spec_l00Src_among he_spec_l00Src_pick he_spec_l02Draw he_spec_l02Long o_ o1 c5 x11 o15 c21 c149) ⟨_, _, rfl, (rfl : pj (none : PS Stroke) = (none : Sl Stroke)), O155⟩) (fun qq197 r hq => ?_)
            revert hq
            revert qq197
            intro q168 hq
            obtain ⟨q171, z167, ps169, h165, rfl, hp170, O166⟩ := hq
            rw [e_lk0x1_spec_l02Bent]
            refine sim_let (v := AV.agg [z167]) (O166.ld 2 rfl true 1 0) ?_
            refine sim_store O166 1 (cs' := [z167]) rfl (by first | rfl | simp [(D2.oneX (l := [(AV.ptr o_ 1 0 0, .pt 3 [Sl.enc c149.2.code, iv c149.2.pos, AV.sc (.int .u64 c149.2.seed)]), (AV.ptr o1 1 0 0, .pt 1 [nilS]), (AV.ptr o15 1 0 0, .pt 1 [z167])]) (x := z167) (ps := ps169) (A := Stroke) O166).1, (D2.oneX (l := [(AV.ptr o_ 1 0 0, .pt 3 [Sl.enc c149.2.code, iv c149.2.pos, AV.sc (.int .u64 c149.2.seed)]), (AV.ptr o1 1 0 0, .pt 1 [nilS]), (AV.ptr o15 1 0 0, .pt 1 [z167])]) (x := z167) (ps := ps169) (A := Stroke) O166).2]) (by simp) (by first | rfl | simp [(D2.oneX (l := [(AV.ptr o_ 1 0 0, .pt 3 [Sl.enc c149.2.code, iv c149.2.pos, AV.sc (.int .u64 c149.2.seed)]), (AV.ptr o1 1 0 0, .pt 1 [nilS]), (AV.ptr o15 1 0 0, .pt 1 [z167])]) (x := z167) (ps := ps169) (A := Stroke) O166).1, (D2.oneX (l := [(AV.ptr o_ 1 0 0, .pt 3 [Sl.enc c149.2.code, iv c149.2.pos, AV.sc (.int .u64 c149.2.seed)]), (AV.ptr o1 1 0 0, .pt 1 [nilS]), (AV.ptr o15 1 0 0, .pt 1 [z167])]) (x := z167) (ps := ps169) (A := Stroke) O166).2]) (by first | rfl | simp [splice, (D2.oneX (l := [(AV.ptr o_ 1 0 0, .pt 3 [Sl.enc c149.2.code, iv c149.2.pos, AV.sc (.int .u64 c149.2.seed)]), (AV.ptr o1 1 0 0, .pt 1 [nilS]), (AV.ptr o15 1 0 0, .pt 1 [z167])]) (x := z167) (ps := ps169) (A := Stroke) O166).1, (D2.oneX (l := [(AV.ptr o_ 1 0 0, .pt 3 [Sl.enc c149.2.code, iv c149.2.pos, AV.sc (.int .u64 c149.2.seed)]), (AV.ptr o1 1 0 0, .pt 1 [nilS]), (AV.ptr o15 1 0 0, .pt 1 [z167])]) (x := z167) (ps := ps169) (A := Stroke) O166).2]) (fun h172 O173 => ?_)
            replace O173 : Hold B h172 ([(AV.ptr o_ 1 0 0, .pt 3 [Sl.enc c149.2.code, iv c149.2.pos, AV.sc (.int .u64 c149.2.seed)]), (AV.ptr o1 1 0 0, .pt 1 [z167]), (AV.ptr o15 1 0 0, .pt 1 [z167])] ++ D2 (A := Stroke) z167 ps169) := O173
            refine sim_retL (resL_c (v := AV.agg [z167]) (O173.ld 1 rfl true 1 0) (resL_nil _)) ?_
            dsimp only [pack]
            have O174 : Hold B h172 ([(AV.ptr o_ 1 0 0, .pt 3 [Sl.enc c149.2.code, iv c149.2.pos, AV.sc (.int .u64 c149.2.seed)])] ++ D2 (A := Stroke) z167 ps169) := O173.selD [0] (by decide) rfl
            exact sim_ret ⟨_, _, rfl, hp170, O174⟩
          · refine sim_let (v := AV.agg [x11]) (O26.ld 2 rfl true 1 0) ?_
            refine sim_store O26 1 (cs' := [x11]) rfl (by first | rfl | simp [(D2.oneX (l := [(AV.ptr o_ 1 0 0, .pt 3 [Sl.enc c21.2.code, iv c21.2.pos, AV.sc (.int .u64 c21.2.seed)]), (AV.ptr o1 1 0 0, .pt 1 [nilS]), (AV.ptr o15 1 0 0, .pt 1 [x11])]) (x := x11) (ps := ps13) (A := Stroke) O26).1, (D2.oneX (l := [(AV.ptr o_ 1 0 0, .pt 3 [Sl.enc c21.2.code, iv c21.2.pos, AV.sc (.int .u64 c21.2.seed)]), (AV.ptr o1 1 0 0, .pt 1 [nilS]), (AV.ptr o15 1 0 0, .pt 1 [x11])]) (x := x11) (ps := ps13) (A := Stroke) O26).2]) (by simp) (by first | rfl | simp [(D2.oneX (l := [(AV.ptr o_ 1 0 0, .pt 3 [Sl.enc c21.2.code, iv c21.2.pos, AV.sc (.int .u64 c21.2.seed)]), (AV.ptr o1 1 0 0, .pt 1 [nilS]), (AV.ptr o15 1 0 0, .pt 1 [x11])]) (x := x11) (ps := ps13) (A := Stroke) O26).1, (D2.oneX (l := [(AV.ptr o_ 1 0 0, .pt 3 [Sl.enc c21.2.code, iv c21.2.pos, AV.sc (.int .u64 c21.2.seed)]), (AV.ptr o1 1 0 0, .pt 1 [nilS]), (AV.ptr o15 1 0 0, .pt 1 [x11])]) (x := x11) (ps := ps13) (A := Stroke) O26).2]) (by first | rfl | simp [splice, (D2.oneX (l := [(AV.ptr o_ 1 0 0, .pt 3 [Sl.enc c21.2.code, iv c21.2.pos, AV.sc (.int .u64 c21.2.seed)]), (AV.ptr o1 1 0 0, .pt 1 [nilS]), (AV.ptr o15 1 0 0, .pt 1 [x11])]) (x := x11) (ps := ps13) (A := Stroke) O26).1, (D2.oneX (l := [(AV.ptr o_ 1 0 0, .pt 3 [Sl.enc c21.2.code, iv c21.2.pos, AV.sc (.int .u64 c21.2.seed)]), (AV.ptr o1 1 0 0, .pt 1 [nilS]), (AV.ptr o15 1 0 0, .pt 1 [x11])]) (x := x11) (ps := ps13) (A := Stroke) O26).2]) (fun h198 O199 => ?_)
            replace O199 : Hold B h198 ([(AV.ptr o_ 1 0 0, .pt 3 [Sl.enc c21.2.code, iv c21.2.pos, AV.sc (.int .u64 c21.2.seed)]), (AV.ptr o1 1 0 0, .pt 1 [x11]), (AV.ptr o15 1 0 0, .pt 1 [x11])] ++ D2 (A := Stroke) x11 ps13) := O199
            refine sim_retL (resL_c (v := AV.agg [x11]) (O199.ld 1 rfl true 1 0) (resL_nil _)) ?_
            dsimp only [pack]
            have O200 : Hold B h198 ([(AV.ptr o_ 1 0 0, .pt 3 [Sl.enc c21.2.code, iv c21.2.pos, AV.sc (.int .u64 c21.2.seed)])] ++ D2 (A := Stroke) x11 ps13) := O199.selD [0] (by decide) rfl
            exact sim_ret ⟨_, _, rfl, hp14, O200⟩
noncomputable def ev_spec_l02Bent : Nat → Contract := envL [(n_spec_l00Src_among, .gen (denFn Try.prog ev_spec_l00Src_among n_spec_l00Src_among)), (n_spec_l00Src_pick, .gen (denFn Try.prog ev_spec_l00Src_pick n_spec_l00Src_pick)), (n_spec_l02Draw, .gen (denFn Try.prog ev_spec_l02Draw n_spec_l02Draw)), (n_spec_l02Long, .pure (C1 (fun c : Stroke => AV.agg [rS c.points]) t_spec_l02Long))]
theorem eo_spec_l02Bent : EnvOK Try.prog ev_spec_l02Bent := (EconsG (gen_of_den eo_spec_l00Src_among mixed hb_spec_l00Src_among) (EconsG (gen_of_den eo_spec_l00Src_pick mixed hb_spec_l00Src_pick) (EconsG (gen_of_den eo_spec_l02Draw mixed hb_spec_l02Draw) (Econs tt_spec_l02Long E0))))
theorem tg_spec_l02Bent {B : Base} {h : Heap} {o_ : Nat} (s_ : l00Src) (O : Hold B h [(AV.ptr o_ 1 0 0, .pt 3 [Sl.enc s_.code, iv s_.pos, AV.sc (.int .u64 s_.seed)])]) : Sim (denFn Try.prog ev_spec_l02Bent n_spec_l02Bent [AV.ptr o_ 1 0 0] h) (t_spec_l02Bent s_) (fun c p => ∃ x1, ∃ ps1 : PS Stroke, p.1 = AV.agg [x1] ∧ pj ps1 = c.1.strokes ∧ Hold B p.2 ([(AV.ptr o_ 1 0 0, .pt 3 [Sl.enc c.2.code, iv c.2.pos, AV.sc (.int .u64 c.2.seed)])] ++ D2 (A := Stroke) x1 ps1)) := ts_spec_l02Bent ev_spec_l02Bent (by simp [ev_spec_l02Bent, envL]) (by simp [ev_spec_l02Bent, envL]) (by simp [ev_spec_l02Bent, envL]) (by simp [ev_spec_l02Bent, envL]) s_  O

def s0_spec_l05Stroke : ((Sl UInt8) × Int × Int × (Sl Point) × Int) → Option (Sum ((Sl UInt8) × Int × Int × (Sl Point) × Int) ((Sl UInt8) × Int × Int × (Sl Point))) := fun (w89, w90, w91, w93, w96) =>
  bif decide (0 < w96) then
    obind (t_spec_l00Src_pick (⟨w89, w90, w91⟩ : l00Src) 9) fun c111 =>
    obind (t_spec_l00Src_pick c111.2 9) fun c117 =>
    obind (appO w93 ([(⟨c111.1, c117.1, (((w93.getD []).length : Nat) : Int)⟩ : Point)] : List Point)) fun _ =>
    some (.inl (c117.2.code, c117.2.pos, c117.2.seed, (appS w93 ([(⟨c111.1, c117.1, (((w93.getD []).length : Nat) : Int)⟩ : Point)] : List Point)), wr (w96 - 1)))
  else
    some (.inr (w89, w90, w91, w93))
def t_spec_l05Stroke (s_ : l00Src) : Option (Stroke × l00Src) :=
  obind (t_spec_l00Src_one s_ 12) fun c11 =>
  bif c11.1 then
    obind (t_spec_l02Bent c11.2) fun c18 =>
    bif decide (0 < (((c18.1.strokes.getD []).length : Nat) : Int)) then
      obind (getI (c18.1.strokes.getD []) 0) fun a35 =>
      some (a35, (⟨c18.2.code, c18.2.pos, c18.2.seed⟩ : l00Src))
    else
      some ((⟨(none : Sl Point)⟩ : Stroke), (⟨c18.2.code, c18.2.pos, c18.2.seed⟩ : l00Src))
  else
    obind (t_spec_l00Src_one c11.2 2) fun c51 =>
    bif c51.1 then
      obind (t_spec_l00Src_pick c51.2 60) fun c58 =>
      obind (t_spec_l00Src_pick c58.2 60) fun c64 =>
      obind (t_spec_l02DrawStroke c64.2 5 (wr (300 + c58.1)) (wr (300 + c64.1))) fun c70 =>
      some (c70.1, (⟨c70.2.code, c70.2.pos, c70.2.seed⟩ : l00Src))
    else
      obind (t_spec_l00Src_pick c51.2 7) fun c81 =>
      obind (loopT s0_spec_l05Stroke (c81.2.code, c81.2.pos, c81.2.seed, (none : Sl Point), wr (1 + c81.1))) fun (q99, q100, q101, q103) =>
      some ((⟨q103⟩ : Stroke), (⟨q99, q100, q101⟩ : l00Src))

theorem tl0_spec_l05Stroke (env : Nat → Contract) {B : Base} (he_spec_l00Src_one : env n_spec_l00Src_one = .gen (denFn Try.prog ev_spec_l00Src_one n_spec_l00Src_one)) (he_spec_l00Src_pick : env n_spec_l00Src_pick = .gen (denFn Try.prog ev_spec_l00Src_pick n_spec_l00Src_pick)) (he_spec_l02Bent : env n_spec_l02Bent = .gen (denFn Try.prog ev_spec_l02Bent n_spec_l02Bent)) (he_spec_l02DrawStroke : env n_spec_l02DrawStroke = .gen (denFn Try.prog ev_spec_l02DrawStroke n_spec_l02DrawStroke)) (o_ : Nat) (o1 : Nat) (o5 : Nat) (c11 : Bool × l00Src) (c51 : Bool × l00Src) (c81 : Int × l00Src)  {st : (Sl UInt8) × Int × Int × (Sl Point) × Int} {tm : TM} {h : Heap} (R : (fun (st : (Sl UInt8) × Int × Int × (Sl Point) × Int) tm h94 => match st with | (w89, w90, w91, w93, w96) => ∃ z92, tm = [AV.ptr o_ 1 0 0, und, AV.ptr o1 1 0 0, AV.ptr o5 1 0 0, und, iv w96, AV.top, AV.top, AV.agg [nilS], AV.ptr o_ 1 0 0, bv c11.1, und, und, und, und, und, und, und, und, und, und, und, AV.ptr o_ 1 0 0, bv c51.1, und, und, und, und, und, und, und, und, AV.ptr o_ 1 0 0, iv c81.1, iv (wr (1 + c81.1)), AV.top, AV.top, AV.top, AV.top, AV.top, AV.top, AV.top, AV.top, AV.top, AV.top, AV.top, AV.top, AV.top, AV.top, AV.top, AV.top, AV.top, AV.top, AV.top, und] ∧ Hold B h94 [(AV.ptr o_ 1 0 0, .pt 3 [Sl.enc w89, iv w90, AV.sc (.int .u64 w91)]), (AV.ptr o1 1 0 0, .pt 1 [nilS]), (AV.ptr o5 1 0 0, .pt 1 [z92]), (z92, obS (w93 : Sl Point))]) st tm h) : Sim (loopP hm0_spec_l05Stroke xm0_spec_l05Stroke (lb0_spec_l05Stroke env) tm h) (loopT s0_spec_l05Stroke st) (fun (q : (Sl UInt8) × Int × Int × (Sl Point)) (r : Res) => match q with | (q99, q100, q101, q103) => ∃ (q104 : Int) (z102 : AV) (z105 : AV) (z106 : AV) (h97 : Heap), r = (.exit 0, [AV.ptr o_ 1 0 0, und, AV.ptr o1 1 0 0, AV.ptr o5 1 0 0, und, iv q104, z105, z106, AV.agg [nilS], AV.ptr o_ 1 0 0, bv c11.1, und, und, und, und, und, und, und, und, und, und, und, AV.ptr o_ 1 0 0, bv c51.1, und, und, und, und, und, und, und, und, AV.ptr o_ 1 0 0, iv c81.1, iv (wr (1 + c81.1)), AV.top, AV.top, AV.top, AV.top, AV.top, AV.top, AV.top, AV.top, AV.top, AV.top, AV.top, AV.top, AV.top, AV.top, AV.top, AV.top, AV.top, AV.top, AV.top, und], h97) ∧ Hold B h97 [(AV.ptr o_ 1 0 0, .pt 3 [Sl.enc q99, iv q100, AV.sc (.int .u64 q101)]), (AV.ptr o1 1 0 0, .pt 1 [nilS]), (AV.ptr o5 1 0 0, .pt 1 [z102]), (z102, obS (q103 : Sl Point))]) := by
  refine loop_sim (Rel := fun (st : (Sl UInt8) × Int × Int × (Sl Point) × Int) tm h94 => match st with | (w89, w90, w91, w93, w96) => ∃ z92, tm = [AV.ptr o_ 1 0 0, und, AV.ptr o1 1 0 0, AV.ptr o5 1 0 0, und, iv w96, AV.top, AV.top, AV.agg [nilS], AV.ptr o_ 1 0 0, bv c11.1, und, und, und, und, und, und, und, und, und, und, und, AV.ptr o_ 1 0 0, bv c51.1, und, und, und, und, und, und, und, und, AV.ptr o_ 1 0 0, iv c81.1, iv (wr (1 + c81.1)), AV.top, AV.top, AV.top, AV.top, AV.top, AV.top, AV.top, AV.top, AV.top, AV.top, AV.top, AV.top, AV.top, AV.top, AV.top, AV.top, AV.top, AV.top, AV.top, und] ∧ Hold B h94 [(AV.ptr o_ 1 0 0, .pt 3 [Sl.enc w89, iv w90, AV.sc (.int .u64 w91)]), (AV.ptr o1 1 0 0, .pt 1 [nilS]), (AV.ptr o5 1 0 0, .pt 1 [z92]), (z92, obS (w93 : Sl Point))]) (fun st tm h94 R => ?_) R
  obtain ⟨w89, w90, w91, w93, w96⟩ := st
  obtain ⟨z92, rfl, O95⟩ := R
  rw [e_lb0_spec_l05Stroke]
  unfold s0_spec_l05Stroke
  dsimp only
  refine sim_let (v := bv (decide (0 < w96))) (aBin_gtr _ _) ?_
  refine sim_cond (fun c110 => ?_) (fun c110 => ?_)
  · refine sim_gen he_spec_l00Src_pick (tg_spec_l00Src_pick (⟨w89, w90, w91⟩ : l00Src) 9 (O95.start (i := 0) rfl rfl)) (fun c111 v112 h113 hq114 => ?_)
    obtain ⟨e_v112, O115⟩ := hq114
    dsimp only at e_v112
    subst v112
    have O116 : Hold B h113 [(AV.ptr o_ 1 0 0, .pt 3 [Sl.enc c111.2.code, iv c111.2.pos, AV.sc (.int .u64 c111.2.seed)]), (AV.ptr o1 1 0 0, .pt 1 [nilS]), (AV.ptr o5 1 0 0, .pt 1 [z92]), (z92, obS (w93 : Sl Point))] := O95.merge (i := 0) rfl rfl O115
    refine sim_gen he_spec_l00Src_pick (tg_spec_l00Src_pick c111.2 9 (O116.start (i := 0) rfl rfl)) (fun c117 v118 h119 hq120 => ?_)
    obtain ⟨e_v118, O121⟩ := hq120
    dsimp only at e_v118
    subst v118
    have O122 : Hold B h119 [(AV.ptr o_ 1 0 0, .pt 3 [Sl.enc c117.2.code, iv c117.2.pos, AV.sc (.int .u64 c117.2.seed)]), (AV.ptr o1 1 0 0, .pt 1 [nilS]), (AV.ptr o5 1 0 0, .pt 1 [z92]), (z92, obS (w93 : Sl Point))] := O116.merge (i := 0) rfl rfl O121
    refine sim_let (v := AV.ptr o5 1 0 0) rfl ?_
    refine sim_let (v := z92) (O122.ld 2 rfl false 1 0) ?_
    refine sim_let (v := AV.ptr o5 1 0 0) rfl ?_
    refine sim_let (v := z92) (O122.ld 2 rfl false 1 0) ?_
    refine sim_let (v := iv (((w93.getD []).length : Nat) : Int)) (O122.tab (A := Point) (s := w93) 3 rfl).len ?_
    refine sim_let (v := AV.agg [iv c111.1, iv c117.1, iv (((w93.getD []).length : Nat) : Int)]) (by first | rfl | simp [aBuild, aFill, splice]) ?_
    refine sim_build (A := Point) O122 ([(⟨c111.1, c117.1, (((w93.getD []).length : Nat) : Int)⟩ : Point)] : List Point) rfl (by first | rfl | simp [aFillRows, zrows]) rfl (fun x123 h124 O125 => ?_)
    replace O125 : Hold B h124 [(AV.ptr o_ 1 0 0, .pt 3 [Sl.enc c117.2.code, iv c117.2.pos, AV.sc (.int .u64 c117.2.seed)]), (AV.ptr o1 1 0 0, .pt 1 [nilS]), (AV.ptr o5 1 0 0, .pt 1 [z92]), (z92, obS (w93 : Sl Point)), (x123, obS ((some ([(⟨c111.1, c117.1, (((w93.getD []).length : Nat) : Int)⟩ : Point)] : List Point)) : Sl Point))] := O125
    refine sim_append (A := Point) (s := w93) O125 3 ([(⟨c111.1, c117.1, (((w93.getD []).length : Nat) : Int)⟩ : Point)] : List Point) rfl (O125.src (A := Point) (s := (some ([(⟨c111.1, c117.1, (((w93.getD []).length : Nat) : Int)⟩ : Point)] : List Point))) 4 rfl) (by decide) (fun x128 h129 O130 => ?_)
    replace O130 : Hold B h129 [(AV.ptr o_ 1 0 0, .pt 3 [Sl.enc c117.2.code, iv c117.2.pos, AV.sc (.int .u64 c117.2.seed)]), (AV.ptr o1 1 0 0, .pt 1 [nilS]), (AV.ptr o5 1 0 0, .pt 1 [z92]), (x128, obS ((appS w93 ([(⟨c111.1, c117.1, (((w93.getD []).length : Nat) : Int)⟩ : Point)] : List Point)) : Sl Point)), (x123, obS ((some ([(⟨c111.1, c117.1, (((w93.getD []).length : Nat) : Int)⟩ : Point)] : List Point)) : Sl Point))] := O130
    have O132 : Hold B h129 [(AV.ptr o_ 1 0 0, .pt 3 [Sl.enc c117.2.code, iv c117.2.pos, AV.sc (.int .u64 c117.2.seed)]), (AV.ptr o1 1 0 0, .pt 1 [nilS]), (AV.ptr o5 1 0 0, .pt 1 [z92]), (x128, obS ((appS w93 ([(⟨c111.1, c117.1, (((w93.getD []).length : Nat) : Int)⟩ : Point)] : List Point)) : Sl Point))] := O130.sel [0, 1, 2, 3] (by decide) rfl
    refine sim_let (v := AV.ptr o5 1 0 0) rfl ?_
    refine sim_store O132 2 (cs' := [x128]) rfl (by first | rfl | simp [(O132.one (A := Point) (s := (appS w93 ([(⟨c111.1, c117.1, (((w93.getD []).length : Nat) : Int)⟩ : Point)] : List Point))) 3 rfl).1, (O132.one (A := Point) (s := (appS w93 ([(⟨c111.1, c117.1, (((w93.getD []).length : Nat) : Int)⟩ : Point)] : List Point))) 3 rfl).2]) (by simp) (by first | rfl | simp [(O132.one (A := Point) (s := (appS w93 ([(⟨c111.1, c117.1, (((w93.getD []).length : Nat) : Int)⟩ : Point)] : List Point))) 3 rfl).1, (O132.one (A := Point) (s := (appS w93 ([(⟨c111.1, c117.1, (((w93.getD []).length : Nat) : Int)⟩ : Point)] : List Point))) 3 rfl).2]) (by first | rfl | simp [splice, (O132.one (A := Point) (s := (appS w93 ([(⟨c111.1, c117.1, (((w93.getD []).length : Nat) : Int)⟩ : Point)] : List Point))) 3 rfl).1, (O132.one (A := Point) (s := (appS w93 ([(⟨c111.1, c117.1, (((w93.getD []).length : Nat) : Int)⟩ : Point)] : List Point))) 3 rfl).2]) (fun h133 O134 => ?_)
    replace O134 : Hold B h133 [(AV.ptr o_ 1 0 0, .pt 3 [Sl.enc c117.2.code, iv c117.2.pos, AV.sc (.int .u64 c117.2.seed)]), (AV.ptr o1 1 0 0, .pt 1 [nilS]), (AV.ptr o5 1 0 0, .pt 1 [x128]), (x128, obS ((appS w93 ([(⟨c111.1, c117.1, (((w93.getD []).length : Nat) : Int)⟩ : Point)] : List Point)) : Sl Point))] := O134
    refine sim_let (v := iv (wr (w96 - 1))) (aBin_sub _ _) ?_
    exact sim_ret ⟨rfl, _, rfl, O134⟩
  · exact sim_ret ⟨nofun, _, _, _, _, _, rfl, O95⟩
theorem ts_spec_l05Stroke (env : Nat → Contract) (he_spec_l00Src_one : env n_spec_l00Src_one = .gen (denFn Try.prog ev_spec_l00Src_one n_spec_l00Src_one)) (he_spec_l00Src_pick : env n_spec_l00Src_pick = .gen (denFn Try.prog ev_spec_l00Src_pick n_spec_l00Src_pick)) (he_spec_l02Bent : env n_spec_l02Bent = .gen (denFn Try.prog ev_spec_l02Bent n_spec_l02Bent)) (he_spec_l02DrawStroke : env n_spec_l02DrawStroke = .gen (denFn Try.prog ev_spec_l02DrawStroke n_spec_l02DrawStroke)) {B : Base} {h : Heap} {o_ : Nat} (s_ : l00Src) (O : Hold B h [(AV.ptr o_ 1 0 0, .pt 3 [Sl.enc s_.code, iv s_.pos, AV.sc (.int .u64 s_.seed)])]) : Sim (denFn Try.prog env n_spec_l05Stroke [AV.ptr o_ 1 0 0] h) (t_spec_l05Stroke s_) (fun c p => ∃ x1, p.1 = AV.agg [x1] ∧ Hold B p.2 ([(AV.ptr o_ 1 0 0, .pt 3 [Sl.enc c.2.code, iv c.2.pos, AV.sc (.int .u64 c.2.seed)]), (x1, obS (c.1.points : Sl Point))])) := by
  rw [e_spec_l05Stroke]
  unfold t_spec_l05Stroke
  refine sim_box O (cs := [nilS]) (by first | rfl | simp) (fun o1 h2 O3 => ?_)
  replace O3 : Hold B h2 [(AV.ptr o_ 1 0 0, .pt 3 [Sl.enc s_.code, iv s_.pos, AV.sc (.int .u64 s_.seed)]), (AV.ptr o1 1 0 0, .pt 1 [nilS])] := O3
  refine sim_let (v := AV.agg [nilS]) (by first | rfl | simp [aBuild, aFill, splice]) ?_
  refine sim_box O3 (cs := [nilS]) (by first | rfl | simp) (fun o5 h6 O7 => ?_)
  replace O7 : Hold B h6 [(AV.ptr o_ 1 0 0, .pt 3 [Sl.enc s_.code, iv s_.pos, AV.sc (.int .u64 s_.seed)]), (AV.ptr o1 1 0 0, .pt 1 [nilS]), (AV.ptr o5 1 0 0, .pt 1 [nilS])] := O7
  refine sim_store O7 2 (cs' := [nilS]) rfl (by first | rfl | simp) (by simp) (by first | rfl | simp) (by first | rfl | simp [splice]) (fun h9 O10 => ?_)
  replace O10 : Hold B h9 [(AV.ptr o_ 1 0 0, .pt 3 [Sl.enc s_.code, iv s_.pos, AV.sc (.int .u64 s_.seed)]), (AV.ptr o1 1 0 0, .pt 1 [nilS]), (AV.ptr o5 1 0 0, .pt 1 [nilS])] := O10
  refine sim_gen he_spec_l00Src_one (tg_spec_l00Src_one s_ 12 (O10.start (i := 0) rfl rfl)) (fun c11 v12 h13 hq14 => ?_)
  obtain ⟨e_v12, O15⟩ := hq14
  dsimp only at e_v12
  subst v12
  have O16 : Hold B h13 [(AV.ptr o_ 1 0 0, .pt 3 [Sl.enc c11.2.code, iv c11.2.pos, AV.sc (.int .u64 c11.2.seed)]), (AV.ptr o1 1 0 0, .pt 1 [nilS]), (AV.ptr o5 1 0 0, .pt 1 [nilS])] := O10.merge (i := 0) rfl rfl O15
  refine sim_cond (fun c17 => ?_) (fun c17 => ?_)
  · refine sim_gen he_spec_l02Bent (tg_spec_l02Bent c11.2 (O16.start (i := 0) rfl rfl)) (fun c18 v19 h20 hq21 => ?_)
    obtain ⟨x24, ps26, e_v19, hp27, O22⟩ := hq21
    dsimp only at e_v19
    subst v19
    have O23 : Hold B h20 ([(AV.ptr o_ 1 0 0, .pt 3 [Sl.enc c18.2.code, iv c18.2.pos, AV.sc (.int .u64 c18.2.seed)]), (AV.ptr o1 1 0 0, .pt 1 [nilS]), (AV.ptr o5 1 0 0, .pt 1 [nilS])] ++ D2 (A := Stroke) x24 ps26) := O16.merge (i := 0) rfl rfl O22
    refine sim_box O23 (cs := [nilS]) (by first | rfl | simp) (fun o28 h29 O30 => ?_)
    replace O30 : Hold B h29 ([(AV.ptr o_ 1 0 0, .pt 3 [Sl.enc c18.2.code, iv c18.2.pos, AV.sc (.int .u64 c18.2.seed)]), (AV.ptr o1 1 0 0, .pt 1 [nilS]), (AV.ptr o5 1 0 0, .pt 1 [nilS]), (AV.ptr o28 1 0 0, .pt 1 [nilS])] ++ D2 (A := Stroke) x24 ps26) := Hold.rot O30
    refine sim_store O30 3 (cs' := [x24]) rfl (by first | rfl | simp [(D2.oneX (l := [(AV.ptr o_ 1 0 0, .pt 3 [Sl.enc c18.2.code, iv c18.2.pos, AV.sc (.int .u64 c18.2.seed)]), (AV.ptr o1 1 0 0, .pt 1 [nilS]), (AV.ptr o5 1 0 0, .pt 1 [nilS]), (AV.ptr o28 1 0 0, .pt 1 [nilS])]) (x := x24) (ps := ps26) (A := Stroke) O30).1, (D2.oneX (l := [(AV.ptr o_ 1 0 0, .pt 3 [Sl.enc c18.2.code, iv c18.2.pos, AV.sc (.int .u64 c18.2.seed)]), (AV.ptr o1 1 0 0, .pt 1 [nilS]), (AV.ptr o5 1 0 0, .pt 1 [nilS]), (AV.ptr o28 1 0 0, .pt 1 [nilS])]) (x := x24) (ps := ps26) (A := Stroke) O30).2]) (by simp) (by first | rfl | simp [(D2.oneX (l := [(AV.ptr o_ 1 0 0, .pt 3 [Sl.enc c18.2.code, iv c18.2.pos, AV.sc (.int .u64 c18.2.seed)]), (AV.ptr o1 1 0 0, .pt 1 [nilS]), (AV.ptr o5 1 0 0, .pt 1 [nilS]), (AV.ptr o28 1 0 0, .pt 1 [nilS])]) (x := x24) (ps := ps26) (A := Stroke) O30).1, (D2.oneX (l := [(AV.ptr o_ 1 0 0, .pt 3 [Sl.enc c18.2.code, iv c18.2.pos, AV.sc (.int .u64 c18.2.seed)]), (AV.ptr o1 1 0 0, .pt 1 [nilS]), (AV.ptr o5 1 0 0, .pt 1 [nilS]), (AV.ptr o28 1 0 0, .pt 1 [nilS])]) (x := x24) (ps := ps26) (A := Stroke) O30).2]) (by first | rfl | simp [splice, (D2.oneX (l := [(AV.ptr o_ 1 0 0, .pt 3 [Sl.enc c18.2.code, iv c18.2.pos, AV.sc (.int .u64 c18.2.seed)]), (AV.ptr o1 1 0 0, .pt 1 [nilS]), (AV.ptr o5 1 0 0, .pt 1 [nilS]), (AV.ptr o28 1 0 0, .pt 1 [nilS])]) (x := x24) (ps := ps26) (A := Stroke) O30).1, (D2.oneX (l := [(AV.ptr o_ 1 0 0, .pt 3 [Sl.enc c18.2.code, iv c18.2.pos, AV.sc (.int .u64 c18.2.seed)]), (AV.ptr o1 1 0 0, .pt 1 [nilS]), (AV.ptr o5 1 0 0, .pt 1 [nilS]), (AV.ptr o28 1 0 0, .pt 1 [nilS])]) (x := x24) (ps := ps26) (A := Stroke) O30).2]) (fun h32 O33 => ?_)
    replace O33 : Hold B h32 ([(AV.ptr o_ 1 0 0, .pt 3 [Sl.enc c18.2.code, iv c18.2.pos, AV.sc (.int .u64 c18.2.seed)]), (AV.ptr o1 1 0 0, .pt 1 [nilS]), (AV.ptr o5 1 0 0, .pt 1 [nilS]), (AV.ptr o28 1 0 0, .pt 1 [x24])] ++ D2 (A := Stroke) x24 ps26) := O33
    refine sim_let (v := AV.ptr o28 1 0 0) rfl ?_
    refine sim_let (v := x24) (O33.ld 3 rfl false 1 0) ?_
    refine sim_let (v := iv (((c18.1.strokes.getD []).length : Nat) : Int)) (D2.lenS (l := [(AV.ptr o_ 1 0 0, .pt 3 [Sl.enc c18.2.code, iv c18.2.pos, AV.sc (.int .u64 c18.2.seed)]), (AV.ptr o1 1 0 0, .pt 1 [nilS]), (AV.ptr o5 1 0 0, .pt 1 [nilS]), (AV.ptr o28 1 0 0, .pt 1 [x24])]) (x := x24) (ps := ps26) (A := Stroke) O33 hp27) ?_
    refine sim_let (v := bv (decide (0 < (((c18.1.strokes.getD []).length : Nat) : Int)))) (aBin_gtr _ _) ?_
    refine sim_cond (fun c34 => ?_) (fun c34 => ?_)
    · refine sim_let (v := AV.ptr o28 1 0 0) rfl ?_
      refine sim_let (v := x24) (O33.ld 3 rfl false 1 0) ?_
      refine sim_getN (l := [(AV.ptr o_ 1 0 0, .pt 3 [Sl.enc c18.2.code, iv c18.2.pos, AV.sc (.int .u64 c18.2.seed)]), (AV.ptr o1 1 0 0, .pt 1 [nilS]), (AV.ptr o5 1 0 0, .pt 1 [nilS]), (AV.ptr o28 1 0 0, .pt 1 [x24])]) (x := x24) (ps := ps26) (A := Stroke) O33 hp27 (fun m36 a35 x39 hi37 hm38 hg40 => ?_)
      refine sim_let (v := AV.agg [x39]) (D2.ld (l := [(AV.ptr o_ 1 0 0, .pt 3 [Sl.enc c18.2.code, iv c18.2.pos, AV.sc (.int .u64 c18.2.seed)]), (AV.ptr o1 1 0 0, .pt 1 [nilS]), (AV.ptr o5 1 0 0, .pt 1 [nilS]), (AV.ptr o28 1 0 0, .pt 1 [x24])]) (x := x24) (ps := ps26) (A := Stroke) O33 hm38 true 1 0) ?_
      refine sim_store O33 1 (cs' := [x39]) rfl (by first | rfl | simp [(D2.one (l := [(AV.ptr o_ 1 0 0, .pt 3 [Sl.enc c18.2.code, iv c18.2.pos, AV.sc (.int .u64 c18.2.seed)]), (AV.ptr o1 1 0 0, .pt 1 [nilS]), (AV.ptr o5 1 0 0, .pt 1 [nilS]), (AV.ptr o28 1 0 0, .pt 1 [x24])]) (x := x24) (ps := ps26) (A := Stroke) O33 hm38).1, (D2.one (l := [(AV.ptr o_ 1 0 0, .pt 3 [Sl.enc c18.2.code, iv c18.2.pos, AV.sc (.int .u64 c18.2.seed)]), (AV.ptr o1 1 0 0, .pt 1 [nilS]), (AV.ptr o5 1 0 0, .pt 1 [nilS]), (AV.ptr o28 1 0 0, .pt 1 [x24])]) (x := x24) (ps := ps26) (A := Stroke) O33 hm38).2]) (by simp) (by first | rfl | simp [(D2.one (l := [(AV.ptr o_ 1 0 0, .pt 3 [Sl.enc c18.2.code, iv c18.2.pos, AV.sc (.int .u64 c18.2.seed)]), (AV.ptr o1 1 0 0, .pt 1 [nilS]), (AV.ptr o5 1 0 0, .pt 1 [nilS]), (AV.ptr o28 1 0 0, .pt 1 [x24])]) (x := x24) (ps := ps26) (A := Stroke) O33 hm38).1, (D2.one (l := [(AV.ptr o_ 1 0 0, .pt 3 [Sl.enc c18.2.code, iv c18.2.pos, AV.sc (.int .u64 c18.2.seed)]), (AV.ptr o1 1 0 0, .pt 1 [nilS]), (AV.ptr o5 1 0 0, .pt 1 [nilS]), (AV.ptr o28 1 0 0, .pt 1 [x24])]) (x := x24) (ps := ps26) (A := Stroke) O33 hm38).2]) (by first | rfl | simp [splice, (D2.one (l := [(AV.ptr o_ 1 0 0, .pt 3 [Sl.enc c18.2.code, iv c18.2.pos, AV.sc (.int .u64 c18.2.seed)]), (AV.ptr o1 1 0 0, .pt 1 [nilS]), (AV.ptr o5 1 0 0, .pt 1 [nilS]), (AV.ptr o28 1 0 0, .pt 1 [x24])]) (x := x24) (ps := ps26) (A := Stroke) O33 hm38).1, (D2.one (l := [(AV.ptr o_ 1 0 0, .pt 3 [Sl.enc c18.2.code, iv c18.2.pos, AV.sc (.int .u64 c18.2.seed)]), (AV.ptr o1 1 0 0, .pt 1 [nilS]), (AV.ptr o5 1 0 0, .pt 1 [nilS]), (AV.ptr o28 1 0 0, .pt 1 [x24])]) (x := x24) (ps := ps26) (A := Stroke) O33 hm38).2]) (fun h41 O42 => ?_)
      replace O42 : Hold B h41 ([(AV.ptr o_ 1 0 0, .pt 3 [Sl.enc c18.2.code, iv c18.2.pos, AV.sc (.int .u64 c18.2.seed)]), (AV.ptr o1 1 0 0, .pt 1 [x39]), (AV.ptr o5 1 0 0, .pt 1 [nilS]), (AV.ptr o28 1 0 0, .pt 1 [x24])] ++ D2 (A := Stroke) x24 ps26) := O42
      refine sim_retL (resL_c (v := AV.agg [x39]) (O42.ld 1 rfl true 1 0) (resL_nil _)) ?_
      dsimp only [pack]
      have O43 : Hold B h41 [(AV.ptr o_ 1 0 0, .pt 3 [Sl.enc c18.2.code, iv c18.2.pos, AV.sc (.int .u64 c18.2.seed)]), (AV.ptr o1 1 0 0, .pt 1 [x39]), (AV.ptr o5 1 0 0, .pt 1 [nilS]), (AV.ptr o28 1 0 0, .pt 1 [x24]), (x39, obS (a35.points : Sl Point))] := D2.pick (l := [(AV.ptr o_ 1 0 0, .pt 3 [Sl.enc c18.2.code, iv c18.2.pos, AV.sc (.int .u64 c18.2.seed)]), (AV.ptr o1 1 0 0, .pt 1 [x39]), (AV.ptr o5 1 0 0, .pt 1 [nilS]), (AV.ptr o28 1 0 0, .pt 1 [x24])]) (x := x24) (ps := ps26) (A := Stroke) O42 hm38
      have O45 : Hold B h41 [(AV.ptr o_ 1 0 0, .pt 3 [Sl.enc c18.2.code, iv c18.2.pos, AV.sc (.int .u64 c18.2.seed)]), (x39, obS (a35.points : Sl Point))] := O43.sel [0, 4] (by decide) rfl
      exact sim_ret ⟨_, rfl, O45⟩
    · refine sim_let (v := AV.agg [nilS]) (O33.ld 2 rfl true 1 0) ?_
      refine sim_store O33 1 (cs' := [nilS]) rfl (by first | rfl | simp) (by simp) (by first | rfl | simp) (by first | rfl | simp [splice]) (fun h46 O47 => ?_)
      replace O47 : Hold B h46 ([(AV.ptr o_ 1 0 0, .pt 3 [Sl.enc c18.2.code, iv c18.2.pos, AV.sc (.int .u64 c18.2.seed)]), (AV.ptr o1 1 0 0, .pt 1 [nilS]), (AV.ptr o5 1 0 0, .pt 1 [nilS]), (AV.ptr o28 1 0 0, .pt 1 [x24])] ++ D2 (A := Stroke) x24 ps26) := O47
      refine sim_retL (resL_c (v := AV.agg [nilS]) (O47.ld 1 rfl true 1 0) (resL_nil _)) ?_
      dsimp only [pack]
      have O48 : Hold B h46 ([(AV.ptr o_ 1 0 0, .pt 3 [Sl.enc c18.2.code, iv c18.2.pos, AV.sc (.int .u64 c18.2.seed)]), (AV.ptr o1 1 0 0, .pt 1 [nilS]), (AV.ptr o5 1 0 0, .pt 1 [nilS]), (AV.ptr o28 1 0 0, .pt 1 [x24]), (nilS, obS ((none : Sl Point) : Sl Point))] ++ D2 (A := Stroke) x24 ps26) := Hold.rot O47.addnil
      have O50 : Hold B h46 [(AV.ptr o_ 1 0 0, .pt 3 [Sl.enc c18.2.code, iv c18.2.pos, AV.sc (.int .u64 c18.2.seed)]), (nilS, obS ((none : Sl Point) : Sl Point))] := O48.left.sel [0, 4] (by decide) rfl
      exact sim_ret ⟨_, rfl, O50⟩
  · refine sim_gen he_spec_l00Src_one (tg_spec_l00Src_one c11.2 2 (O16.start (i := 0) rfl rfl)) (fun c51 v52 h53 hq54 => ?_)
    obtain ⟨e_v52, O55⟩ := hq54
    dsimp only at e_v52
    subst v52
    have O56 : Hold B h53 [(AV.ptr o_ 1 0 0, .pt 3 [Sl.enc c51.2.code, iv c51.2.pos, AV.sc (.int .u64 c51.2.seed)]), (AV.ptr o1 1 0 0, .pt 1 [nilS]), (AV.ptr o5 1 0 0, .pt 1 [nilS])] := O16.merge (i := 0) rfl rfl O55
    refine sim_cond (fun c57 => ?_) (fun c57 => ?_)
    · refine sim_gen he_spec_l00Src_pick (tg_spec_l00Src_pick c51.2 60 (O56.start (i := 0) rfl rfl)) (fun c58 v59 h60 hq61 => ?_)
      obtain ⟨e_v59, O62⟩ := hq61
      dsimp only at e_v59
      subst v59
      have O63 : Hold B h60 [(AV.ptr o_ 1 0 0, .pt 3 [Sl.enc c58.2.code, iv c58.2.pos, AV.sc (.int .u64 c58.2.seed)]), (AV.ptr o1 1 0 0, .pt 1 [nilS]), (AV.ptr o5 1 0 0, .pt 1 [nilS])] := O56.merge (i := 0) rfl rfl O62
      refine sim_let (v := iv (wr (300 + c58.1))) (aBin_add _ _) ?_
      refine sim_gen he_spec_l00Src_pick (tg_spec_l00Src_pick c58.2 60 (O63.start (i := 0) rfl rfl)) (fun c64 v65 h66 hq67 => ?_)
      obtain ⟨e_v65, O68⟩ := hq67
      dsimp only at e_v65
      subst v65
      have O69 : Hold B h66 [(AV.ptr o_ 1 0 0, .pt 3 [Sl.enc c64.2.code, iv c64.2.pos, AV.sc (.int .u64 c64.2.seed)]), (AV.ptr o1 1 0 0, .pt 1 [nilS]), (AV.ptr o5 1 0 0, .pt 1 [nilS])] := O63.merge (i := 0) rfl rfl O68
      refine sim_let (v := iv (wr (300 + c64.1))) (aBin_add _ _) ?_
      refine sim_gen he_spec_l02DrawStroke (tg_spec_l02DrawStroke c64.2 5 (wr (300 + c58.1)) (wr (300 + c64.1)) (O69.start (i := 0) rfl rfl)) (fun c70 v71 h72 hq73 => ?_)
      obtain ⟨x76, e_v71, O74⟩ := hq73
      dsimp only at e_v71
      subst v71
      have O75 : Hold B h72 [(AV.ptr o_ 1 0 0, .pt 3 [Sl.enc c70.2.code, iv c70.2.pos, AV.sc (.int .u64 c70.2.seed)]), (AV.ptr o1 1 0 0, .pt 1 [nilS]), (AV.ptr o5 1 0 0, .pt 1 [nilS]), (x76, obS (c70.1.points : Sl Point))] := O69.merge (i := 0) rfl rfl O74
      refine sim_store O75 1 (cs' := [x76]) rfl (by first | rfl | simp [(O75.one (A := Point) (s := c70.1.points) 3 rfl).1, (O75.one (A := Point) (s := c70.1.points) 3 rfl).2]) (by simp) (by first | rfl | simp [(O75.one (A := Point) (s := c70.1.points) 3 rfl).1, (O75.one (A := Point) (s := c70.1.points) 3 rfl).2]) (by first | rfl | simp [splice, (O75.one (A := Point) (s := c70.1.points) 3 rfl).1, (O75.one (A := Point) (s := c70.1.points) 3 rfl).2]) (fun h78 O79 => ?_)
      replace O79 : Hold B h78 [(AV.ptr o_ 1 0 0, .pt 3 [Sl.enc c70.2.code, iv c70.2.pos, AV.sc (.int .u64 c70.2.seed)]), (AV.ptr o1 1 0 0, .pt 1 [x76]), (AV.ptr o5 1 0 0, .pt 1 [nilS]), (x76, obS (c70.1.points : Sl Point))] := O79
      refine sim_retL (resL_c (v := AV.agg [x76]) (O79.ld 1 rfl true 1 0) (resL_nil _)) ?_
      dsimp only [pack]
      have O80 : Hold B h78 [(AV.ptr o_ 1 0 0, .pt 3 [Sl.enc c70.2.code, iv c70.2.pos, AV.sc (.int .u64 c70.2.seed)]), (x76, obS (c70.1.points : Sl Point))] := O79.sel [0, 3] (by decide) rfl
      exact sim_ret ⟨_, rfl, O80⟩
    · refine sim_gen he_spec_l00Src_pick (tg_spec_l00Src_pick c51.2 7 (O56.start (i := 0) rfl rfl)) (fun c81 v82 h83 hq84 => ?_)
      obtain ⟨e_v82, O85⟩ := hq84
      dsimp only at e_v82
      subst v82
      have O86 : Hold B h83 [(AV.ptr o_ 1 0 0, .pt 3 [Sl.enc c81.2.code, iv c81.2.pos, AV.sc (.int .u64 c81.2.seed)]), (AV.ptr o1 1 0 0, .pt 1 [nilS]), (AV.ptr o5 1 0 0, .pt 1 [nilS])] := O56.merge (i := 0) rfl rfl O85
      refine sim_let (v := iv (wr (1 + c81.1))) (aBin_add _ _) ?_
      have O87 : Hold B h83 [(AV.ptr o_ 1 0 0, .pt 3 [Sl.enc c81.2.code, iv c81.2.pos, AV.sc (.int .u64 c81.2.seed)]), (AV.ptr o1 1 0 0, .pt 1 [nilS]), (AV.ptr o5 1 0 0, .pt 1 [nilS]), (nilS, obS ((none : Sl Point) : Sl Point))] := O86.addnil
      refine sim_bind ((tl0_spec_l05Stroke env he_spec_l00Src_one he_spec_l00Src_pick he_spec_l02Bent he_spec_l02DrawStroke o_ o1 o5 c11 c51 c81) ⟨_, rfl, O87⟩) (fun qq138 r hq => ?_)
      obtain ⟨q99, q100, q101, q103⟩ := qq138
      obtain ⟨q104, z102, z105, z106, h97, rfl, O98⟩ := hq
      rw [e_lk0x0_spec_l05Stroke]
      refine sim_let (v := AV.agg [z102]) (O98.ld 2 rfl true 1 0) ?_
      refine sim_store O98 1 (cs' := [z102]) rfl (by first | rfl | simp [(O98.one (A := Point) (s := q103) 3 rfl).1, (O98.one (A := Point) (s := q103) 3 rfl).2]) (by simp) (by first | rfl | simp [(O98.one (A := Point) (s := q103) 3 rfl).1, (O98.one (A := Point) (s := q103) 3 rfl).2]) (by first | rfl | simp [splice, (O98.one (A := Point) (s := q103) 3 rfl).1, (O98.one (A := Point) (s := q103) 3 rfl).2]) (fun h107 O108 => ?_)
      replace O108 : Hold B h107 [(AV.ptr o_ 1 0 0, .pt 3 [Sl.enc q99, iv q100, AV.sc (.int .u64 q101)]), (AV.ptr o1 1 0 0, .pt 1 [z102]), (AV.ptr o5 1 0 0, .pt 1 [z102]), (z102, obS (q103 : Sl Point))] := O108
      refine sim_retL (resL_c (v := AV.agg [z102]) (O108.ld 1 rfl true 1 0) (resL_nil _)) ?_
      dsimp only [pack]
      have O109 : Hold B h107 [(AV.ptr o_ 1 0 0, .pt 3 [Sl.enc q99, iv q100, AV.sc (.int .u64 q101)]), (z102, obS (q103 : Sl Point))] := O108.sel [0, 3] (by decide) rfl
      exact sim_ret ⟨_, rfl, O109⟩
noncomputable def ev_spec_l05Stroke : Nat → Contract := envL [(n_spec_l00Src_one, .gen (denFn Try.prog ev_spec_l00Src_one n_spec_l00Src_one)), (n_spec_l00Src_pick, .gen (denFn Try.prog ev_spec_l00Src_pick n_spec_l00Src_pick)), (n_spec_l02Bent, .gen (denFn Try.prog ev_spec_l02Bent n_spec_l02Bent)), (n_spec_l02DrawStroke, .gen (denFn Try.prog ev_spec_l02DrawStroke n_spec_l02DrawStroke))]
theorem eo_spec_l05Stroke : EnvOK Try.prog ev_spec_l05Stroke := (EconsG (gen_of_den eo_spec_l00Src_one mixed hb_spec_l00Src_one) (EconsG (gen_of_den eo_spec_l00Src_pick mixed hb_spec_l00Src_pick) (EconsG (gen_of_den eo_spec_l02Bent mixed hb_spec_l02Bent) (EconsG (gen_of_den eo_spec_l02DrawStroke mixed hb_spec_l02DrawStroke) E0))))
theorem tg_spec_l05Stroke {B : Base} {h : Heap} {o_ : Nat} (s_ : l00Src) (O : Hold B h [(AV.ptr o_ 1 0 0, .pt 3 [Sl.enc s_.code, iv s_.pos, AV.sc (.int .u64 s_.seed)])]) : Sim (denFn Try.prog ev_spec_l05Stroke n_spec_l05Stroke [AV.ptr o_ 1 0 0] h) (t_spec_l05Stroke s_) (fun c p => ∃ x1, p.1 = AV.agg [x1] ∧ Hold B p.2 ([(AV.ptr o_ 1 0 0, .pt 3 [Sl.enc c.2.code, iv c.2.pos, AV.sc (.int .u64 c.2.seed)]), (x1, obS (c.1.points : Sl Point))])) := ts_spec_l05Stroke ev_spec_l05Stroke (by simp [ev_spec_l05Stroke, envL]) (by simp [ev_spec_l05Stroke, envL]) (by simp [ev_spec_l05Stroke, envL]) (by simp [ev_spec_l05Stroke, envL]) s_  O

def s0_spec_l02Stroke (s_ : Stroke) : Int → Option (Sum Int (Sum Unit Bool)) := fun w3 =>
  bif decide (w3 < (((s_.points.getD []).length : Nat) : Int)) then
    obind (getI (s_.points.getD []) w3) fun a14 =>
    obind (t_spec_l02Point a14) fun c18 =>
    obind (bif !c18 then some false else (some (decide (0 < w3)))) fun c20 =>
    obind (bif (!(!c18) && c20) then (obind (getI (s_.points.getD []) w3) fun a24 => obind (getI (s_.points.getD []) (wr (w3 - 1))) fun a28 => some (decide (a24.t ≤ a28.t))) else some false) fun c32 =>
    obind (bif !c18 then some false else (some (bif c20 then c32 else false))) fun c51 =>
    bif (bif !c18 then true else c51) then
      some (.inr (.inr false))
    else
      some (.inl (wr (w3 + 1)))
  else
    some (.inr (.inl ()))
def t_spec_l02Stroke (s_ : Stroke) : Option Bool :=
  obind (loopT (s0_spec_l02Stroke s_) 0) fun qq57 => match qq57 with
  | (.inl _) =>
      obind (some (within (((s_.points.getD []).length : Nat) : Int) 1 60)) fun c8 =>
      some c8
  | (.inr q11) =>
      some q11
def tp_spec_l02Stroke (s_p : Pt Stroke) : Option Bool := obind s_p.get fun s_ => t_spec_l02Stroke s_

theorem tl0_spec_l02Stroke (env : Nat → Contract) {B : Base} (he_spec_l00In : env n_spec_l00In = .pure (T3 within)) (he_spec_l02Point : env n_spec_l02Point = .pure (C1 (fun c : Bool => enc c) t_spec_l02Point)) (s_ : Stroke) (s_p : Pt Stroke) (hp_s_ : s_p.get = some s_)  {st : Int} {tm : TM} {h : Heap} (R : (fun (st : Int) tm h1 => match st with | w3 => tm = [AV.fptr (Row.w Stroke) (s_p.tab.map Row.cells) s_p.i 0, und, AV.top, iv w3, AV.top, AV.top, AV.top, AV.top, AV.top, AV.top, AV.top, AV.top, AV.top, AV.top, AV.top, AV.top, AV.top, AV.top, AV.top, AV.top, AV.top, AV.top, AV.top, AV.top, AV.top, AV.top, AV.top, AV.top, AV.top, AV.top, AV.top, AV.top, AV.top, AV.top, AV.top, AV.top, AV.top, AV.top, AV.top, AV.top, AV.top, AV.top, AV.top, AV.top, AV.top, AV.top, und, und, und, und, und, und] ∧ Hold B h1 []) st tm h) : Sim (loopP hm0_spec_l02Stroke xm0_spec_l02Stroke (lb0_spec_l02Stroke env) tm h) (loopT (s0_spec_l02Stroke s_) st) (fun (q : Sum Unit Bool) (r : Res) => match q with | .inl _ => ∃ (q7 : Int) (z6 : AV) (h4 : Heap), r = (.exit 0, [AV.fptr (Row.w Stroke) (s_p.tab.map Row.cells) s_p.i 0, und, z6, iv q7, AV.top, AV.top, AV.top, AV.top, AV.top, AV.top, AV.top, AV.top, AV.top, AV.top, AV.top, AV.top, AV.top, AV.top, AV.top, AV.top, AV.top, AV.top, AV.top, AV.top, AV.top, AV.top, AV.top, AV.top, AV.top, AV.top, AV.top, AV.top, AV.top, AV.top, AV.top, AV.top, AV.top, AV.top, AV.top, AV.top, AV.top, AV.top, AV.top, AV.top, AV.top, AV.top, und, und, und, und, und, und], h4) ∧ Hold B h4 [] | .inr q11 => ∃ (q12 : Int) (h9 : Heap), r = (.ret, [AV.fptr (Row.w Stroke) (s_p.tab.map Row.cells) s_p.i 0, und, bv q11, iv q12, AV.top, AV.top, AV.top, AV.top, AV.top, AV.top, AV.top, AV.top, AV.top, AV.top, AV.top, AV.top, AV.top, AV.top, AV.top, AV.top, AV.top, AV.top, AV.top, AV.top, AV.top, AV.top, AV.top, AV.top, AV.top, AV.top, AV.top, AV.top, AV.top, AV.top, AV.top, AV.top, AV.top, AV.top, AV.top, AV.top, AV.top, AV.top, AV.top, AV.top, AV.top, AV.top, und, und, und, und, und, und], h9) ∧ Hold B h9 []) := by
  refine loop_sim (Rel := fun (st : Int) tm h1 => match st with | w3 => tm = [AV.fptr (Row.w Stroke) (s_p.tab.map Row.cells) s_p.i 0, und, AV.top, iv w3, AV.top, AV.top, AV.top, AV.top, AV.top, AV.top, AV.top, AV.top, AV.top, AV.top, AV.top, AV.top, AV.top, AV.top, AV.top, AV.top, AV.top, AV.top, AV.top, AV.top, AV.top, AV.top, AV.top, AV.top, AV.top, AV.top, AV.top, AV.top, AV.top, AV.top, AV.top, AV.top, AV.top, AV.top, AV.top, AV.top, AV.top, AV.top, AV.top, AV.top, AV.top, AV.top, und, und, und, und, und, und] ∧ Hold B h1 []) (fun w3 tm h1 R => ?_) R
  obtain ⟨rfl, O2⟩ := R
  rw [e_lb0_spec_l02Stroke]
  unfold s0_spec_l02Stroke
  dsimp only
  refine sim_let (v := AV.fptr (Row.w Stroke) (s_p.tab.map Row.cells) s_p.i 0) rfl ?_
  refine sim_let (v := AV.fptr (Row.w Stroke) (s_p.tab.map Row.cells) s_p.i 0) rfl ?_
  refine sim_let (v := Sl.enc s_.points) (ld_pt hp_s_ false 1 0) ?_
  refine sim_let (v := iv (((s_.points.getD []).length : Nat) : Int)) (Tab.enc h1 s_.points).len ?_
  refine sim_let (v := bv (decide (w3 < (((s_.points.getD []).length : Nat) : Int)))) (aBin_lss _ _) ?_
  refine sim_cond (fun c13 => ?_) (fun c13 => ?_)
  · refine sim_let (v := AV.fptr (Row.w Stroke) (s_p.tab.map Row.cells) s_p.i 0) rfl ?_
    refine sim_let (v := AV.fptr (Row.w Stroke) (s_p.tab.map Row.cells) s_p.i 0) rfl ?_
    refine sim_let (v := Sl.enc s_.points) (ld_pt hp_s_ false 1 0) ?_
    refine sim_get (Tab.enc h1 s_.points) (fun m15 a14 hi16 hm17 => ?_)
    refine sim_let (v := AV.agg [iv a14.x, iv a14.y, iv a14.t]) ((Tab.enc h1 s_.points).ld hm17 true 3 0) ?_
    refine sim_callQ1 he_spec_l02Point (snapD_nr _ a14 rfl) (fun c18 => ?_)
    refine sim_let2 (hand_plain (by rfl) _ _) ?_
    refine sim_let (v := bv (!c18)) (aUn_not _) ?_
    refine sim_g3F (e := bv) (fun hb19 => ?_) (fun y21 y22 c20 => ?_)
    · refine sim_o0 ?_
      refine sim_o1 ?_
      refine sim_let (v := bv (decide (0 < w3))) (aBin_gtr _ _) ?_
      refine sim_o0 ?_
      exact sim_ret rfl
    · simp only [gv_FT]
      refine sim_g18T (e := bv) (fun hb23 => ?_) (fun y33 y34 y35 y36 y37 y38 y39 y40 y41 y42 y43 y44 y45 y46 y47 y48 y49 c32 => ?_)
      · refine sim_o0 ?_
        refine sim_o1 ?_
        refine sim_let (v := AV.fptr (Row.w Stroke) (s_p.tab.map Row.cells) s_p.i 0) rfl ?_
        refine sim_o0 ?_
        refine sim_o1 ?_
        refine sim_let (v := AV.fptr (Row.w Stroke) (s_p.tab.map Row.cells) s_p.i 0) rfl ?_
        refine sim_o0 ?_
        refine sim_o1 ?_
        refine sim_let (v := Sl.enc s_.points) (ld_pt hp_s_ false 1 0) ?_
        refine sim_o0 ?_
        refine sim_o0 ?_
        refine sim_o1 ?_
        refine sim_get (Tab.enc h1 s_.points) (fun m25 a24 hi26 hm27 => ?_)
        refine sim_o0 ?_
        refine sim_o1 ?_
        refine sim_let (v := elp (Sl.enc s_.points) m25 2) ((Tab.enc h1 s_.points).fld _ _ _) ?_
        refine sim_o0 ?_
        refine sim_o1 ?_
        refine sim_let (v := iv a24.t) ((Tab.enc h1 s_.points).ld hm27 false 1 2) ?_
        refine sim_o0 ?_
        refine sim_o0 ?_
        refine sim_o1 ?_
        refine sim_let (v := AV.fptr (Row.w Stroke) (s_p.tab.map Row.cells) s_p.i 0) rfl ?_
        refine sim_o0 ?_
        refine sim_o1 ?_
        refine sim_let (v := AV.fptr (Row.w Stroke) (s_p.tab.map Row.cells) s_p.i 0) rfl ?_
        refine sim_o0 ?_
        refine sim_o1 ?_
        refine sim_let (v := Sl.enc s_.points) (ld_pt hp_s_ false 1 0) ?_
        refine sim_o0 ?_
        refine sim_o0 ?_
        refine sim_o1 ?_
        refine sim_let (v := iv (wr (w3 - 1))) (aBin_sub _ _) ?_
        refine sim_o0 ?_
        refine sim_o1 ?_
        refine sim_get (Tab.enc h1 s_.points) (fun m29 a28 hi30 hm31 => ?_)
        refine sim_o0 ?_
        refine sim_o1 ?_
        refine sim_let (v := elp (Sl.enc s_.points) m29 2) ((Tab.enc h1 s_.points).fld _ _ _) ?_
        refine sim_o0 ?_
        refine sim_o1 ?_
        refine sim_let (v := iv a28.t) ((Tab.enc h1 s_.points).ld hm31 false 1 2) ?_
        refine sim_o0 ?_
        refine sim_let (v := bv (decide (a24.t ≤ a28.t))) (aBin_leq _ _) ?_
        exact sim_ret rfl
      · refine sim_guardF (e := bv) (fun hb50 => ?_) (fun c51 => ?_)
        · simp only [hb50, cond_true, cond_false, Bool.not_true, Bool.not_false, Bool.true_and, Bool.and_true, Bool.false_and, Bool.not_not]
          refine sim_let (v := bv (bif c20 then c32 else false)) (pick_b _ _ _) ?_
          exact sim_ret rfl
        · refine sim_let (v := bv (bif !c18 then true else c51)) (pick_b' _ _ _) ?_
          refine sim_cond (fun c52 => ?_) (fun c52 => ?_)
          · exact sim_ret ⟨nofun, _, _, rfl, O2⟩
          · refine sim_let (v := iv (wr (w3 + 1))) (aBin_add _ _) ?_
            exact sim_ret ⟨rfl, rfl, O2⟩
  · exact sim_ret ⟨nofun, _, _, _, rfl, O2⟩
theorem ts_spec_l02Stroke (env : Nat → Contract) (he_spec_l00In : env n_spec_l00In = .pure (T3 within)) (he_spec_l02Point : env n_spec_l02Point = .pure (C1 (fun c : Bool => enc c) t_spec_l02Point)) (s_ : Stroke) {s_p : Pt Stroke} (hp_s_ : s_p.get = some s_) : Sim (denFn Try.prog env n_spec_l02Stroke [AV.fptr (Row.w Stroke) (s_p.tab.map Row.cells) s_p.i 0] []) (t_spec_l02Stroke s_) fun c p => release p.2 depth p.1 = some ((fun c : Bool => enc c) c) := by
  have O := Hold.nil []
  generalize hB : (⟨[], []⟩ : Base) = B at O
  clear hB
  rw [e_spec_l02Stroke]
  unfold t_spec_l02Stroke
  refine sim_bind ((tl0_spec_l02Stroke env he_spec_l00In he_spec_l02Point s_ s_p hp_s_) ⟨rfl, O⟩) (fun qq57 r hq => ?_)
  rcases qq57 with _ | q11
  · obtain ⟨q7, z6, h4, rfl, O5⟩ := hq
    rw [e_lk0x0_spec_l02Stroke]
    refine sim_let (v := AV.fptr (Row.w Stroke) (s_p.tab.map Row.cells) s_p.i 0) rfl ?_
    refine sim_let (v := AV.fptr (Row.w Stroke) (s_p.tab.map Row.cells) s_p.i 0) rfl ?_
    refine sim_let (v := Sl.enc s_.points) (ld_pt hp_s_ false 1 0) ?_
    refine sim_let (v := iv (((s_.points.getD []).length : Nat) : Int)) (Tab.enc h4 s_.points).len ?_
    refine sim_callV3 (t := within) he_spec_l00In (snapD_int _ _) (snapD_int _ _) (snapD_int _ _) (fun c8 => ?_)
    exact sim_ret (release_plain (by rfl) _)
  · obtain ⟨q12, h9, rfl, O10⟩ := hq
    rw [e_lk0r_spec_l02Stroke]
    exact sim_ret (release_plain (by rfl) _)
theorem tt_spec_l02Stroke : PureOK Try.prog n_spec_l02Stroke (C1 (fun c : Bool => enc c) tp_spec_l02Stroke) := pureC1 (Econs ok_spec_l00In (Econs tt_spec_l02Point E0)) mixed hb_spec_l02Stroke fun s_p => sim_getP fun s_ hp_s_ => ts_spec_l02Stroke _ (by simp [envL]) (by simp [envL]) s_ hp_s_

def t_impl_floorDiv (n_ : Int) (d_ : Int) : Option Int :=
  obind (quoI n_ d_) fun q1 =>
  obind (remI n_ d_) fun q2 =>
  bif decide (q2 < 0) then
    some (wr (q1 - 1))
  else
    some q1

theorem ts_impl_floorDiv (env : Nat → Contract)  (n_ : Int) (d_ : Int) : Sim (denFn Try.prog env n_impl_floorDiv [iv n_, iv d_] []) (t_impl_floorDiv n_ d_) fun c p => release p.2 depth p.1 = some ((fun c : Int => enc c) c) := by
  have O := Hold.nil []
  generalize hB : (⟨[], []⟩ : Base) = B at O
  clear hB
  rw [e_impl_floorDiv]
  unfold t_impl_floorDiv
  refine sim_quo (fun q1 => ?_)
  refine sim_rem (fun q2 => ?_)
  refine sim_let (v := bv (decide (q2 < 0))) (aBin_lss _ _) ?_
  refine sim_cond (fun c3 => ?_) (fun c3 => ?_)
  · refine sim_let (v := iv (wr (q1 - 1))) (aBin_sub _ _) ?_
    exact sim_ret (release_plain (by rfl) _)
  · exact sim_ret (release_plain (by rfl) _)
theorem tt_impl_floorDiv : PureOK Try.prog n_impl_floorDiv (C2 (fun c : Int => enc c) t_impl_floorDiv) := pureC2 E0 mixed hb_impl_floorDiv fun n_ d_ => ts_impl_floorDiv _  n_ d_

def t_impl_nearestDiv (n_ : Int) (d_ : Int) : Option Int :=
  obind (t_impl_floorDiv n_ d_) fun c1 =>
  bif decide ((wr (d_ - (wr (n_ - (wr (c1 * d_)))))) ≤ (wr (n_ - (wr (c1 * d_))))) then
    some (wr (c1 + 1))
  else
    some c1

theorem ts_impl_nearestDiv (env : Nat → Contract) (he_impl_floorDiv : env n_impl_floorDiv = .pure (C2 (fun c : Int => enc c) t_impl_floorDiv)) (n_ : Int) (d_ : Int) : Sim (denFn Try.prog env n_impl_nearestDiv [iv n_, iv d_] []) (t_impl_nearestDiv n_ d_) fun c p => release p.2 depth p.1 = some ((fun c : Int => enc c) c) := by
  have O := Hold.nil []
  generalize hB : (⟨[], []⟩ : Base) = B at O
  clear hB
  rw [e_impl_nearestDiv]
  unfold t_impl_nearestDiv
  refine sim_call2 he_impl_floorDiv (snapD_int _ _) (snapD_int _ _) (fun c1 => ?_)
  refine sim_let2 (hand_plain (by rfl) _ _) ?_
  refine sim_let (v := iv (wr (c1 * d_))) (aBin_mul _ _) ?_
  refine sim_let (v := iv (wr (n_ - (wr (c1 * d_))))) (aBin_sub _ _) ?_
  refine sim_let (v := iv (wr (d_ - (wr (n_ - (wr (c1 * d_))))))) (aBin_sub _ _) ?_
  refine sim_let (v := bv (decide ((wr (d_ - (wr (n_ - (wr (c1 * d_)))))) ≤ (wr (n_ - (wr (c1 * d_))))))) (aBin_geq _ _) ?_
  refine sim_cond (fun c2 => ?_) (fun c2 => ?_)
  · refine sim_let (v := iv (wr (c1 + 1))) (aBin_add _ _) ?_
    exact sim_ret (release_plain (by rfl) _)
  · exact sim_ret (release_plain (by rfl) _)
theorem tt_impl_nearestDiv : PureOK Try.prog n_impl_nearestDiv (C2 (fun c : Int => enc c) t_impl_nearestDiv) := pureC2 (Econs tt_impl_floorDiv E0) mixed hb_impl_nearestDiv fun n_ d_ => ts_impl_nearestDiv _ (by simp [envL]) n_ d_

def t_spec_l05Down (n_ : Int) (d_ : Int) : Option Int :=
  obind (quoI n_ d_) fun q1 =>
  obind (remI n_ d_) fun q2 =>
  bif decide (q2 < 0) then
    some (wr (q1 - 1))
  else
    some q1

theorem ts_spec_l05Down (env : Nat → Contract)  (n_ : Int) (d_ : Int) : Sim (denFn Try.prog env n_spec_l05Down [iv n_, iv d_] []) (t_spec_l05Down n_ d_) fun c p => release p.2 depth p.1 = some ((fun c : Int => enc c) c) := by
  have O := Hold.nil []
  generalize hB : (⟨[], []⟩ : Base) = B at O
  clear hB
  rw [e_spec_l05Down]
  unfold t_spec_l05Down
  refine sim_quo (fun q1 => ?_)
  refine sim_rem (fun q2 => ?_)
  refine sim_let (v := bv (decide (q2 < 0))) (aBin_lss _ _) ?_
  refine sim_cond (fun c3 => ?_) (fun c3 => ?_)
  · refine sim_let (v := iv (wr (q1 - 1))) (aBin_sub _ _) ?_
    exact sim_ret (release_plain (by rfl) _)
  · exact sim_ret (release_plain (by rfl) _)
theorem tt_spec_l05Down : PureOK Try.prog n_spec_l05Down (C2 (fun c : Int => enc c) t_spec_l05Down) := pureC2 E0 mixed hb_spec_l05Down fun n_ d_ => ts_spec_l05Down _  n_ d_

def t_spec_l05Near (n_ : Int) (d_ : Int) : Option Int :=
  obind (t_spec_l05Down (wr ((wr (2 * n_)) + d_)) (wr (2 * d_))) fun c1 =>
  some c1

theorem ts_spec_l05Near (env : Nat → Contract) (he_spec_l05Down : env n_spec_l05Down = .pure (C2 (fun c : Int => enc c) t_spec_l05Down)) (n_ : Int) (d_ : Int) : Sim (denFn Try.prog env n_spec_l05Near [iv n_, iv d_] []) (t_spec_l05Near n_ d_) fun c p => release p.2 depth p.1 = some ((fun c : Int => enc c) c) := by
  have O := Hold.nil []
  generalize hB : (⟨[], []⟩ : Base) = B at O
  clear hB
  rw [e_spec_l05Near]
  unfold t_spec_l05Near
  refine sim_let (v := iv (wr (2 * n_))) (aBin_mul _ _) ?_
  refine sim_let (v := iv (wr ((wr (2 * n_)) + d_))) (aBin_add _ _) ?_
  refine sim_let (v := iv (wr (2 * d_))) (aBin_mul _ _) ?_
  refine sim_call2 he_spec_l05Down (snapD_int _ _) (snapD_int _ _) (fun c1 => ?_)
  refine sim_let2 (hand_plain (by rfl) _ _) ?_
  exact sim_ret (release_plain (by rfl) _)
theorem tt_spec_l05Near : PureOK Try.prog n_spec_l05Near (C2 (fun c : Int => enc c) t_spec_l05Near) := pureC2 (Econs tt_spec_l05Down E0) mixed hb_spec_l05Near fun n_ d_ => ts_spec_l05Near _ (by simp [envL]) n_ d_

def t_spec_l06Spot (p_ : Point) : Option Spot :=
  some (⟨p_.x, p_.y⟩ : Spot)

theorem ts_spec_l06Spot (env : Nat → Contract)  (p_ : Point) : Sim (denFn Try.prog env n_spec_l06Spot [AV.agg [iv p_.x, iv p_.y, iv p_.t]] []) (t_spec_l06Spot p_) fun c p => release p.2 depth p.1 = some ((fun c : Spot => enc c) c) := by
  have O := Hold.nil []
  generalize hB : (⟨[], []⟩ : Base) = B at O
  clear hB
  rw [e_spec_l06Spot]
  unfold t_spec_l06Spot
  refine sim_box O (cs := [iv p_.x, iv p_.y, iv p_.t]) (by first | rfl | simp) (fun o1 h2 O3 => ?_)
  replace O3 : Hold B h2 [(AV.ptr o1 1 0 0, .pt 3 [iv p_.x, iv p_.y, iv p_.t])] := O3
  refine sim_box O3 (cs := [iv 0, iv 0]) (by first | rfl | simp) (fun o5 h6 O7 => ?_)
  replace O7 : Hold B h6 [(AV.ptr o1 1 0 0, .pt 3 [iv p_.x, iv p_.y, iv p_.t]), (AV.ptr o5 1 0 0, .pt 2 [iv 0, iv 0])] := O7
  refine sim_let (v := AV.ptr o1 1 0 0) rfl ?_
  refine sim_let (v := iv p_.x) (O7.ld 0 rfl false 1 0) ?_
  refine sim_let (v := AV.ptr o1 1 0 1) rfl ?_
  refine sim_let (v := iv p_.y) (O7.ld 0 rfl false 1 1) ?_
  refine sim_let (v := AV.agg [iv p_.x, iv p_.y]) (by first | rfl | simp [aBuild, aFill, splice]) ?_
  refine sim_store O7 1 (cs' := [iv p_.x, iv p_.y]) rfl (by first | rfl | simp) (by simp) (by first | rfl | simp) (by first | rfl | simp [splice]) (fun h9 O10 => ?_)
  replace O10 : Hold B h9 [(AV.ptr o1 1 0 0, .pt 3 [iv p_.x, iv p_.y, iv p_.t]), (AV.ptr o5 1 0 0, .pt 2 [iv p_.x, iv p_.y])] := O10
  refine sim_retL (resL_c (v := AV.agg [iv p_.x, iv p_.y]) (O10.ld 1 rfl true 2 0) (resL_nil _)) ?_
  dsimp only [pack]
  exact sim_ret (release_plain (by rfl) _)
theorem tt_spec_l06Spot : PureOK Try.prog n_spec_l06Spot (C1 (fun c : Spot => enc c) t_spec_l06Spot) := pureC1 E0 mixed hb_spec_l06Spot fun p_ => ts_spec_l06Spot _  p_

def s0_spec_SpotsOf (s_ : Stroke) : ((Sl Spot) × Int) → Option (Sum ((Sl Spot) × Int) (Sl Spot)) := fun (w12, w15) =>
  bif decide (w15 < (((s_.points.getD []).length : Nat) : Int)) then
    obind (getI (s_.points.getD []) w15) fun a23 =>
    obind (t_spec_l06Spot a23) fun c27 =>
    obind (appO w12 ([c27] : List Spot)) fun _ =>
    some (.inl ((appS w12 ([c27] : List Spot)), wr (w15 + 1)))
  else
    some (.inr w12)
def t_spec_SpotsOf (s_ : Stroke) : Option ((Sl Spot) × Int) :=
  obind (t_spec_l02Stroke s_) fun c5 =>
  bif !c5 then
    some ((none : Sl Spot), 1)
  else
    obind (loopT (s0_spec_SpotsOf s_) ((some ([] : List Spot)), 0)) fun q19 =>
    some (q19, 0)

theorem tl0_spec_SpotsOf (env : Nat → Contract) {B : Base} (he_spec_l02Stroke : env n_spec_l02Stroke = .pure (C1 (fun c : Bool => enc c) tp_spec_l02Stroke)) (he_spec_l06Spot : env n_spec_l06Spot = .pure (C1 (fun c : Spot => enc c) t_spec_l06Spot)) (s_ : Stroke) (o1 : Nat) (c5 : Bool) (x7 : AV)  {st : (Sl Spot) × Int} {tm : TM} {h : Heap} (R : (fun (st : (Sl Spot) × Int) tm h13 => match st with | (w12, w15) => ∃ z11, tm = [AV.agg [Sl.enc s_.points], AV.ptr o1 1 0 0, nilS, iv 0, z11, iv w15, bv c5, bv (!c5), x7, AV.top, AV.top, AV.top, AV.top, AV.top, AV.top, AV.top, AV.top, AV.top, AV.top, AV.top, AV.top, AV.top, AV.top, AV.top, AV.top, und] ∧ Hold B h13 [(AV.ptr o1 1 0 0, .pt 1 [Sl.enc s_.points]), (z11, obS (w12 : Sl Spot))]) st tm h) : Sim (loopP hm0_spec_SpotsOf xm0_spec_SpotsOf (lb0_spec_SpotsOf env) tm h) (loopT (s0_spec_SpotsOf s_) st) (fun (q : Sl Spot) (r : Res) => match q with | q19 => ∃ (q20 : Int) (z18 : AV) (h16 : Heap), r = (.exit 0, [AV.agg [Sl.enc s_.points], AV.ptr o1 1 0 0, nilS, iv 0, z18, iv q20, bv c5, bv (!c5), x7, AV.top, AV.top, AV.top, AV.top, AV.top, AV.top, AV.top, AV.top, AV.top, AV.top, AV.top, AV.top, AV.top, AV.top, AV.top, AV.top, und], h16) ∧ Hold B h16 [(AV.ptr o1 1 0 0, .pt 1 [Sl.enc s_.points]), (z18, obS (q19 : Sl Spot))]) := by
  refine loop_sim (Rel := fun (st : (Sl Spot) × Int) tm h13 => match st with | (w12, w15) => ∃ z11, tm = [AV.agg [Sl.enc s_.points], AV.ptr o1 1 0 0, nilS, iv 0, z11, iv w15, bv c5, bv (!c5), x7, AV.top, AV.top, AV.top, AV.top, AV.top, AV.top, AV.top, AV.top, AV.top, AV.top, AV.top, AV.top, AV.top, AV.top, AV.top, AV.top, und] ∧ Hold B h13 [(AV.ptr o1 1 0 0, .pt 1 [Sl.enc s_.points]), (z11, obS (w12 : Sl Spot))]) (fun st tm h13 R => ?_) R
  obtain ⟨w12, w15⟩ := st
  obtain ⟨z11, rfl, O14⟩ := R
  rw [e_lb0_spec_SpotsOf]
  unfold s0_spec_SpotsOf
  dsimp only
  refine sim_let (v := AV.ptr o1 1 0 0) rfl ?_
  refine sim_let (v := Sl.enc s_.points) (O14.ld 0 rfl false 1 0) ?_
  refine sim_let (v := iv (((s_.points.getD []).length : Nat) : Int)) (Tab.enc h13 s_.points).len ?_
  refine sim_let (v := bv (decide (w15 < (((s_.points.getD []).length : Nat) : Int)))) (aBin_lss _ _) ?_
  refine sim_cond (fun c22 => ?_) (fun c22 => ?_)
  · refine sim_let (v := AV.ptr o1 1 0 0) rfl ?_
    refine sim_let (v := Sl.enc s_.points) (O14.ld 0 rfl false 1 0) ?_
    refine sim_get (Tab.enc h13 s_.points) (fun m24 a23 hi25 hm26 => ?_)
    refine sim_let (v := AV.agg [iv a23.x, iv a23.y, iv a23.t]) ((Tab.enc h13 s_.points).ld hm26 true 3 0) ?_
    refine sim_call1 he_spec_l06Spot (snapD_nr _ a23 rfl) (fun c27 => ?_)
    refine sim_let2 (hand_plain (by rfl) _ _) ?_
    refine sim_build (A := Spot) O14 ([c27] : List Spot) rfl (by first | rfl | simp [aFillRows, zrows]) rfl (fun x28 h29 O30 => ?_)
    replace O30 : Hold B h29 [(AV.ptr o1 1 0 0, .pt 1 [Sl.enc s_.points]), (z11, obS (w12 : Sl Spot)), (x28, obS ((some ([c27] : List Spot)) : Sl Spot))] := O30
    refine sim_append (A := Spot) (s := w12) O30 1 ([c27] : List Spot) rfl (O30.src (A := Spot) (s := (some ([c27] : List Spot))) 2 rfl) (by decide) (fun x33 h34 O35 => ?_)
    replace O35 : Hold B h34 [(AV.ptr o1 1 0 0, .pt 1 [Sl.enc s_.points]), (x33, obS ((appS w12 ([c27] : List Spot)) : Sl Spot)), (x28, obS ((some ([c27] : List Spot)) : Sl Spot))] := O35
    have O37 : Hold B h34 [(AV.ptr o1 1 0 0, .pt 1 [Sl.enc s_.points]), (x33, obS ((appS w12 ([c27] : List Spot)) : Sl Spot))] := O35.sel [0, 1] (by decide) rfl
    refine sim_let (v := iv (wr (w15 + 1))) (aBin_add _ _) ?_
    exact sim_ret ⟨rfl, _, rfl, O37⟩
  · exact sim_ret ⟨nofun, _, _, _, rfl, O14⟩
theorem ts_spec_SpotsOf (env : Nat → Contract) (he_spec_l02Stroke : env n_spec_l02Stroke = .pure (C1 (fun c : Bool => enc c) tp_spec_l02Stroke)) (he_spec_l06Spot : env n_spec_l06Spot = .pure (C1 (fun c : Spot => enc c) t_spec_l06Spot)) (s_ : Stroke) : Sim (denFn Try.prog env n_spec_SpotsOf [AV.agg [Sl.enc s_.points]] []) (t_spec_SpotsOf s_) fun c p => release p.2 depth p.1 = some ((fun c : (Sl Spot) × Int => AV.tup [rS c.1, enc c.2]) c) := by
  have O := Hold.nil []
  generalize hB : (⟨[], []⟩ : Base) = B at O
  clear hB
  rw [e_spec_SpotsOf]
  unfold t_spec_SpotsOf
  refine sim_box O (cs := [Sl.enc s_.points]) (by first | rfl | simp) (fun o1 h2 O3 => ?_)
  replace O3 : Hold B h2 [(AV.ptr o1 1 0 0, .pt 1 [Sl.enc s_.points])] := O3
  refine sim_eqO (y' := tp_spec_l02Stroke ⟨[s_], 0⟩) (by simp only [tp_spec_l02Stroke, get_pt1, obind_sm]) ?_
  refine sim_call1 he_spec_l02Stroke (O3.snapRn 0 rfl s_ rfl rfl) (fun c5 => ?_)
  refine sim_let2 (hand_plain (by rfl) _ _) ?_
  refine sim_let (v := bv (!c5)) (aUn_not _) ?_
  refine sim_cond (fun c6 => ?_) (fun c6 => ?_)
  · exact sim_ret (release_plain (by rfl) _)
  · refine sim_build (A := Spot) O3 ([] : List Spot) rfl (by first | rfl | simp [aFillRows, zrows]) rfl (fun x7 h8 O9 => ?_)
    replace O9 : Hold B h8 [(AV.ptr o1 1 0 0, .pt 1 [Sl.enc s_.points]), (x7, obS ((some ([] : List Spot)) : Sl Spot))] := O9
    refine sim_bind ((tl0_spec_SpotsOf env he_spec_l02Stroke he_spec_l06Spot s_ o1 c5 x7) ⟨_, rfl, O9⟩) (fun qq41 r hq => ?_)
    revert hq
    revert qq41
    intro q19 hq
    obtain ⟨q20, z18, h16, rfl, O17⟩ := hq
    rw [e_lk0x0_spec_SpotsOf]
    have O21 : Hold B h16 [(z18, obS (q19 : Sl Spot))] := O17.sel [1] (by decide) rfl
    exact sim_ret (release_of (by simp only [ids_tup, ids_aggD, ids_agg, ids_iv, ids_bv, ids_sv, ids_bt, ids_nilS, ids_enc, O21.idsD (A := Spot) (s := q19) 0 rfl, List.map_append, List.map_nil, List.flatMap_cons, List.flatMap_nil, List.append_nil, List.nil_append]; simpa only [List.flatMap_cons, List.flatMap_nil, List.append_nil, List.nil_append] using O21.nd2) (by simp only [rel_tup, rel_aggD, rel_agg, rel_iv, rel_bv, rel_sv, rel_bt, rel_nilS, rel_enc, O21.relD (A := Spot) (s := q19) 0 rfl, omapc, omapn, obind_sm] <;> rfl))
theorem tt_spec_SpotsOf : PureOK Try.prog n_spec_SpotsOf (C1 (fun c : (Sl Spot) × Int => AV.tup [rS c.1, enc c.2]) t_spec_SpotsOf) := pureC1 (Econs tt_spec_l02Stroke (Econs tt_spec_l06Spot E0)) mixed hb_spec_SpotsOf fun s_ => ts_spec_SpotsOf _ (by simp [envL]) (by simp [envL]) s_

def s0_spec_l06Same (a_ : Sl Spot) (b_ : Sl Spot) : Int → Option (Sum Int (Sum Unit Bool)) := fun w4 =>
  bif decide (w4 < (((a_.getD []).length : Nat) : Int)) then
    obind (getI (a_.getD []) w4) fun a14 =>
    obind (getI (b_.getD []) w4) fun a18 =>
    bif !decide (a14 = a18) then
      some (.inr (.inr false))
    else
      some (.inl (wr (w4 + 1)))
  else
    some (.inr (.inl ()))
def t_spec_l06Same (a_ : Sl Spot) (b_ : Sl Spot) : Option Bool :=
  bif !decide ((((a_.getD []).length : Nat) : Int) = (((b_.getD []).length : Nat) : Int)) then
    some false
  else
    obind (loopT (s0_spec_l06Same a_ b_) 0) fun qq27 => match qq27 with
    | (.inl _) =>
        some true
    | (.inr q11) =>
        some q11

theorem tl0_spec_l06Same (env : Nat → Contract) {B : Base}  (a_ : Sl Spot) (b_ : Sl Spot)  {st : Int} {tm : TM} {h : Heap} (R : (fun (st : Int) tm h2 => match st with | w4 => tm = [Sl.enc a_, Sl.enc b_, und, und, AV.top, iv w4, Sl.enc a_, iv (((a_.getD []).length : Nat) : Int), Sl.enc b_, iv (((b_.getD []).length : Nat) : Int), bv (!decide ((((a_.getD []).length : Nat) : Int) = (((b_.getD []).length : Nat) : Int))), AV.top, AV.top, AV.top, AV.top, AV.top, AV.top, AV.top, AV.top, AV.top, AV.top, AV.top, AV.top, AV.top, AV.top, AV.top] ∧ Hold B h2 []) st tm h) : Sim (loopP hm0_spec_l06Same xm0_spec_l06Same (lb0_spec_l06Same env) tm h) (loopT (s0_spec_l06Same a_ b_) st) (fun (q : Sum Unit Bool) (r : Res) => match q with | .inl _ => ∃ (q8 : Int) (z7 : AV) (h5 : Heap), r = (.exit 0, [Sl.enc a_, Sl.enc b_, und, und, z7, iv q8, Sl.enc a_, iv (((a_.getD []).length : Nat) : Int), Sl.enc b_, iv (((b_.getD []).length : Nat) : Int), bv (!decide ((((a_.getD []).length : Nat) : Int) = (((b_.getD []).length : Nat) : Int))), AV.top, AV.top, AV.top, AV.top, AV.top, AV.top, AV.top, AV.top, AV.top, AV.top, AV.top, AV.top, AV.top, AV.top, AV.top], h5) ∧ Hold B h5 [] | .inr q11 => ∃ (q12 : Int) (h9 : Heap), r = (.ret, [Sl.enc a_, Sl.enc b_, und, und, bv q11, iv q12, Sl.enc a_, iv (((a_.getD []).length : Nat) : Int), Sl.enc b_, iv (((b_.getD []).length : Nat) : Int), bv (!decide ((((a_.getD []).length : Nat) : Int) = (((b_.getD []).length : Nat) : Int))), AV.top, AV.top, AV.top, AV.top, AV.top, AV.top, AV.top, AV.top, AV.top, AV.top, AV.top, AV.top, AV.top, AV.top, AV.top], h9) ∧ Hold B h9 []) := by
  refine loop_sim (Rel := fun (st : Int) tm h2 => match st with | w4 => tm = [Sl.enc a_, Sl.enc b_, und, und, AV.top, iv w4, Sl.enc a_, iv (((a_.getD []).length : Nat) : Int), Sl.enc b_, iv (((b_.getD []).length : Nat) : Int), bv (!decide ((((a_.getD []).length : Nat) : Int) = (((b_.getD []).length : Nat) : Int))), AV.top, AV.top, AV.top, AV.top, AV.top, AV.top, AV.top, AV.top, AV.top, AV.top, AV.top, AV.top, AV.top, AV.top, AV.top] ∧ Hold B h2 []) (fun w4 tm h2 R => ?_) R
  obtain ⟨rfl, O3⟩ := R
  rw [e_lb0_spec_l06Same]
  unfold s0_spec_l06Same
  dsimp only
  refine sim_let (v := iv (((a_.getD []).length : Nat) : Int)) (Tab.enc h2 a_).len ?_
  refine sim_let (v := bv (decide (w4 < (((a_.getD []).length : Nat) : Int)))) (aBin_lss _ _) ?_
  refine sim_cond (fun c13 => ?_) (fun c13 => ?_)
  · refine sim_get (Tab.enc h2 a_) (fun m15 a14 hi16 hm17 => ?_)
    refine sim_let (v := AV.agg [iv a14.x, iv a14.y]) ((Tab.enc h2 a_).ld hm17 true 2 0) ?_
    refine sim_get (Tab.enc h2 b_) (fun m19 a18 hi20 hm21 => ?_)
    refine sim_let (v := AV.agg [iv a18.x, iv a18.y]) ((Tab.enc h2 b_).ld hm21 true 2 0) ?_
    refine sim_let (v := bv (!decide (a14 = a18))) (aCmp_Spot a14 a18).2 ?_
    refine sim_cond (fun c22 => ?_) (fun c22 => ?_)
    · exact sim_ret ⟨nofun, _, _, rfl, O3⟩
    · refine sim_let (v := iv (wr (w4 + 1))) (aBin_add _ _) ?_
      exact sim_ret ⟨rfl, rfl, O3⟩
  · exact sim_ret ⟨nofun, _, _, _, rfl, O3⟩
theorem ts_spec_l06Same (env : Nat → Contract)  (a_ : Sl Spot) (b_ : Sl Spot) : Sim (denFn Try.prog env n_spec_l06Same [Sl.enc a_, Sl.enc b_] []) (t_spec_l06Same a_ b_) fun c p => release p.2 depth p.1 = some ((fun c : Bool => enc c) c) := by
  have O := Hold.nil []
  generalize hB : (⟨[], []⟩ : Base) = B at O
  clear hB
  rw [e_spec_l06Same]
  unfold t_spec_l06Same
  refine sim_let (v := iv (((a_.getD []).length : Nat) : Int)) (Tab.enc [] a_).len ?_
  refine sim_let (v := iv (((b_.getD []).length : Nat) : Int)) (Tab.enc [] b_).len ?_
  refine sim_let (v := bv (!decide ((((a_.getD []).length : Nat) : Int) = (((b_.getD []).length : Nat) : Int)))) (aCmp_ne _ _) ?_
  refine sim_cond (fun c1 => ?_) (fun c1 => ?_)
  · exact sim_ret (release_plain (by rfl) _)
  · refine sim_bind ((tl0_spec_l06Same env a_ b_) ⟨rfl, O⟩) (fun qq27 r hq => ?_)
    rcases qq27 with _ | q11
    · obtain ⟨q8, z7, h5, rfl, O6⟩ := hq
      rw [e_lk0x0_spec_l06Same]
      exact sim_ret (release_plain (by rfl) _)
    · obtain ⟨q12, h9, rfl, O10⟩ := hq
      rw [e_lk0r_spec_l06Same]
      exact sim_ret (release_plain (by rfl) _)
theorem tt_spec_l06Same : PureOK Try.prog n_spec_l06Same (C2 (fun c : Bool => enc c) t_spec_l06Same) := pureC2 E0 mixed hb_spec_l06Same fun a_ b_ => ts_spec_l06Same _  a_ b_

def t_spec_SameSpots (a_ : Sl Spot) (b_ : Sl Spot) : Option Bool :=
  obind (t_spec_l06Same a_ b_) fun c1 =>
  some c1

theorem ts_spec_SameSpots (env : Nat → Contract) (he_spec_l06Same : env n_spec_l06Same = .pure (C2 (fun c : Bool => enc c) t_spec_l06Same)) (a_ : Sl Spot) (b_ : Sl Spot) : Sim (denFn Try.prog env n_spec_SameSpots [Sl.enc a_, Sl.enc b_] []) (t_spec_SameSpots a_ b_) fun c p => release p.2 depth p.1 = some ((fun c : Bool => enc c) c) := by
  have O := Hold.nil []
  generalize hB : (⟨[], []⟩ : Base) = B at O
  clear hB
  rw [e_spec_SameSpots]
  unfold t_spec_SameSpots
  refine sim_call2 he_spec_l06Same (snapD_enc _ _) (snapD_enc _ _) (fun c1 => ?_)
  refine sim_let2 (hand_plain (by rfl) _ _) ?_
  exact sim_ret (release_plain (by rfl) _)
theorem tt_spec_SameSpots : PureOK Try.prog n_spec_SameSpots (C2 (fun c : Bool => enc c) t_spec_SameSpots) := pureC2 (Econs tt_spec_l06Same E0) mixed hb_spec_SameSpots fun a_ b_ => ts_spec_SameSpots _ (by simp [envL]) a_ b_

def s0_slices_Equal_impl_Spot_impl_Spot (s1_ : Sl Spot) (s2_ : Sl Spot) : Int → Option (Sum Int (Sum Unit Bool)) := fun w4 =>
  bif decide (w4 < (((s1_.getD []).length : Nat) : Int)) then
    obind (getI (s1_.getD []) w4) fun a14 =>
    obind (getI (s2_.getD []) w4) fun a18 =>
    bif !decide (a14 = a18) then
      some (.inr (.inr false))
    else
      some (.inl (wr (w4 + 1)))
  else
    some (.inr (.inl ()))
def t_slices_Equal_impl_Spot_impl_Spot (s1_ : Sl Spot) (s2_ : Sl Spot) : Option Bool :=
  bif !decide ((((s1_.getD []).length : Nat) : Int) = (((s2_.getD []).length : Nat) : Int)) then
    some false
  else
    obind (loopT (s0_slices_Equal_impl_Spot_impl_Spot s1_ s2_) 0) fun qq27 => match qq27 with
    | (.inl _) =>
        some true
    | (.inr q11) =>
        some q11

def t_impl_SameSpots (a_ : Sl Spot) (b_ : Sl Spot) : Option Bool :=
  obind (t_slices_Equal_impl_Spot_impl_Spot a_ b_) fun c1 =>
  some c1

def t_spec_l07Spots (s_ : l00Src) : Option ((Sl Spot) × l00Src) :=
  obind (t_spec_l05Stroke s_) fun c1 =>
  obind (t_spec_SpotsOf c1.1) fun c15 =>
  obind (appO (some ([] : List Spot)) (c15.1.getD [])) fun _ =>
  bif decide (0 < ((((appS (some ([] : List Spot)) (c15.1.getD [])).getD []).length : Nat) : Int)) then
    obind (t_spec_l00Src_one c1.2 12) fun c37 =>
    bif (bif decide (0 < ((((appS (some ([] : List Spot)) (c15.1.getD [])).getD []).length : Nat) : Int)) then c37.1 else false) then
      obind (t_spec_l00Src_among c37.2 (some ([(-1), 4095, 4096] : List Int))) fun c48 =>
      obind (getI ((appS (some ([] : List Spot)) (c15.1.getD [])).getD []) 0) fun a54 =>
      some ((setS (appS (some ([] : List Spot)) (c15.1.getD [])) 0 (⟨c48.1, a54.y⟩ : Spot)), (⟨c48.2.code, c48.2.pos, c48.2.seed⟩ : l00Src))
    else
      some ((appS (some ([] : List Spot)) (c15.1.getD [])), (⟨c37.2.code, c37.2.pos, c37.2.seed⟩ : l00Src))
  else
    some ((appS (some ([] : List Spot)) (c15.1.getD [])), (⟨c1.2.code, c1.2.pos, c1.2.seed⟩ : l00Src))

theorem ts_spec_l07Spots (env : Nat → Contract) (he_spec_SpotsOf : env n_spec_SpotsOf = .pure (C1 (fun c : (Sl Spot) × Int => AV.tup [rS c.1, enc c.2]) t_spec_SpotsOf)) (he_spec_l00Src_among : env n_spec_l00Src_among = .gen (denFn Try.prog ev_spec_l00Src_among n_spec_l00Src_among)) (he_spec_l00Src_one : env n_spec_l00Src_one = .gen (denFn Try.prog ev_spec_l00Src_one n_spec_l00Src_one)) (he_spec_l05Stroke : env n_spec_l05Stroke = .gen (denFn Try.prog ev_spec_l05Stroke n_spec_l05Stroke)) {B : Base} {h : Heap} {o_ : Nat} (s_ : l00Src) (O : Hold B h [(AV.ptr o_ 1 0 0, .pt 3 [Sl.enc s_.code, iv s_.pos, AV.sc (.int .u64 s_.seed)])]) : Sim (denFn Try.prog env n_spec_l07Spots [AV.ptr o_ 1 0 0] h) (t_spec_l07Spots s_) (fun c p => ∃ x1, p.1 = x1 ∧ Hold B p.2 ([(AV.ptr o_ 1 0 0, .pt 3 [Sl.enc c.2.code, iv c.2.pos, AV.sc (.int .u64 c.2.seed)]), (x1, obS (c.1 : Sl Spot))])) := by
  rw [e_spec_l07Spots]
  unfold t_spec_l07Spots
  refine sim_gen he_spec_l05Stroke (tg_spec_l05Stroke s_ (O.start (i := 0) rfl rfl)) (fun c1 v2 h3 hq4 => ?_)
  obtain ⟨x7, e_v2, O5⟩ := hq4
  dsimp only at e_v2
  subst v2
  have O6 : Hold B h3 [(AV.ptr o_ 1 0 0, .pt 3 [Sl.enc c1.2.code, iv c1.2.pos, AV.sc (.int .u64 c1.2.seed)]), (x7, obS (c1.1.points : Sl Point))] := O.merge (i := 0) rfl rfl O5
  refine sim_box O6 (cs := [nilS]) (by first | rfl | simp) (fun o9 h10 O11 => ?_)
  replace O11 : Hold B h10 [(AV.ptr o_ 1 0 0, .pt 3 [Sl.enc c1.2.code, iv c1.2.pos, AV.sc (.int .u64 c1.2.seed)]), (x7, obS (c1.1.points : Sl Point)), (AV.ptr o9 1 0 0, .pt 1 [nilS])] := O11
  refine sim_store O11 2 (cs' := [x7]) rfl (by first | rfl | simp [(O11.one (A := Point) (s := c1.1.points) 1 rfl).1, (O11.one (A := Point) (s := c1.1.points) 1 rfl).2]) (by simp) (by first | rfl | simp [(O11.one (A := Point) (s := c1.1.points) 1 rfl).1, (O11.one (A := Point) (s := c1.1.points) 1 rfl).2]) (by first | rfl | simp [splice, (O11.one (A := Point) (s := c1.1.points) 1 rfl).1, (O11.one (A := Point) (s := c1.1.points) 1 rfl).2]) (fun h13 O14 => ?_)
  replace O14 : Hold B h13 [(AV.ptr o_ 1 0 0, .pt 3 [Sl.enc c1.2.code, iv c1.2.pos, AV.sc (.int .u64 c1.2.seed)]), (x7, obS (c1.1.points : Sl Point)), (AV.ptr o9 1 0 0, .pt 1 [x7])] := O14
  refine sim_let (v := AV.agg [x7]) (O14.ld 2 rfl true 1 0) ?_
  refine sim_call1 he_spec_SpotsOf (snapD_own h13 c1.1 rfl (by simp [omap, O14.snap7 (A := Point) (s := c1.1.points) 1 rfl])) (fun c15 => ?_)
  refine sim_hand1 O14 (c15.1 : Sl Spot) (fun z1 => AV.tup [z1, iv c15.2]) (by intro b; simp only [mat_tup, mat_aggD, mat_agg, matLc, matLn, mat_iv, mat_bv, mat_sv, mat_bt, mat_nilS, mat_rS, List.append_nil, List.nil_append, List.length_nil, Nat.add_zero]) (by simp only [noF_tup, noF_aggD, noF_agg, noF_iv, noF_bv, noF_sv, noF_bt, noF_nilS, noF_rS, List.all_cons, List.all_nil, Bool.and_self]) (fun x17 h18 O19 => ?_)
  replace O19 : Hold B h18 [(AV.ptr o_ 1 0 0, .pt 3 [Sl.enc c1.2.code, iv c1.2.pos, AV.sc (.int .u64 c1.2.seed)]), (x7, obS (c1.1.points : Sl Point)), (AV.ptr o9 1 0 0, .pt 1 [x7]), (x17, obS (c15.1 : Sl Spot))] := O19
  refine sim_let (v := x17) rfl ?_
  refine sim_let (v := iv c15.2) rfl ?_
  refine sim_build (A := Spot) O19 ([] : List Spot) rfl (by first | rfl | simp [aFillRows, zrows]) rfl (fun x20 h21 O22 => ?_)
  replace O22 : Hold B h21 [(AV.ptr o_ 1 0 0, .pt 3 [Sl.enc c1.2.code, iv c1.2.pos, AV.sc (.int .u64 c1.2.seed)]), (x7, obS (c1.1.points : Sl Point)), (AV.ptr o9 1 0 0, .pt 1 [x7]), (x17, obS (c15.1 : Sl Spot)), (x20, obS ((some ([] : List Spot)) : Sl Spot))] := O22
  refine sim_append (A := Spot) (s := (some ([] : List Spot))) O22 4 (c15.1.getD []) rfl (O22.src (A := Spot) (s := c15.1) 3 rfl) (by decide) (fun x25 h26 O27 => ?_)
  replace O27 : Hold B h26 [(AV.ptr o_ 1 0 0, .pt 3 [Sl.enc c1.2.code, iv c1.2.pos, AV.sc (.int .u64 c1.2.seed)]), (x7, obS (c1.1.points : Sl Point)), (AV.ptr o9 1 0 0, .pt 1 [x7]), (x17, obS (c15.1 : Sl Spot)), (x25, obS ((appS (some ([] : List Spot)) (c15.1.getD [])) : Sl Spot))] := O27
  refine sim_let (v := iv ((((appS (some ([] : List Spot)) (c15.1.getD [])).getD []).length : Nat) : Int)) (O27.tab (A := Spot) (s := (appS (some ([] : List Spot)) (c15.1.getD []))) 4 rfl).len ?_
  refine sim_let (v := bv (decide (0 < ((((appS (some ([] : List Spot)) (c15.1.getD [])).getD []).length : Nat) : Int)))) (aBin_gtr _ _) ?_
  refine sim_split (b := decide (0 < ((((appS (some ([] : List Spot)) (c15.1.getD [])).getD []).length : Nat) : Int))) (fun hb36 => ?_) (fun hb36 => ?_)
  · refine sim_gonT hb36 ?_
    refine sim_as2 ?_
    refine sim_gen he_spec_l00Src_one (tg_spec_l00Src_one c1.2 12 (O27.start (i := 0) rfl rfl)) (fun c37 v38 h39 hq40 => ?_)
    obtain ⟨e_v38, O41⟩ := hq40
    dsimp only at e_v38
    subst v38
    have O42 : Hold B h39 [(AV.ptr o_ 1 0 0, .pt 3 [Sl.enc c37.2.code, iv c37.2.pos, AV.sc (.int .u64 c37.2.seed)]), (x7, obS (c1.1.points : Sl Point)), (AV.ptr o9 1 0 0, .pt 1 [x7]), (x17, obS (c15.1 : Sl Spot)), (x25, obS ((appS (some ([] : List Spot)) (c15.1.getD [])) : Sl Spot))] := O27.merge (i := 0) rfl rfl O41
    refine sim_sm2 ?_
    refine sim_let (v := bv (bif decide (0 < ((((appS (some ([] : List Spot)) (c15.1.getD [])).getD []).length : Nat) : Int)) then c37.1 else false)) (pick_bb _ _ _) ?_
    refine sim_cond (fun c43 => ?_) (fun c43 => ?_)
    · refine sim_build (A := Int) O42 ([(-1), 4095, 4096] : List Int) rfl (by first | rfl | simp [aFillRows, zrows]) rfl (fun x44 h45 O46 => ?_)
      replace O46 : Hold B h45 [(AV.ptr o_ 1 0 0, .pt 3 [Sl.enc c37.2.code, iv c37.2.pos, AV.sc (.int .u64 c37.2.seed)]), (x7, obS (c1.1.points : Sl Point)), (AV.ptr o9 1 0 0, .pt 1 [x7]), (x17, obS (c15.1 : Sl Spot)), (x25, obS ((appS (some ([] : List Spot)) (c15.1.getD [])) : Sl Spot)), (x44, obS ((some ([(-1), 4095, 4096] : List Int)) : Sl Int))] := O46
      refine sim_gen he_spec_l00Src_among (tg_spec_l00Src_among c37.2 (some ([(-1), 4095, 4096] : List Int)) (O46.tabK (A := Int) (s := (some ([(-1), 4095, 4096] : List Int))) 5 0 rfl rfl rfl (by decide)) (O46.start (i := 0) rfl rfl)) (fun c48 v49 h50 hq51 => ?_)
      obtain ⟨e_v49, O52⟩ := hq51
      dsimp only at e_v49
      subst v49
      have O53 : Hold B h50 [(AV.ptr o_ 1 0 0, .pt 3 [Sl.enc c48.2.code, iv c48.2.pos, AV.sc (.int .u64 c48.2.seed)]), (x7, obS (c1.1.points : Sl Point)), (AV.ptr o9 1 0 0, .pt 1 [x7]), (x17, obS (c15.1 : Sl Spot)), (x25, obS ((appS (some ([] : List Spot)) (c15.1.getD [])) : Sl Spot)), (x44, obS ((some ([(-1), 4095, 4096] : List Int)) : Sl Int))] := O46.merge (i := 0) rfl rfl O52
      refine sim_get (O53.tab (A := Spot) (s := (appS (some ([] : List Spot)) (c15.1.getD []))) 4 rfl) (fun m55 a54 hi56 hm57 => ?_)
      refine sim_let (v := elp x25 m55 0) ((O53.tab (A := Spot) (s := (appS (some ([] : List Spot)) (c15.1.getD []))) 4 rfl).fld _ _ _) ?_
      refine sim_set (A := Spot) O53 4 (⟨c48.1, a54.y⟩ : Spot) rfl hi56 hm57 rfl (by simp) (by first | rfl | simp) (by first | rfl | simp [splice]) (fun h58 O59 => ?_)
      replace O59 : Hold B h58 [(AV.ptr o_ 1 0 0, .pt 3 [Sl.enc c48.2.code, iv c48.2.pos, AV.sc (.int .u64 c48.2.seed)]), (x7, obS (c1.1.points : Sl Point)), (AV.ptr o9 1 0 0, .pt 1 [x7]), (x17, obS (c15.1 : Sl Spot)), (x25, obS ((setS (appS (some ([] : List Spot)) (c15.1.getD [])) 0 (⟨c48.1, a54.y⟩ : Spot)) : Sl Spot)), (x44, obS ((some ([(-1), 4095, 4096] : List Int)) : Sl Int))] := O59
      have O60 : Hold B h58 [(AV.ptr o_ 1 0 0, .pt 3 [Sl.enc c48.2.code, iv c48.2.pos, AV.sc (.int .u64 c48.2.seed)]), (x25, obS ((setS (appS (some ([] : List Spot)) (c15.1.getD [])) 0 (⟨c48.1, a54.y⟩ : Spot)) : Sl Spot))] := O59.sel [0, 4] (by decide) rfl
      exact sim_ret ⟨_, rfl, O60⟩
    · have O61 : Hold B h39 [(AV.ptr o_ 1 0 0, .pt 3 [Sl.enc c37.2.code, iv c37.2.pos, AV.sc (.int .u64 c37.2.seed)]), (x25, obS ((appS (some ([] : List Spot)) (c15.1.getD [])) : Sl Spot))] := O42.sel [0, 4] (by decide) rfl
      exact sim_ret ⟨_, rfl, O61⟩
  · refine sim_goffT hb36 ?_
    refine sim_pickN hb36 ?_
    have O62 : Hold B h26 [(AV.ptr o_ 1 0 0, .pt 3 [Sl.enc c1.2.code, iv c1.2.pos, AV.sc (.int .u64 c1.2.seed)]), (x25, obS ((appS (some ([] : List Spot)) (c15.1.getD [])) : Sl Spot))] := O27.sel [0, 4] (by decide) rfl
    exact sim_ret ⟨_, rfl, O62⟩
noncomputable def ev_spec_l07Spots : Nat → Contract := envL [(n_spec_SpotsOf, .pure (C1 (fun c : (Sl Spot) × Int => AV.tup [rS c.1, enc c.2]) t_spec_SpotsOf)), (n_spec_l00Src_among, .gen (denFn Try.prog ev_spec_l00Src_among n_spec_l00Src_among)), (n_spec_l00Src_one, .gen (denFn Try.prog ev_spec_l00Src_one n_spec_l00Src_one)), (n_spec_l05Stroke, .gen (denFn Try.prog ev_spec_l05Stroke n_spec_l05Stroke))]
theorem eo_spec_l07Spots : EnvOK Try.prog ev_spec_l07Spots := (Econs tt_spec_SpotsOf (EconsG (gen_of_den eo_spec_l00Src_among mixed hb_spec_l00Src_among) (EconsG (gen_of_den eo_spec_l00Src_one mixed hb_spec_l00Src_one) (EconsG (gen_of_den eo_spec_l05Stroke mixed hb_spec_l05Stroke) E0))))
theorem tg_spec_l07Spots {B : Base} {h : Heap} {o_ : Nat} (s_ : l00Src) (O : Hold B h [(AV.ptr o_ 1 0 0, .pt 3 [Sl.enc s_.code, iv s_.pos, AV.sc (.int .u64 s_.seed)])]) : Sim (denFn Try.prog ev_spec_l07Spots n_spec_l07Spots [AV.ptr o_ 1 0 0] h) (t_spec_l07Spots s_) (fun c p => ∃ x1, p.1 = x1 ∧ Hold B p.2 ([(AV.ptr o_ 1 0 0, .pt 3 [Sl.enc c.2.code, iv c.2.pos, AV.sc (.int .u64 c.2.seed)]), (x1, obS (c.1 : Sl Spot))])) := ts_spec_l07Spots ev_spec_l07Spots (by simp [ev_spec_l07Spots, envL]) (by simp [ev_spec_l07Spots, envL]) (by simp [ev_spec_l07Spots, envL]) (by simp [ev_spec_l07Spots, envL]) s_  O

def t_spec_l07Spot (p_ : Spot) : Option Bool :=
  obind (some (within p_.x 0 4095)) fun c5 =>
  obind (bif c5 then (obind (some (within p_.y 0 4095)) fun c7 => some c7) else some false) fun c8 =>
  some (bif c5 then c8 else false)

theorem ts_spec_l07Spot (env : Nat → Contract) (he_spec_l00In : env n_spec_l00In = .pure (T3 within)) (p_ : Spot) : Sim (denFn Try.prog env n_spec_l07Spot [AV.agg [iv p_.x, iv p_.y]] []) (t_spec_l07Spot p_) fun c p => release p.2 depth p.1 = some ((fun c : Bool => enc c) c) := by
  have O := Hold.nil []
  generalize hB : (⟨[], []⟩ : Base) = B at O
  clear hB
  rw [e_spec_l07Spot]
  unfold t_spec_l07Spot
  refine sim_box O (cs := [iv p_.x, iv p_.y]) (by first | rfl | simp) (fun o1 h2 O3 => ?_)
  replace O3 : Hold B h2 [(AV.ptr o1 1 0 0, .pt 2 [iv p_.x, iv p_.y])] := O3
  refine sim_let (v := AV.ptr o1 1 0 0) rfl ?_
  refine sim_let (v := iv p_.x) (O3.ld 0 rfl false 1 0) ?_
  refine sim_callV3 (t := within) he_spec_l00In (snapD_int _ _) (snapD_int _ _) (snapD_int _ _) (fun c5 => ?_)
  refine sim_guardT (e := bv) (fun hb6 => ?_) (fun c8 => ?_)
  · refine sim_let (v := AV.ptr o1 1 0 1) rfl ?_
    refine sim_let (v := iv p_.y) (O3.ld 0 rfl false 1 1) ?_
    refine sim_callV3 (t := within) he_spec_l00In (snapD_int _ _) (snapD_int _ _) (snapD_int _ _) (fun c7 => ?_)
    exact sim_ret rfl
  · refine sim_let (v := bv (bif c5 then c8 else false)) (pick_b _ _ _) ?_
    exact sim_ret (release_plain (by rfl) _)
theorem tt_spec_l07Spot : PureOK Try.prog n_spec_l07Spot (C1 (fun c : Bool => enc c) t_spec_l07Spot) := pureC1 (Econs ok_spec_l00In E0) mixed hb_spec_l07Spot fun p_ => ts_spec_l07Spot _ (by simp [envL]) p_

def s1_spec_BoxOfSpots (list_ : Sl Spot) : (Int × Int × Int × Int × Int) → Option (Sum (Int × Int × Int × Int × Int) (Int × Int × Int × Int)) := fun (w37, w38, w39, w40, w43) =>
  bif decide (w43 < (((list_.getD []).length : Nat) : Int)) then
    obind (getI (list_.getD []) w43) fun a54 =>
    obind (getI (list_.getD []) w43) fun a58 =>
    obind (getI (list_.getD []) w43) fun a62 =>
    obind (getI (list_.getD []) w43) fun a66 =>
    obind (some (joinBox (⟨w37, w38, w39, w40⟩ : Box) (⟨a54.x, a58.y, a62.x, a66.y⟩ : Box))) fun c70 =>
    some (.inl (c70.x1, c70.y1, c70.x2, c70.y2, wr (w43 + 1)))
  else
    some (.inr (w37, w38, w39, w40))
def s0_spec_BoxOfSpots (list_ : Sl Spot) : Int → Option (Sum Int (Sum Unit Int)) := fun w7 =>
  bif decide (w7 < (((list_.getD []).length : Nat) : Int)) then
    obind (getI (list_.getD []) w7) fun a82 =>
    obind (t_spec_l07Spot a82) fun c86 =>
    bif !c86 then
      some (.inr (.inr 1))
    else
      some (.inl (wr (w7 + 1)))
  else
    some (.inr (.inl ()))
def t_spec_BoxOfSpots (list_ : Sl Spot) : Option (Box × Int) :=
  obind (loopT (s0_spec_BoxOfSpots list_) 0) fun qq94 => match qq94 with
  | (.inl _) =>
      bif decide ((((list_.getD []).length : Nat) : Int) = 0) then
        some ((⟨0, 0, 0, 0⟩ : Box), 6)
      else
        obind (getI (list_.getD []) 0) fun a15 =>
        obind (getI (list_.getD []) 0) fun a19 =>
        obind (getI (list_.getD []) 0) fun a23 =>
        obind (getI (list_.getD []) 0) fun a27 =>
        obind (loopT (s1_spec_BoxOfSpots list_) (a15.x, a19.y, a23.x, a27.y, 1)) fun (q46, q47, q48, q49) =>
        some ((⟨q46, q47, q48, q49⟩ : Box), 0)
  | (.inr q79) =>
      some ((⟨0, 0, 0, 0⟩ : Box), q79)

theorem tl1_spec_BoxOfSpots (env : Nat → Contract) {B : Base} (he_spec_l02Join : env n_spec_l02Join = .pure (T2 joinBox)) (he_spec_l07Spot : env n_spec_l07Spot = .pure (C1 (fun c : Bool => enc c) t_spec_l07Spot)) (list_ : Sl Spot) (o1 : Nat) (z10 : AV) (q11 : Int) (a15 : Spot) (m16 : Nat) (a19 : Spot) (m20 : Nat) (a23 : Spot) (m24 : Nat) (a27 : Spot) (m28 : Nat) (o31 : Nat)  {st : Int × Int × Int × Int × Int} {tm : TM} {h : Heap} (R : (fun (st : Int × Int × Int × Int × Int) tm h41 => match st with | (w37, w38, w39, w40, w43) => tm = ((Sl.enc list_) :: und :: (AV.ptr o1 1 0 0) :: z10 :: (iv q11) :: (AV.ptr o31 1 0 0) :: (iv w43) :: AV.top :: AV.top :: AV.top :: AV.top :: AV.top :: AV.top :: AV.top :: AV.top :: AV.top :: AV.top :: AV.top :: AV.top :: AV.top :: (Sl.enc list_) :: (iv (((list_.getD []).length : Nat) : Int)) :: (bv (decide ((((list_.getD []).length : Nat) : Int) = 0))) :: und :: (Sl.enc list_) :: (elp (Sl.enc list_) m16 0) :: (elp (Sl.enc list_) m16 0) :: (iv a15.x) :: (Sl.enc list_) :: (elp (Sl.enc list_) m20 0) :: (elp (Sl.enc list_) m20 1) :: (iv a19.y) :: (Sl.enc list_) :: (elp (Sl.enc list_) m24 0) :: (elp (Sl.enc list_) m24 0) :: (iv a23.x) :: (Sl.enc list_) :: (elp (Sl.enc list_) m28 0) :: (elp (Sl.enc list_) m28 1) :: (iv a27.y) :: (AV.agg [iv a15.x, iv a19.y, iv a23.x, iv a27.y]) :: AV.top :: AV.top :: AV.top :: AV.top :: AV.top :: AV.top :: AV.top :: AV.top :: AV.top :: AV.top :: AV.top :: AV.top :: AV.top :: AV.top :: AV.top :: AV.top :: AV.top :: AV.top :: AV.top :: AV.top :: AV.top :: AV.top :: AV.top :: AV.top :: AV.top :: AV.top :: AV.top :: AV.top :: AV.top :: und :: []) ∧ Hold B h41 [(AV.ptr o1 1 0 0, .pt 4 [iv 0, iv 0, iv 0, iv 0]), (AV.ptr o31 1 0 0, .pt 4 [iv w37, iv w38, iv w39, iv w40])]) st tm h) : Sim (loopP hm1_spec_BoxOfSpots xm1_spec_BoxOfSpots (lb1_spec_BoxOfSpots env) tm h) (loopT (s1_spec_BoxOfSpots list_) st) (fun (q : Int × Int × Int × Int) (r : Res) => match q with | (q46, q47, q48, q49) => ∃ (q50 : Int) (h44 : Heap), r = (.exit 2, ((Sl.enc list_) :: und :: (AV.ptr o1 1 0 0) :: z10 :: (iv q11) :: (AV.ptr o31 1 0 0) :: (iv q50) :: AV.top :: AV.top :: AV.top :: AV.top :: AV.top :: AV.top :: AV.top :: AV.top :: AV.top :: AV.top :: AV.top :: AV.top :: AV.top :: (Sl.enc list_) :: (iv (((list_.getD []).length : Nat) : Int)) :: (bv (decide ((((list_.getD []).length : Nat) : Int) = 0))) :: und :: (Sl.enc list_) :: (elp (Sl.enc list_) m16 0) :: (elp (Sl.enc list_) m16 0) :: (iv a15.x) :: (Sl.enc list_) :: (elp (Sl.enc list_) m20 0) :: (elp (Sl.enc list_) m20 1) :: (iv a19.y) :: (Sl.enc list_) :: (elp (Sl.enc list_) m24 0) :: (elp (Sl.enc list_) m24 0) :: (iv a23.x) :: (Sl.enc list_) :: (elp (Sl.enc list_) m28 0) :: (elp (Sl.enc list_) m28 1) :: (iv a27.y) :: (AV.agg [iv a15.x, iv a19.y, iv a23.x, iv a27.y]) :: AV.top :: AV.top :: AV.top :: AV.top :: AV.top :: AV.top :: AV.top :: AV.top :: AV.top :: AV.top :: AV.top :: AV.top :: AV.top :: AV.top :: AV.top :: AV.top :: AV.top :: AV.top :: AV.top :: AV.top :: AV.top :: AV.top :: AV.top :: AV.top :: AV.top :: AV.top :: AV.top :: AV.top :: AV.top :: und :: []), h44) ∧ Hold B h44 [(AV.ptr o1 1 0 0, .pt 4 [iv 0, iv 0, iv 0, iv 0]), (AV.ptr o31 1 0 0, .pt 4 [iv q46, iv q47, iv q48, iv q49])]) := by
  refine loop_sim (Rel := fun (st : Int × Int × Int × Int × Int) tm h41 => match st with | (w37, w38, w39, w40, w43) => tm = ((Sl.enc list_) :: und :: (AV.ptr o1 1 0 0) :: z10 :: (iv q11) :: (AV.ptr o31 1 0 0) :: (iv w43) :: AV.top :: AV.top :: AV.top :: AV.top :: AV.top :: AV.top :: AV.top :: AV.top :: AV.top :: AV.top :: AV.top :: AV.top :: AV.top :: (Sl.enc list_) :: (iv (((list_.getD []).length : Nat) : Int)) :: (bv (decide ((((list_.getD []).length : Nat) : Int) = 0))) :: und :: (Sl.enc list_) :: (elp (Sl.enc list_) m16 0) :: (elp (Sl.enc list_) m16 0) :: (iv a15.x) :: (Sl.enc list_) :: (elp (Sl.enc list_) m20 0) :: (elp (Sl.enc list_) m20 1) :: (iv a19.y) :: (Sl.enc list_) :: (elp (Sl.enc list_) m24 0) :: (elp (Sl.enc list_) m24 0) :: (iv a23.x) :: (Sl.enc list_) :: (elp (Sl.enc list_) m28 0) :: (elp (Sl.enc list_) m28 1) :: (iv a27.y) :: (AV.agg [iv a15.x, iv a19.y, iv a23.x, iv a27.y]) :: AV.top :: AV.top :: AV.top :: AV.top :: AV.top :: AV.top :: AV.top :: AV.top :: AV.top :: AV.top :: AV.top :: AV.top :: AV.top :: AV.top :: AV.top :: AV.top :: AV.top :: AV.top :: AV.top :: AV.top :: AV.top :: AV.top :: AV.top :: AV.top :: AV.top :: AV.top :: AV.top :: AV.top :: AV.top :: und :: []) ∧ Hold B h41 [(AV.ptr o1 1 0 0, .pt 4 [iv 0, iv 0, iv 0, iv 0]), (AV.ptr o31 1 0 0, .pt 4 [iv w37, iv w38, iv w39, iv w40])]) (fun st tm h41 R => ?_) R
  obtain ⟨w37, w38, w39, w40, w43⟩ := st
  obtain ⟨rfl, O42⟩ := R
  rw [e_lb1_spec_BoxOfSpots]
  unfold s1_spec_BoxOfSpots
  dsimp only
  refine sim_let (v := iv (((list_.getD []).length : Nat) : Int)) (Tab.enc h41 list_).len ?_
  refine sim_let (v := bv (decide (w43 < (((list_.getD []).length : Nat) : Int)))) (aBin_lss _ _) ?_
  refine sim_cond (fun c53 => ?_) (fun c53 => ?_)
  · refine sim_let (v := AV.agg [iv w37, iv w38, iv w39, iv w40]) (O42.ld 1 rfl true 4 0) ?_
    refine sim_get (Tab.enc h41 list_) (fun m55 a54 hi56 hm57 => ?_)
    refine sim_let (v := elp (Sl.enc list_) m55 0) ((Tab.enc h41 list_).fld _ _ _) ?_
    refine sim_let (v := iv a54.x) ((Tab.enc h41 list_).ld hm57 false 1 0) ?_
    refine sim_get (Tab.enc h41 list_) (fun m59 a58 hi60 hm61 => ?_)
    refine sim_let (v := elp (Sl.enc list_) m59 1) ((Tab.enc h41 list_).fld _ _ _) ?_
    refine sim_let (v := iv a58.y) ((Tab.enc h41 list_).ld hm61 false 1 1) ?_
    refine sim_get (Tab.enc h41 list_) (fun m63 a62 hi64 hm65 => ?_)
    refine sim_let (v := elp (Sl.enc list_) m63 0) ((Tab.enc h41 list_).fld _ _ _) ?_
    refine sim_let (v := iv a62.x) ((Tab.enc h41 list_).ld hm65 false 1 0) ?_
    refine sim_get (Tab.enc h41 list_) (fun m67 a66 hi68 hm69 => ?_)
    refine sim_let (v := elp (Sl.enc list_) m67 1) ((Tab.enc h41 list_).fld _ _ _) ?_
    refine sim_let (v := iv a66.y) ((Tab.enc h41 list_).ld hm69 false 1 1) ?_
    refine sim_let (v := AV.agg [iv a54.x, iv a58.y, iv a62.x, iv a66.y]) (by first | rfl | simp [aBuild, aFill, splice]) ?_
    refine sim_callVQ2 (t := joinBox) he_spec_l02Join (snapD_nr _ (⟨w37, w38, w39, w40⟩ : Box) rfl) (snapD_nr _ (⟨a54.x, a58.y, a62.x, a66.y⟩ : Box) rfl) (fun c70 => ?_)
    refine sim_store O42 1 (cs' := [iv c70.x1, iv c70.y1, iv c70.x2, iv c70.y2]) rfl (by first | rfl | simp) (by simp) (by first | rfl | simp) (by first | rfl | simp [splice]) (fun h71 O72 => ?_)
    replace O72 : Hold B h71 [(AV.ptr o1 1 0 0, .pt 4 [iv 0, iv 0, iv 0, iv 0]), (AV.ptr o31 1 0 0, .pt 4 [iv c70.x1, iv c70.y1, iv c70.x2, iv c70.y2])] := O72
    refine sim_let (v := iv (wr (w43 + 1))) (aBin_add _ _) ?_
    exact sim_ret ⟨rfl, rfl, O72⟩
  · exact sim_ret ⟨nofun, _, _, rfl, O42⟩
theorem tl0_spec_BoxOfSpots (env : Nat → Contract) {B : Base} (he_spec_l02Join : env n_spec_l02Join = .pure (T2 joinBox)) (he_spec_l07Spot : env n_spec_l07Spot = .pure (C1 (fun c : Bool => enc c) t_spec_l07Spot)) (list_ : Sl Spot) (o1 : Nat)  {st : Int} {tm : TM} {h : Heap} (R : (fun (st : Int) tm h5 => match st with | w7 => tm = ((Sl.enc list_) :: und :: (AV.ptr o1 1 0 0) :: AV.top :: (iv w7) :: und :: und :: AV.top :: AV.top :: AV.top :: AV.top :: AV.top :: AV.top :: AV.top :: AV.top :: AV.top :: AV.top :: AV.top :: AV.top :: AV.top :: und :: und :: und :: und :: und :: und :: und :: und :: und :: und :: und :: und :: und :: und :: und :: und :: und :: und :: und :: und :: und :: und :: und :: und :: und :: und :: und :: und :: und :: und :: und :: und :: und :: und :: und :: und :: und :: und :: und :: und :: und :: und :: und :: und :: und :: und :: und :: und :: und :: und :: und :: []) ∧ Hold B h5 [(AV.ptr o1 1 0 0, .pt 4 [iv 0, iv 0, iv 0, iv 0])]) st tm h) : Sim (loopP hm0_spec_BoxOfSpots xm0_spec_BoxOfSpots (lb0_spec_BoxOfSpots env) tm h) (loopT (s0_spec_BoxOfSpots list_) st) (fun (q : Sum Unit Int) (r : Res) => match q with | .inl _ => ∃ (q11 : Int) (z10 : AV) (h8 : Heap), r = (.exit 0, ((Sl.enc list_) :: und :: (AV.ptr o1 1 0 0) :: z10 :: (iv q11) :: und :: und :: AV.top :: AV.top :: AV.top :: AV.top :: AV.top :: AV.top :: AV.top :: AV.top :: AV.top :: AV.top :: AV.top :: AV.top :: AV.top :: und :: und :: und :: und :: und :: und :: und :: und :: und :: und :: und :: und :: und :: und :: und :: und :: und :: und :: und :: und :: und :: und :: und :: und :: und :: und :: und :: und :: und :: und :: und :: und :: und :: und :: und :: und :: und :: und :: und :: und :: und :: und :: und :: und :: und :: und :: und :: und :: und :: und :: und :: []), h8) ∧ Hold B h8 [(AV.ptr o1 1 0 0, .pt 4 [iv 0, iv 0, iv 0, iv 0])] | .inr q79 => ∃ (q80 : Int) (h77 : Heap), r = (.ret, ((Sl.enc list_) :: und :: (AV.ptr o1 1 0 0) :: (iv q79) :: (iv q80) :: und :: und :: AV.top :: AV.top :: AV.top :: AV.top :: AV.top :: AV.top :: AV.top :: AV.top :: AV.top :: AV.top :: AV.top :: AV.top :: AV.top :: und :: und :: und :: und :: und :: und :: und :: und :: und :: und :: und :: und :: und :: und :: und :: und :: und :: und :: und :: und :: und :: und :: und :: und :: und :: und :: und :: und :: und :: und :: und :: und :: und :: und :: und :: und :: und :: und :: und :: und :: und :: und :: und :: und :: und :: und :: und :: und :: und :: und :: und :: []), h77) ∧ Hold B h77 [(AV.ptr o1 1 0 0, .pt 4 [iv 0, iv 0, iv 0, iv 0])]) := by
  refine loop_sim (Rel := fun (st : Int) tm h5 => match st with | w7 => tm = ((Sl.enc list_) :: und :: (AV.ptr o1 1 0 0) :: AV.top :: (iv w7) :: und :: und :: AV.top :: AV.top :: AV.top :: AV.top :: AV.top :: AV.top :: AV.top :: AV.top :: AV.top :: AV.top :: AV.top :: AV.top :: AV.top :: und :: und :: und :: und :: und :: und :: und :: und :: und :: und :: und :: und :: und :: und :: und :: und :: und :: und :: und :: und :: und :: und :: und :: und :: und :: und :: und :: und :: und :: und :: und :: und :: und :: und :: und :: und :: und :: und :: und :: und :: und :: und :: und :: und :: und :: und :: und :: und :: und :: und :: und :: []) ∧ Hold B h5 [(AV.ptr o1 1 0 0, .pt 4 [iv 0, iv 0, iv 0, iv 0])]) (fun w7 tm h5 R => ?_) R
  obtain ⟨rfl, O6⟩ := R
  rw [e_lb0_spec_BoxOfSpots]
  unfold s0_spec_BoxOfSpots
  dsimp only
  refine sim_let (v := iv (((list_.getD []).length : Nat) : Int)) (Tab.enc h5 list_).len ?_
  refine sim_let (v := bv (decide (w7 < (((list_.getD []).length : Nat) : Int)))) (aBin_lss _ _) ?_
  refine sim_cond (fun c81 => ?_) (fun c81 => ?_)
  · refine sim_get (Tab.enc h5 list_) (fun m83 a82 hi84 hm85 => ?_)
    refine sim_let (v := AV.agg [iv a82.x, iv a82.y]) ((Tab.enc h5 list_).ld hm85 true 2 0) ?_
    refine sim_call1 he_spec_l07Spot (snapD_nr _ a82 rfl) (fun c86 => ?_)
    refine sim_let2 (hand_plain (by rfl) _ _) ?_
    refine sim_let (v := bv (!c86)) (aUn_not _) ?_
    refine sim_cond (fun c87 => ?_) (fun c87 => ?_)
    · refine sim_let (v := AV.agg [iv 0, iv 0, iv 0, iv 0]) (by first | rfl | simp [aBuild, aFill, splice]) ?_
      refine sim_store O6 0 (cs' := [iv 0, iv 0, iv 0, iv 0]) rfl (by first | rfl | simp) (by simp) (by first | rfl | simp) (by first | rfl | simp [splice]) (fun h88 O89 => ?_)
      replace O89 : Hold B h88 [(AV.ptr o1 1 0 0, .pt 4 [iv 0, iv 0, iv 0, iv 0])] := O89
      exact sim_ret ⟨nofun, _, _, rfl, O89⟩
    · refine sim_let (v := iv (wr (w7 + 1))) (aBin_add _ _) ?_
      exact sim_ret ⟨rfl, rfl, O6⟩
  · exact sim_ret ⟨nofun, _, _, _, rfl, O6⟩
theorem ts_spec_BoxOfSpots (env : Nat → Contract) (he_spec_l02Join : env n_spec_l02Join = .pure (T2 joinBox)) (he_spec_l07Spot : env n_spec_l07Spot = .pure (C1 (fun c : Bool => enc c) t_spec_l07Spot)) (list_ : Sl Spot) : Sim (denFn Try.prog env n_spec_BoxOfSpots [Sl.enc list_] []) (t_spec_BoxOfSpots list_) fun c p => release p.2 depth p.1 = some ((fun c : Box × Int => AV.tup [enc c.1, enc c.2]) c) := by
  have O := Hold.nil []
  generalize hB : (⟨[], []⟩ : Base) = B at O
  clear hB
  rw [e_spec_BoxOfSpots]
  unfold t_spec_BoxOfSpots
  refine sim_box O (cs := [iv 0, iv 0, iv 0, iv 0]) (by first | rfl | simp) (fun o1 h2 O3 => ?_)
  replace O3 : Hold B h2 [(AV.ptr o1 1 0 0, .pt 4 [iv 0, iv 0, iv 0, iv 0])] := O3
  refine sim_bind ((tl0_spec_BoxOfSpots env he_spec_l02Join he_spec_l07Spot list_ o1) ⟨rfl, O3⟩) (fun qq94 r hq => ?_)
  rcases qq94 with _ | q79
  · obtain ⟨q11, z10, h8, rfl, O9⟩ := hq
    rw [e_lk0x0_spec_BoxOfSpots]
    refine sim_let (v := iv (((list_.getD []).length : Nat) : Int)) (Tab.enc h8 list_).len ?_
    refine sim_let (v := bv (decide ((((list_.getD []).length : Nat) : Int) = 0))) (aCmp_eq _ _) ?_
    refine sim_cond (fun c12 => ?_) (fun c12 => ?_)
    · refine sim_let (v := AV.agg [iv 0, iv 0, iv 0, iv 0]) (by first | rfl | simp [aBuild, aFill, splice]) ?_
      refine sim_store O9 0 (cs' := [iv 0, iv 0, iv 0, iv 0]) rfl (by first | rfl | simp) (by simp) (by first | rfl | simp) (by first | rfl | simp [splice]) (fun h13 O14 => ?_)
      replace O14 : Hold B h13 [(AV.ptr o1 1 0 0, .pt 4 [iv 0, iv 0, iv 0, iv 0])] := O14
      refine sim_retL (resL_c (v := AV.agg [iv 0, iv 0, iv 0, iv 0]) (O14.ld 0 rfl true 4 0) (resL_v (v := iv 6) (resL_nil _))) ?_
      dsimp only [pack]
      exact sim_ret (release_plain (by rfl) _)
    · refine sim_get (Tab.enc h8 list_) (fun m16 a15 hi17 hm18 => ?_)
      refine sim_let (v := elp (Sl.enc list_) m16 0) ((Tab.enc h8 list_).fld _ _ _) ?_
      refine sim_let (v := iv a15.x) ((Tab.enc h8 list_).ld hm18 false 1 0) ?_
      refine sim_get (Tab.enc h8 list_) (fun m20 a19 hi21 hm22 => ?_)
      refine sim_let (v := elp (Sl.enc list_) m20 1) ((Tab.enc h8 list_).fld _ _ _) ?_
      refine sim_let (v := iv a19.y) ((Tab.enc h8 list_).ld hm22 false 1 1) ?_
      refine sim_get (Tab.enc h8 list_) (fun m24 a23 hi25 hm26 => ?_)
      refine sim_let (v := elp (Sl.enc list_) m24 0) ((Tab.enc h8 list_).fld _ _ _) ?_
      refine sim_let (v := iv a23.x) ((Tab.enc h8 list_).ld hm26 false 1 0) ?_
      refine sim_get (Tab.enc h8 list_) (fun m28 a27 hi29 hm30 => ?_)
      refine sim_let (v := elp (Sl.enc list_) m28 1) ((Tab.enc h8 list_).fld _ _ _) ?_
      refine sim_let (v := iv a27.y) ((Tab.enc h8 list_).ld hm30 false 1 1) ?_
      refine sim_let (v := AV.agg [iv a15.x, iv a19.y, iv a23.x, iv a27.y]) (by first | rfl | simp [aBuild, aFill, splice]) ?_
      refine sim_box O9 (cs := [iv 0, iv 0, iv 0, iv 0]) (by first | rfl | simp) (fun o31 h32 O33 => ?_)
      replace O33 : Hold B h32 [(AV.ptr o1 1 0 0, .pt 4 [iv 0, iv 0, iv 0, iv 0]), (AV.ptr o31 1 0 0, .pt 4 [iv 0, iv 0, iv 0, iv 0])] := O33
      refine sim_store O33 1 (cs' := [iv a15.x, iv a19.y, iv a23.x, iv a27.y]) rfl (by first | rfl | simp) (by simp) (by first | rfl | simp) (by first | rfl | simp [splice]) (fun h35 O36 => ?_)
      replace O36 : Hold B h35 [(AV.ptr o1 1 0 0, .pt 4 [iv 0, iv 0, iv 0, iv 0]), (AV.ptr o31 1 0 0, .pt 4 [iv a15.x, iv a19.y, iv a23.x, iv a27.y])] := O36
      refine sim_bind ((tl1_spec_BoxOfSpots env he_spec_l02Join he_spec_l07Spot list_ o1 z10 q11 a15 m16 a19 m20 a23 m24 a27 m28 o31) ⟨rfl, O36⟩) (fun qq76 r hq => ?_)
      obtain ⟨q46, q47, q48, q49⟩ := qq76
      obtain ⟨q50, h44, rfl, O45⟩ := hq
      rw [e_lk1x2_spec_BoxOfSpots]
      refine sim_let (v := AV.agg [iv q46, iv q47, iv q48, iv q49]) (O45.ld 1 rfl true 4 0) ?_
      refine sim_store O45 0 (cs' := [iv q46, iv q47, iv q48, iv q49]) rfl (by first | rfl | simp) (by simp) (by first | rfl | simp) (by first | rfl | simp [splice]) (fun h51 O52 => ?_)
      replace O52 : Hold B h51 [(AV.ptr o1 1 0 0, .pt 4 [iv q46, iv q47, iv q48, iv q49]), (AV.ptr o31 1 0 0, .pt 4 [iv q46, iv q47, iv q48, iv q49])] := O52
      refine sim_retL (resL_c (v := AV.agg [iv q46, iv q47, iv q48, iv q49]) (O52.ld 0 rfl true 4 0) (resL_v (v := iv 0) (resL_nil _))) ?_
      dsimp only [pack]
      exact sim_ret (release_plain (by rfl) _)
  · obtain ⟨q80, h77, rfl, O78⟩ := hq
    rw [e_lk0r_spec_BoxOfSpots]
    refine sim_retL (resL_c (v := AV.agg [iv 0, iv 0, iv 0, iv 0]) (O78.ld 0 rfl true 4 0) (resL_v (v := iv q79) (resL_nil _))) ?_
    dsimp only [pack]
    exact sim_ret (release_plain (by rfl) _)
theorem tt_spec_BoxOfSpots : PureOK Try.prog n_spec_BoxOfSpots (C1 (fun c : Box × Int => AV.tup [enc c.1, enc c.2]) t_spec_BoxOfSpots) := pureC1 (Econs ok_spec_l02Join (Econs tt_spec_l07Spot E0)) mixed hb_spec_BoxOfSpots fun list_ => ts_spec_BoxOfSpots _ (by simp [envL]) (by simp [envL]) list_

def t_spec_l02DrawBox (s_ : l00Src) : Option (Box × l00Src) :=
  obind (t_spec_l00Src_pick s_ 900) fun c5 =>
  obind (t_spec_l00Src_pick c5.2 900) fun c11 =>
  obind (t_spec_l00Src_pick c11.2 300) fun c17 =>
  obind (t_spec_l00Src_pick c17.2 300) fun c23 =>
  obind (t_spec_l00Src_pick c23.2 16) fun c35 =>
  bif decide (c35.1 = 0) then
    obind (t_spec_l00Src_among c35.2 (some ([(-1), wr (c5.1 + c17.1), wr ((wr (c5.1 + c17.1)) + 1)] : List Int))) fun c46 =>
    some ((⟨c46.1, c11.1, wr (c5.1 + c17.1), wr (c11.1 + c23.1)⟩ : Box), (⟨c46.2.code, c46.2.pos, c46.2.seed⟩ : l00Src))
  else
    bif decide (c35.1 = 1) then
      obind (t_spec_l00Src_among c35.2 (some ([4095, 4096, (-1)] : List Int))) fun c62 =>
      some ((⟨c5.1, c11.1, wr (c5.1 + c17.1), c62.1⟩ : Box), (⟨c62.2.code, c62.2.pos, c62.2.seed⟩ : l00Src))
    else
      some ((⟨c5.1, c11.1, wr (c5.1 + c17.1), wr (c11.1 + c23.1)⟩ : Box), (⟨c35.2.code, c35.2.pos, c35.2.seed⟩ : l00Src))

theorem ts_spec_l02DrawBox (env : Nat → Contract) (he_spec_l00Src_among : env n_spec_l00Src_among = .gen (denFn Try.prog ev_spec_l00Src_among n_spec_l00Src_among)) (he_spec_l00Src_pick : env n_spec_l00Src_pick = .gen (denFn Try.prog ev_spec_l00Src_pick n_spec_l00Src_pick)) {B : Base} {h : Heap} {o_ : Nat} (s_ : l00Src) (O : Hold B h [(AV.ptr o_ 1 0 0, .pt 3 [Sl.enc s_.code, iv s_.pos, AV.sc (.int .u64 s_.seed)])]) : Sim (denFn Try.prog env n_spec_l02DrawBox [AV.ptr o_ 1 0 0] h) (t_spec_l02DrawBox s_) (fun c p => p.1 = AV.agg [iv c.1.x1, iv c.1.y1, iv c.1.x2, iv c.1.y2] ∧ Hold B p.2 ([(AV.ptr o_ 1 0 0, .pt 3 [Sl.enc c.2.code, iv c.2.pos, AV.sc (.int .u64 c.2.seed)])])) := by
  rw [e_spec_l02DrawBox]
  unfold t_spec_l02DrawBox
  refine sim_box O (cs := [iv 0, iv 0, iv 0, iv 0]) (by first | rfl | simp) (fun o1 h2 O3 => ?_)
  replace O3 : Hold B h2 [(AV.ptr o_ 1 0 0, .pt 3 [Sl.enc s_.code, iv s_.pos, AV.sc (.int .u64 s_.seed)]), (AV.ptr o1 1 0 0, .pt 4 [iv 0, iv 0, iv 0, iv 0])] := O3
  refine sim_gen he_spec_l00Src_pick (tg_spec_l00Src_pick s_ 900 (O3.start (i := 0) rfl rfl)) (fun c5 v6 h7 hq8 => ?_)
  obtain ⟨e_v6, O9⟩ := hq8
  dsimp only at e_v6
  subst v6
  have O10 : Hold B h7 [(AV.ptr o_ 1 0 0, .pt 3 [Sl.enc c5.2.code, iv c5.2.pos, AV.sc (.int .u64 c5.2.seed)]), (AV.ptr o1 1 0 0, .pt 4 [iv 0, iv 0, iv 0, iv 0])] := O3.merge (i := 0) rfl rfl O9
  refine sim_gen he_spec_l00Src_pick (tg_spec_l00Src_pick c5.2 900 (O10.start (i := 0) rfl rfl)) (fun c11 v12 h13 hq14 => ?_)
  obtain ⟨e_v12, O15⟩ := hq14
  dsimp only at e_v12
  subst v12
  have O16 : Hold B h13 [(AV.ptr o_ 1 0 0, .pt 3 [Sl.enc c11.2.code, iv c11.2.pos, AV.sc (.int .u64 c11.2.seed)]), (AV.ptr o1 1 0 0, .pt 4 [iv 0, iv 0, iv 0, iv 0])] := O10.merge (i := 0) rfl rfl O15
  refine sim_gen he_spec_l00Src_pick (tg_spec_l00Src_pick c11.2 300 (O16.start (i := 0) rfl rfl)) (fun c17 v18 h19 hq20 => ?_)
  obtain ⟨e_v18, O21⟩ := hq20
  dsimp only at e_v18
  subst v18
  have O22 : Hold B h19 [(AV.ptr o_ 1 0 0, .pt 3 [Sl.enc c17.2.code, iv c17.2.pos, AV.sc (.int .u64 c17.2.seed)]), (AV.ptr o1 1 0 0, .pt 4 [iv 0, iv 0, iv 0, iv 0])] := O16.merge (i := 0) rfl rfl O21
  refine sim_let (v := iv (wr (c5.1 + c17.1))) (aBin_add _ _) ?_
  refine sim_gen he_spec_l00Src_pick (tg_spec_l00Src_pick c17.2 300 (O22.start (i := 0) rfl rfl)) (fun c23 v24 h25 hq26 => ?_)
  obtain ⟨e_v24, O27⟩ := hq26
  dsimp only at e_v24
  subst v24
  have O28 : Hold B h25 [(AV.ptr o_ 1 0 0, .pt 3 [Sl.enc c23.2.code, iv c23.2.pos, AV.sc (.int .u64 c23.2.seed)]), (AV.ptr o1 1 0 0, .pt 4 [iv 0, iv 0, iv 0, iv 0])] := O22.merge (i := 0) rfl rfl O27
  refine sim_let (v := iv (wr (c11.1 + c23.1))) (aBin_add _ _) ?_
  refine sim_let (v := AV.agg [iv c5.1, iv c11.1, iv (wr (c5.1 + c17.1)), iv (wr (c11.1 + c23.1))]) (by first | rfl | simp [aBuild, aFill, splice]) ?_
  refine sim_box O28 (cs := [iv 0, iv 0, iv 0, iv 0]) (by first | rfl | simp) (fun o29 h30 O31 => ?_)
  replace O31 : Hold B h30 [(AV.ptr o_ 1 0 0, .pt 3 [Sl.enc c23.2.code, iv c23.2.pos, AV.sc (.int .u64 c23.2.seed)]), (AV.ptr o1 1 0 0, .pt 4 [iv 0, iv 0, iv 0, iv 0]), (AV.ptr o29 1 0 0, .pt 4 [iv 0, iv 0, iv 0, iv 0])] := O31
  refine sim_store O31 2 (cs' := [iv c5.1, iv c11.1, iv (wr (c5.1 + c17.1)), iv (wr (c11.1 + c23.1))]) rfl (by first | rfl | simp) (by simp) (by first | rfl | simp) (by first | rfl | simp [splice]) (fun h33 O34 => ?_)
  replace O34 : Hold B h33 [(AV.ptr o_ 1 0 0, .pt 3 [Sl.enc c23.2.code, iv c23.2.pos, AV.sc (.int .u64 c23.2.seed)]), (AV.ptr o1 1 0 0, .pt 4 [iv 0, iv 0, iv 0, iv 0]), (AV.ptr o29 1 0 0, .pt 4 [iv c5.1, iv c11.1, iv (wr (c5.1 + c17.1)), iv (wr (c11.1 + c23.1))])] := O34
  refine sim_gen he_spec_l00Src_pick (tg_spec_l00Src_pick c23.2 16 (O34.start (i := 0) rfl rfl)) (fun c35 v36 h37 hq38 => ?_)
  obtain ⟨e_v36, O39⟩ := hq38
  dsimp only at e_v36
  subst v36
  have O40 : Hold B h37 [(AV.ptr o_ 1 0 0, .pt 3 [Sl.enc c35.2.code, iv c35.2.pos, AV.sc (.int .u64 c35.2.seed)]), (AV.ptr o1 1 0 0, .pt 4 [iv 0, iv 0, iv 0, iv 0]), (AV.ptr o29 1 0 0, .pt 4 [iv c5.1, iv c11.1, iv (wr (c5.1 + c17.1)), iv (wr (c11.1 + c23.1))])] := O34.merge (i := 0) rfl rfl O39
  refine sim_let (v := bv (decide (c35.1 = 0))) (aCmp_eq _ _) ?_
  refine sim_cond (fun c41 => ?_) (fun c41 => ?_)
  · refine sim_let (v := AV.ptr o29 1 0 2) rfl ?_
    refine sim_let (v := iv (wr (c5.1 + c17.1))) (O40.ld 2 rfl false 1 2) ?_
    refine sim_let (v := AV.ptr o29 1 0 2) rfl ?_
    refine sim_let (v := iv (wr (c5.1 + c17.1))) (O40.ld 2 rfl false 1 2) ?_
    refine sim_let (v := iv (wr ((wr (c5.1 + c17.1)) + 1))) (aBin_add _ _) ?_
    refine sim_build (A := Int) O40 ([(-1), wr (c5.1 + c17.1), wr ((wr (c5.1 + c17.1)) + 1)] : List Int) rfl (by first | rfl | simp [aFillRows, zrows]) rfl (fun x42 h43 O44 => ?_)
    replace O44 : Hold B h43 [(AV.ptr o_ 1 0 0, .pt 3 [Sl.enc c35.2.code, iv c35.2.pos, AV.sc (.int .u64 c35.2.seed)]), (AV.ptr o1 1 0 0, .pt 4 [iv 0, iv 0, iv 0, iv 0]), (AV.ptr o29 1 0 0, .pt 4 [iv c5.1, iv c11.1, iv (wr (c5.1 + c17.1)), iv (wr (c11.1 + c23.1))]), (x42, obS ((some ([(-1), wr (c5.1 + c17.1), wr ((wr (c5.1 + c17.1)) + 1)] : List Int)) : Sl Int))] := O44
    refine sim_gen he_spec_l00Src_among (tg_spec_l00Src_among c35.2 (some ([(-1), wr (c5.1 + c17.1), wr ((wr (c5.1 + c17.1)) + 1)] : List Int)) (O44.tabK (A := Int) (s := (some ([(-1), wr (c5.1 + c17.1), wr ((wr (c5.1 + c17.1)) + 1)] : List Int))) 3 0 rfl rfl rfl (by decide)) (O44.start (i := 0) rfl rfl)) (fun c46 v47 h48 hq49 => ?_)
    obtain ⟨e_v47, O50⟩ := hq49
    dsimp only at e_v47
    subst v47
    have O51 : Hold B h48 [(AV.ptr o_ 1 0 0, .pt 3 [Sl.enc c46.2.code, iv c46.2.pos, AV.sc (.int .u64 c46.2.seed)]), (AV.ptr o1 1 0 0, .pt 4 [iv 0, iv 0, iv 0, iv 0]), (AV.ptr o29 1 0 0, .pt 4 [iv c5.1, iv c11.1, iv (wr (c5.1 + c17.1)), iv (wr (c11.1 + c23.1))]), (x42, obS ((some ([(-1), wr (c5.1 + c17.1), wr ((wr (c5.1 + c17.1)) + 1)] : List Int)) : Sl Int))] := O44.merge (i := 0) rfl rfl O50
    refine sim_let (v := AV.ptr o29 1 0 0) rfl ?_
    refine sim_store O51 2 (cs' := [iv c46.1, iv c11.1, iv (wr (c5.1 + c17.1)), iv (wr (c11.1 + c23.1))]) rfl (by first | rfl | simp) (by simp) (by first | rfl | simp) (by first | rfl | simp [splice]) (fun h52 O53 => ?_)
    replace O53 : Hold B h52 [(AV.ptr o_ 1 0 0, .pt 3 [Sl.enc c46.2.code, iv c46.2.pos, AV.sc (.int .u64 c46.2.seed)]), (AV.ptr o1 1 0 0, .pt 4 [iv 0, iv 0, iv 0, iv 0]), (AV.ptr o29 1 0 0, .pt 4 [iv c46.1, iv c11.1, iv (wr (c5.1 + c17.1)), iv (wr (c11.1 + c23.1))]), (x42, obS ((some ([(-1), wr (c5.1 + c17.1), wr ((wr (c5.1 + c17.1)) + 1)] : List Int)) : Sl Int))] := O53
    refine sim_let (v := AV.agg [iv c46.1, iv c11.1, iv (wr (c5.1 + c17.1)), iv (wr (c11.1 + c23.1))]) (O53.ld 2 rfl true 4 0) ?_
    refine sim_store O53 1 (cs' := [iv c46.1, iv c11.1, iv (wr (c5.1 + c17.1)), iv (wr (c11.1 + c23.1))]) rfl (by first | rfl | simp) (by simp) (by first | rfl | simp) (by first | rfl | simp [splice]) (fun h54 O55 => ?_)
    replace O55 : Hold B h54 [(AV.ptr o_ 1 0 0, .pt 3 [Sl.enc c46.2.code, iv c46.2.pos, AV.sc (.int .u64 c46.2.seed)]), (AV.ptr o1 1 0 0, .pt 4 [iv c46.1, iv c11.1, iv (wr (c5.1 + c17.1)), iv (wr (c11.1 + c23.1))]), (AV.ptr o29 1 0 0, .pt 4 [iv c46.1, iv c11.1, iv (wr (c5.1 + c17.1)), iv (wr (c11.1 + c23.1))]), (x42, obS ((some ([(-1), wr (c5.1 + c17.1), wr ((wr (c5.1 + c17.1)) + 1)] : List Int)) : Sl Int))] := O55
    refine sim_retL (resL_c (v := AV.agg [iv c46.1, iv c11.1, iv (wr (c5.1 + c17.1)), iv (wr (c11.1 + c23.1))]) (O55.ld 1 rfl true 4 0) (resL_nil _)) ?_
    dsimp only [pack]
    have O56 : Hold B h54 [(AV.ptr o_ 1 0 0, .pt 3 [Sl.enc c46.2.code, iv c46.2.pos, AV.sc (.int .u64 c46.2.seed)])] := O55.sel [0] (by decide) rfl
    exact sim_ret ⟨rfl, O56⟩
  · refine sim_let (v := bv (decide (c35.1 = 1))) (aCmp_eq _ _) ?_
    refine sim_cond (fun c57 => ?_) (fun c57 => ?_)
    · refine sim_build (A := Int) O40 ([4095, 4096, (-1)] : List Int) rfl (by first | rfl | simp [aFillRows, zrows]) rfl (fun x58 h59 O60 => ?_)
      replace O60 : Hold B h59 [(AV.ptr o_ 1 0 0, .pt 3 [Sl.enc c35.2.code, iv c35.2.pos, AV.sc (.int .u64 c35.2.seed)]), (AV.ptr o1 1 0 0, .pt 4 [iv 0, iv 0, iv 0, iv 0]), (AV.ptr o29 1 0 0, .pt 4 [iv c5.1, iv c11.1, iv (wr (c5.1 + c17.1)), iv (wr (c11.1 + c23.1))]), (x58, obS ((some ([4095, 4096, (-1)] : List Int)) : Sl Int))] := O60
      refine sim_gen he_spec_l00Src_among (tg_spec_l00Src_among c35.2 (some ([4095, 4096, (-1)] : List Int)) (O60.tabK (A := Int) (s := (some ([4095, 4096, (-1)] : List Int))) 3 0 rfl rfl rfl (by decide)) (O60.start (i := 0) rfl rfl)) (fun c62 v63 h64 hq65 => ?_)
      obtain ⟨e_v63, O66⟩ := hq65
      dsimp only at e_v63
      subst v63
      have O67 : Hold B h64 [(AV.ptr o_ 1 0 0, .pt 3 [Sl.enc c62.2.code, iv c62.2.pos, AV.sc (.int .u64 c62.2.seed)]), (AV.ptr o1 1 0 0, .pt 4 [iv 0, iv 0, iv 0, iv 0]), (AV.ptr o29 1 0 0, .pt 4 [iv c5.1, iv c11.1, iv (wr (c5.1 + c17.1)), iv (wr (c11.1 + c23.1))]), (x58, obS ((some ([4095, 4096, (-1)] : List Int)) : Sl Int))] := O60.merge (i := 0) rfl rfl O66
      refine sim_let (v := AV.ptr o29 1 0 3) rfl ?_
      refine sim_store O67 2 (cs' := [iv c5.1, iv c11.1, iv (wr (c5.1 + c17.1)), iv c62.1]) rfl (by first | rfl | simp) (by simp) (by first | rfl | simp) (by first | rfl | simp [splice]) (fun h68 O69 => ?_)
      replace O69 : Hold B h68 [(AV.ptr o_ 1 0 0, .pt 3 [Sl.enc c62.2.code, iv c62.2.pos, AV.sc (.int .u64 c62.2.seed)]), (AV.ptr o1 1 0 0, .pt 4 [iv 0, iv 0, iv 0, iv 0]), (AV.ptr o29 1 0 0, .pt 4 [iv c5.1, iv c11.1, iv (wr (c5.1 + c17.1)), iv c62.1]), (x58, obS ((some ([4095, 4096, (-1)] : List Int)) : Sl Int))] := O69
      refine sim_let (v := AV.agg [iv c5.1, iv c11.1, iv (wr (c5.1 + c17.1)), iv c62.1]) (O69.ld 2 rfl true 4 0) ?_
      refine sim_store O69 1 (cs' := [iv c5.1, iv c11.1, iv (wr (c5.1 + c17.1)), iv c62.1]) rfl (by first | rfl | simp) (by simp) (by first | rfl | simp) (by first | rfl | simp [splice]) (fun h70 O71 => ?_)
      replace O71 : Hold B h70 [(AV.ptr o_ 1 0 0, .pt 3 [Sl.enc c62.2.code, iv c62.2.pos, AV.sc (.int .u64 c62.2.seed)]), (AV.ptr o1 1 0 0, .pt 4 [iv c5.1, iv c11.1, iv (wr (c5.1 + c17.1)), iv c62.1]), (AV.ptr o29 1 0 0, .pt 4 [iv c5.1, iv c11.1, iv (wr (c5.1 + c17.1)), iv c62.1]), (x58, obS ((some ([4095, 4096, (-1)] : List Int)) : Sl Int))] := O71
      refine sim_retL (resL_c (v := AV.agg [iv c5.1, iv c11.1, iv (wr (c5.1 + c17.1)), iv c62.1]) (O71.ld 1 rfl true 4 0) (resL_nil _)) ?_
      dsimp only [pack]
      have O72 : Hold B h70 [(AV.ptr o_ 1 0 0, .pt 3 [Sl.enc c62.2.code, iv c62.2.pos, AV.sc (.int .u64 c62.2.seed)])] := O71.sel [0] (by decide) rfl
      exact sim_ret ⟨rfl, O72⟩
    · refine sim_let (v := AV.agg [iv c5.1, iv c11.1, iv (wr (c5.1 + c17.1)), iv (wr (c11.1 + c23.1))]) (O40.ld 2 rfl true 4 0) ?_
      refine sim_store O40 1 (cs' := [iv c5.1, iv c11.1, iv (wr (c5.1 + c17.1)), iv (wr (c11.1 + c23.1))]) rfl (by first | rfl | simp) (by simp) (by first | rfl | simp) (by first | rfl | simp [splice]) (fun h73 O74 => ?_)
      replace O74 : Hold B h73 [(AV.ptr o_ 1 0 0, .pt 3 [Sl.enc c35.2.code, iv c35.2.pos, AV.sc (.int .u64 c35.2.seed)]), (AV.ptr o1 1 0 0, .pt 4 [iv c5.1, iv c11.1, iv (wr (c5.1 + c17.1)), iv (wr (c11.1 + c23.1))]), (AV.ptr o29 1 0 0, .pt 4 [iv c5.1, iv c11.1, iv (wr (c5.1 + c17.1)), iv (wr (c11.1 + c23.1))])] := O74
      refine sim_retL (resL_c (v := AV.agg [iv c5.1, iv c11.1, iv (wr (c5.1 + c17.1)), iv (wr (c11.1 + c23.1))]) (O74.ld 1 rfl true 4 0) (resL_nil _)) ?_
      dsimp only [pack]
      have O75 : Hold B h73 [(AV.ptr o_ 1 0 0, .pt 3 [Sl.enc c35.2.code, iv c35.2.pos, AV.sc (.int .u64 c35.2.seed)])] := O74.sel [0] (by decide) rfl
      exact sim_ret ⟨rfl, O75⟩
noncomputable def ev_spec_l02DrawBox : Nat → Contract := envL [(n_spec_l00Src_among, .gen (denFn Try.prog ev_spec_l00Src_among n_spec_l00Src_among)), (n_spec_l00Src_pick, .gen (denFn Try.prog ev_spec_l00Src_pick n_spec_l00Src_pick))]
theorem eo_spec_l02DrawBox : EnvOK Try.prog ev_spec_l02DrawBox := (EconsG (gen_of_den eo_spec_l00Src_among mixed hb_spec_l00Src_among) (EconsG (gen_of_den eo_spec_l00Src_pick mixed hb_spec_l00Src_pick) E0))
theorem tg_spec_l02DrawBox {B : Base} {h : Heap} {o_ : Nat} (s_ : l00Src) (O : Hold B h [(AV.ptr o_ 1 0 0, .pt 3 [Sl.enc s_.code, iv s_.pos, AV.sc (.int .u64 s_.seed)])]) : Sim (denFn Try.prog ev_spec_l02DrawBox n_spec_l02DrawBox [AV.ptr o_ 1 0 0] h) (t_spec_l02DrawBox s_) (fun c p => p.1 = AV.agg [iv c.1.x1, iv c.1.y1, iv c.1.x2, iv c.1.y2] ∧ Hold B p.2 ([(AV.ptr o_ 1 0 0, .pt 3 [Sl.enc c.2.code, iv c.2.pos, AV.sc (.int .u64 c.2.seed)])])) := ts_spec_l02DrawBox ev_spec_l02DrawBox (by simp [ev_spec_l02DrawBox, envL]) (by simp [ev_spec_l02DrawBox, envL]) s_  O

def t_spec_DrawNormalSpots (code_ : Sl UInt8) : Option ((Sl Spot) × Box) :=
  obind (t_spec_l07Spots (⟨code_, 0, 0⟩ : l00Src)) fun c9 =>
  obind (t_spec_BoxOfSpots c9.1) fun c17 =>
  bif !decide (c17.2 = 0) then
    obind (t_spec_l02DrawBox c9.2) fun c32 =>
    some (c9.1, c32.1)
  else
    obind (t_spec_l00Src_one c9.2 10) fun c41 =>
    bif (bif !decide (c17.2 = 0) then true else c41.1) then
      obind (t_spec_l02DrawBox c41.2) fun c48 =>
      some (c9.1, c48.1)
    else
      obind (t_spec_l00Src_one c41.2 3) fun c57 =>
      bif c57.1 then
        obind (t_spec_l00Src_pick c57.2 50) fun c64 =>
        obind (some ((fun a b : Int => min a b) 4095 (wr (c17.1.x2 + c64.1)))) fun c70 =>
        obind (t_spec_l00Src_one c64.2 3) fun c73 =>
        bif c73.1 then
          obind (t_spec_l00Src_pick c73.2 50) fun c80 =>
          obind (some ((fun a b : Int => max a b) 0 (wr (c17.1.y1 - c80.1)))) fun c86 =>
          some (c9.1, (⟨c17.1.x1, c86, c70, c17.1.y2⟩ : Box))
        else
          some (c9.1, (⟨c17.1.x1, c17.1.y1, c70, c17.1.y2⟩ : Box))
      else
        obind (t_spec_l00Src_one c57.2 3) fun c95 =>
        bif c95.1 then
          obind (t_spec_l00Src_pick c95.2 50) fun c102 =>
          obind (some ((fun a b : Int => max a b) 0 (wr (c17.1.y1 - c102.1)))) fun c108 =>
          some (c9.1, (⟨c17.1.x1, c108, c17.1.x2, c17.1.y2⟩ : Box))
        else
          some (c9.1, c17.1)

end Go.Proofs.Ytdikndbpcceogaa
