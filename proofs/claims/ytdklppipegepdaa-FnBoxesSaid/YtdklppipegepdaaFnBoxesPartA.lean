/-
  Functions that the law FnBoxes reaches: their walks and contracts, part 1.
-/
import Derived.Test.YtdklppipegepdaaFnBoxesGen
namespace Go.Proofs.Ytdklppipegepdaa
open Go Go.Eng Go.Eng.Cod
set_option maxRecDepth 100000
set_option linter.unusedVariables false
set_option linter.unusedSimpArgs false

theorem nil_ok : EnvOK Try.prog (envL []) := E0

def within (a b c : Int) : Bool := decide (b ≤ a) && decide (a ≤ c)

theorem ok_impl_within : PureOK Try.prog n_impl_within (T3 within) := pureT3 nil_ok mixed hb_impl_within fun a b c => by
  simp [e_impl_within, within]

theorem ok_spec_l00Min : PureOK Try.prog n_spec_l00Min (T2 fun a b : Int => min a b) := pureT2 nil_ok mixed hb_spec_l00Min fun a b => by
  simp [e_spec_l00Min, minI]

theorem ok_spec_l00Max : PureOK Try.prog n_spec_l00Max (T2 fun a b : Int => max a b) := pureT2 nil_ok mixed hb_spec_l00Max fun a b => by
  simp [e_spec_l00Max, maxI]

def validBox (b : Box) : Bool := within b.x1 0 b.x2 && within b.y1 0 b.y2 && decide (b.x2 ≤ 4095) && decide (b.y2 ≤ 4095)

theorem ok_impl_ValidBox : PureOK Try.prog n_impl_ValidBox (T1 validBox) :=
  pureT1 (E1 ok_impl_within) mixed hb_impl_ValidBox fun b => by
  simp [e_impl_ValidBox, envL, aBox, aLoad, cut, validBox]

theorem ok_impl_isCoord : PureOK Try.prog n_impl_isCoord (T1 fun y => within y 0 4095) := pureT1 (E1 ok_impl_within) mixed hb_impl_isCoord fun y => by
  simp [e_impl_isCoord, envL]

def joinBox (a b : Box) : Box := ⟨min a.x1 b.x1, min a.y1 b.y1, max a.x2 b.x2, max a.y2 b.y2⟩
theorem ok_impl_joinBoxes : PureOK Try.prog n_impl_joinBoxes (T2 joinBox) := pureT2 E0 mixed hb_impl_joinBoxes fun a b => by
  simp [e_impl_joinBoxes, aBox, aLoad, cut, aStore, splice, aBuild, aFill, retL, resL, pack, joinBox]

/-- The source of draws: how far it has read, its seed. -/
structure SS where
  at_ : Nat
  w : Int
def srow (q : Sl UInt8) (st : SS) : AObj := ⟨3, [[Sl.enc q, iv (st.at_ : Int), .sc (.int .u64 st.w)]]⟩
theorem store_head (s j k : Nat) (v : AV) (row : List AV) (t : Heap) (h1 : v.cells.length = s) (h2 : j + s ≤ row.length) (h3 : v.cells.all AV.flat = true) : aStore s (.ptr 0 1 0 j) v (⟨k, [row]⟩ :: t) = some (⟨k, [splice row j v.cells]⟩ :: t) := by
  simp only [aStore, List.getElem?_cons_zero, List.length_cons, List.length_nil, Nat.zero_add, if_true]
  rw [if_pos ⟨h1, h2, h3⟩]
  rfl
theorem v_mul (a b : Int) : aBin .mul (.sc (.int .u64 a)) (.sc (.int .u64 b)) = some (.sc (.int .u64 (IntKind.u64.wrap (a * b)))) := (rfl)
theorem v_add (a b : Int) : aBin .add (.sc (.int .u64 a)) (.sc (.int .u64 b)) = some (.sc (.int .u64 (IntKind.u64.wrap (a + b)))) := (rfl)
theorem v_shr40 (a : Int) : aBin .shr (.sc (.int .u64 a)) (.sc (.int .u64 40)) = some (.sc (.int .u64 (a.fdiv (2 ^ 40)))) := (rfl)
theorem v_conv (a : Int) : aConvInt .u64 (iv a) = some (.sc (.int .u64 (IntKind.u64.wrap a))) := (rfl)
theorem v_back (a : Int) : aConvInt .i64 (.sc (.int .u64 a)) = some (iv (wr a)) := (rfl)
theorem v_byte (b : UInt8) : aConvInt .i64 (bt b) = some (iv (b.toNat : Nat)) := by
  have h0 : aConvInt .i64 (bt b) = some (iv (wr (b.toNat : Int))) := rfl
  have := b.toNat_lt
  rw [h0, wr_id (by omega) (by omega)]
theorem v_and (a : Int) : ∃ r : Nat, r ≤ 255 ∧ aBin .and (.sc (.int .u64 a)) (.sc (.int .u64 255)) = some (.sc (.int .u64 (r : Int))) := by
  have h0 : aBin .and (.sc (.int .u64 a)) (.sc (.int .u64 255)) = some (.sc (.int .u64 (IntKind.u64.wrap ((BitVec.ofInt 64 a &&& BitVec.ofInt 64 255).toNat : Nat)))) := rfl
  have h1 : (BitVec.ofInt 64 a &&& BitVec.ofInt 64 255).toNat ≤ 255 := by
    rw [BitVec.toNat_and]
    have : (BitVec.ofInt 64 255).toNat = 255 := by decide
    rw [this]
    exact Nat.and_le_right
  refine ⟨(BitVec.ofInt 64 a &&& BitVec.ofInt 64 255).toNat, h1, ?_⟩
  rw [h0]
  generalize (BitVec.ofInt 64 a &&& BitVec.ofInt 64 255).toNat = r at h1
  congr 3
  simp only [IntKind.wrap, IntKind.bits, IntKind.signed]
  simp only [Bool.false_and, Bool.false_eq_true, if_false]
  omega

/-- What 'l00From' hands out. -/
def fromA (q : Sl UInt8) : AV := .np 3 [[Sl.enc q, iv 0, .sc (.int .u64 0)]] 0 0
theorem ok_spec_l00From : PureOK Try.prog n_spec_l00From (R1 fun q : Sl UInt8 => some (fromA q)) := pureR1 E0 mixed hb_spec_l00From fun q r h => by
  cases h
  apply pureG
  rw [e_spec_l00From]
  cases q <;> rfl
theorem hand_from (q : Sl UInt8) (h : Heap) : hand (fromA q) (noRef depth (Sl.enc q)) h = some (.ptr h.length 1 0 0, h ++ [srow q ⟨0, 0⟩]) := by
  cases q <;> rfl

theorem tt_spec_l00From : PureOK Try.prog n_spec_l00From (C1 fromA (fun q : Sl UInt8 => some q)) := pureR1 E0 mixed hb_spec_l00From fun q r h => by
  cases h
  apply pureG
  rw [e_spec_l00From]
  cases q <;> rfl

def t_laws_a2Long (code_ : Sl UInt8) (more_ : Sl UInt8) : Option Bool :=
  obind (bif decide (3000 < (((code_.getD []).length : Nat) : Int)) then some false else (some (decide (3000 < (((more_.getD []).length : Nat) : Int))))) fun c2 =>
  some (bif decide (3000 < (((code_.getD []).length : Nat) : Int)) then true else c2)

theorem ts_laws_a2Long (env : Nat → Contract)  (code_ : Sl UInt8) (more_ : Sl UInt8) : Sim (denFn Try.prog env n_laws_a2Long [Sl.enc code_, Sl.enc more_] []) (t_laws_a2Long code_ more_) fun c p => release p.2 depth p.1 = some ((fun c : Bool => enc c) c) := by
  have O := Hold.nil []
  generalize hB : (⟨[], []⟩ : Base) = B at O
  clear hB
  rw [e_laws_a2Long]
  unfold t_laws_a2Long
  refine sim_let (v := iv (((code_.getD []).length : Nat) : Int)) (Tab.enc [] code_).len ?_
  refine sim_let (v := bv (decide (3000 < (((code_.getD []).length : Nat) : Int)))) (aBin_gtr _ _) ?_
  refine sim_guardF (e := bv) (fun hb1 => ?_) (fun c2 => ?_)
  · refine sim_let (v := iv (((more_.getD []).length : Nat) : Int)) (Tab.enc [] more_).len ?_
    refine sim_let (v := bv (decide (3000 < (((more_.getD []).length : Nat) : Int)))) (aBin_gtr _ _) ?_
    exact sim_ret rfl
  · refine sim_let (v := bv (bif decide (3000 < (((code_.getD []).length : Nat) : Int)) then true else c2)) (pick_b' _ _ _) ?_
    exact sim_ret (release_plain (by rfl) _)
theorem tt_laws_a2Long : PureOK Try.prog n_laws_a2Long (C2 (fun c : Bool => enc c) t_laws_a2Long) := pureC2 E0 mixed hb_laws_a2Long fun code_ more_ => ts_laws_a2Long _  code_ more_

def t_spec_l00Src_next (s_ : l00Src) : Option (Int × l00Src) :=
  bif decide (s_.pos < (((s_.code.getD []).length : Nat) : Int)) then
    obind (getI (s_.code.getD []) s_.pos) fun a2 =>
    bif decide ((wr (s_.pos + 1)) ≤ (((s_.code.getD []).length : Nat) : Int)) then
      some ((a2.toNat : Int), (⟨s_.code, wr (s_.pos + 1), IntKind.u64.wrap ((IntKind.u64.wrap ((IntKind.u64.wrap (s_.seed * 6364136223846793005)) + (IntKind.u64.wrap (a2.toNat : Int)))) + 1442695040888963407)⟩ : l00Src))
    else
      some (wr (IntKind.u64.wrap ((BitVec.ofInt 64 (Int.fdiv (IntKind.u64.wrap ((IntKind.u64.wrap ((IntKind.u64.wrap (s_.seed * 6364136223846793005)) + (IntKind.u64.wrap (a2.toNat : Int)))) + 1442695040888963407)) (2 ^ 40)) &&& BitVec.ofInt 64 255).toNat : Nat)), (⟨s_.code, wr (s_.pos + 1), IntKind.u64.wrap ((IntKind.u64.wrap ((IntKind.u64.wrap (s_.seed * 6364136223846793005)) + (IntKind.u64.wrap (a2.toNat : Int)))) + 1442695040888963407)⟩ : l00Src))
  else
    bif decide ((wr (s_.pos + 1)) ≤ (((s_.code.getD []).length : Nat) : Int)) then
      some (0, (⟨s_.code, wr (s_.pos + 1), IntKind.u64.wrap ((IntKind.u64.wrap ((IntKind.u64.wrap (s_.seed * 6364136223846793005)) + (IntKind.u64.wrap 0))) + 1442695040888963407)⟩ : l00Src))
    else
      some (wr (IntKind.u64.wrap ((BitVec.ofInt 64 (Int.fdiv (IntKind.u64.wrap ((IntKind.u64.wrap ((IntKind.u64.wrap (s_.seed * 6364136223846793005)) + (IntKind.u64.wrap 0))) + 1442695040888963407)) (2 ^ 40)) &&& BitVec.ofInt 64 255).toNat : Nat)), (⟨s_.code, wr (s_.pos + 1), IntKind.u64.wrap ((IntKind.u64.wrap ((IntKind.u64.wrap (s_.seed * 6364136223846793005)) + (IntKind.u64.wrap 0))) + 1442695040888963407)⟩ : l00Src))

theorem ts_spec_l00Src_next (env : Nat → Contract)  {B : Base} {h : Heap} {o_ : Nat} (s_ : l00Src) (O : Hold B h [(AV.ptr o_ 1 0 0, .pt 3 [Sl.enc s_.code, iv s_.pos, AV.sc (.int .u64 s_.seed)])]) : Sim (denFn Try.prog env n_spec_l00Src_next [AV.ptr o_ 1 0 0] h) (t_spec_l00Src_next s_) (fun c p => p.1 = iv c.1 ∧ Hold B p.2 ([(AV.ptr o_ 1 0 0, .pt 3 [Sl.enc c.2.code, iv c.2.pos, AV.sc (.int .u64 c.2.seed)])])) := by
  rw [e_spec_l00Src_next]
  unfold t_spec_l00Src_next
  refine sim_let (v := AV.ptr o_ 1 0 0) rfl ?_
  refine sim_let (v := AV.ptr o_ 1 0 1) rfl ?_
  refine sim_let (v := iv s_.pos) (O.ld 0 rfl false 1 1) ?_
  refine sim_let (v := AV.ptr o_ 1 0 0) rfl ?_
  refine sim_let (v := AV.ptr o_ 1 0 0) rfl ?_
  refine sim_let (v := Sl.enc s_.code) (O.ld 0 rfl false 1 0) ?_
  refine sim_let (v := iv (((s_.code.getD []).length : Nat) : Int)) (Tab.enc h s_.code).len ?_
  refine sim_let (v := bv (decide (s_.pos < (((s_.code.getD []).length : Nat) : Int)))) (aBin_lss _ _) ?_
  refine sim_cond (fun c1 => ?_) (fun c1 => ?_)
  · refine sim_let (v := AV.ptr o_ 1 0 0) rfl ?_
    refine sim_let (v := AV.ptr o_ 1 0 0) rfl ?_
    refine sim_let (v := Sl.enc s_.code) (O.ld 0 rfl false 1 0) ?_
    refine sim_let (v := AV.ptr o_ 1 0 0) rfl ?_
    refine sim_let (v := AV.ptr o_ 1 0 1) rfl ?_
    refine sim_let (v := iv s_.pos) (O.ld 0 rfl false 1 1) ?_
    refine sim_get (Tab.enc h s_.code) (fun m3 a2 hi4 hm5 => ?_)
    refine sim_let (v := bt a2) ((Tab.enc h s_.code).ld hm5 false 1 0) ?_
    refine sim_let (v := iv (a2.toNat : Int)) (conv_byte _) ?_
    refine sim_let (v := AV.ptr o_ 1 0 0) rfl ?_
    refine sim_let (v := AV.ptr o_ 1 0 1) rfl ?_
    refine sim_let (v := iv s_.pos) (O.ld 0 rfl false 1 1) ?_
    refine sim_let (v := iv (wr (s_.pos + 1))) (aBin_add _ _) ?_
    refine sim_let (v := AV.ptr o_ 1 0 0) rfl ?_
    refine sim_let (v := AV.ptr o_ 1 0 1) rfl ?_
    refine sim_store O 0 (cs' := [Sl.enc s_.code, iv (wr (s_.pos + 1)), AV.sc (.int .u64 s_.seed)]) rfl (by first | rfl | simp) (by simp) (by first | rfl | simp) (by first | rfl | simp [splice]) (fun h6 O7 => ?_)
    replace O7 : Hold B h6 [(AV.ptr o_ 1 0 0, .pt 3 [Sl.enc s_.code, iv (wr (s_.pos + 1)), AV.sc (.int .u64 s_.seed)])] := O7
    refine sim_let (v := AV.ptr o_ 1 0 0) rfl ?_
    refine sim_let (v := AV.ptr o_ 1 0 2) rfl ?_
    refine sim_let (v := AV.sc (.int .u64 s_.seed)) (O7.ld 0 rfl false 1 2) ?_
    refine sim_let (v := AV.sc (.int .u64 (IntKind.u64.wrap (s_.seed * 6364136223846793005)))) rfl ?_
    refine sim_let (v := AV.sc (.int .u64 (IntKind.u64.wrap (a2.toNat : Int)))) rfl ?_
    refine sim_let (v := AV.sc (.int .u64 (IntKind.u64.wrap ((IntKind.u64.wrap (s_.seed * 6364136223846793005)) + (IntKind.u64.wrap (a2.toNat : Int)))))) rfl ?_
    refine sim_let (v := AV.sc (.int .u64 (IntKind.u64.wrap ((IntKind.u64.wrap ((IntKind.u64.wrap (s_.seed * 6364136223846793005)) + (IntKind.u64.wrap (a2.toNat : Int)))) + 1442695040888963407)))) rfl ?_
    refine sim_let (v := AV.ptr o_ 1 0 0) rfl ?_
    refine sim_let (v := AV.ptr o_ 1 0 2) rfl ?_
    refine sim_store O7 0 (cs' := [Sl.enc s_.code, iv (wr (s_.pos + 1)), AV.sc (.int .u64 (IntKind.u64.wrap ((IntKind.u64.wrap ((IntKind.u64.wrap (s_.seed * 6364136223846793005)) + (IntKind.u64.wrap (a2.toNat : Int)))) + 1442695040888963407)))]) rfl (by first | rfl | simp) (by simp) (by first | rfl | simp) (by first | rfl | simp [splice]) (fun h8 O9 => ?_)
    replace O9 : Hold B h8 [(AV.ptr o_ 1 0 0, .pt 3 [Sl.enc s_.code, iv (wr (s_.pos + 1)), AV.sc (.int .u64 (IntKind.u64.wrap ((IntKind.u64.wrap ((IntKind.u64.wrap (s_.seed * 6364136223846793005)) + (IntKind.u64.wrap (a2.toNat : Int)))) + 1442695040888963407)))])] := O9
    refine sim_let (v := AV.ptr o_ 1 0 0) rfl ?_
    refine sim_let (v := AV.ptr o_ 1 0 1) rfl ?_
    refine sim_let (v := iv (wr (s_.pos + 1))) (O9.ld 0 rfl false 1 1) ?_
    refine sim_let (v := AV.ptr o_ 1 0 0) rfl ?_
    refine sim_let (v := AV.ptr o_ 1 0 0) rfl ?_
    refine sim_let (v := Sl.enc s_.code) (O9.ld 0 rfl false 1 0) ?_
    refine sim_let (v := iv (((s_.code.getD []).length : Nat) : Int)) (Tab.enc h8 s_.code).len ?_
    refine sim_let (v := bv (decide ((wr (s_.pos + 1)) ≤ (((s_.code.getD []).length : Nat) : Int)))) (aBin_leq _ _) ?_
    refine sim_cond (fun c10 => ?_) (fun c10 => ?_)
    · exact sim_ret ⟨rfl, O9⟩
    · refine sim_let (v := AV.ptr o_ 1 0 0) rfl ?_
      refine sim_let (v := AV.ptr o_ 1 0 2) rfl ?_
      refine sim_let (v := AV.sc (.int .u64 (IntKind.u64.wrap ((IntKind.u64.wrap ((IntKind.u64.wrap (s_.seed * 6364136223846793005)) + (IntKind.u64.wrap (a2.toNat : Int)))) + 1442695040888963407)))) (O9.ld 0 rfl false 1 2) ?_
      refine sim_let (v := AV.sc (.int .u64 (Int.fdiv (IntKind.u64.wrap ((IntKind.u64.wrap ((IntKind.u64.wrap (s_.seed * 6364136223846793005)) + (IntKind.u64.wrap (a2.toNat : Int)))) + 1442695040888963407)) (2 ^ 40)))) rfl ?_
      refine sim_let (v := AV.sc (.int .u64 (IntKind.u64.wrap ((BitVec.ofInt 64 (Int.fdiv (IntKind.u64.wrap ((IntKind.u64.wrap ((IntKind.u64.wrap (s_.seed * 6364136223846793005)) + (IntKind.u64.wrap (a2.toNat : Int)))) + 1442695040888963407)) (2 ^ 40)) &&& BitVec.ofInt 64 255).toNat : Nat)))) rfl ?_
      refine sim_let (v := iv (wr (IntKind.u64.wrap ((BitVec.ofInt 64 (Int.fdiv (IntKind.u64.wrap ((IntKind.u64.wrap ((IntKind.u64.wrap (s_.seed * 6364136223846793005)) + (IntKind.u64.wrap (a2.toNat : Int)))) + 1442695040888963407)) (2 ^ 40)) &&& BitVec.ofInt 64 255).toNat : Nat)))) rfl ?_
      exact sim_ret ⟨rfl, O9⟩
  · refine sim_let (v := AV.ptr o_ 1 0 0) rfl ?_
    refine sim_let (v := AV.ptr o_ 1 0 1) rfl ?_
    refine sim_let (v := iv s_.pos) (O.ld 0 rfl false 1 1) ?_
    refine sim_let (v := iv (wr (s_.pos + 1))) (aBin_add _ _) ?_
    refine sim_let (v := AV.ptr o_ 1 0 0) rfl ?_
    refine sim_let (v := AV.ptr o_ 1 0 1) rfl ?_
    refine sim_store O 0 (cs' := [Sl.enc s_.code, iv (wr (s_.pos + 1)), AV.sc (.int .u64 s_.seed)]) rfl (by first | rfl | simp) (by simp) (by first | rfl | simp) (by first | rfl | simp [splice]) (fun h13 O14 => ?_)
    replace O14 : Hold B h13 [(AV.ptr o_ 1 0 0, .pt 3 [Sl.enc s_.code, iv (wr (s_.pos + 1)), AV.sc (.int .u64 s_.seed)])] := O14
    refine sim_let (v := AV.ptr o_ 1 0 0) rfl ?_
    refine sim_let (v := AV.ptr o_ 1 0 2) rfl ?_
    refine sim_let (v := AV.sc (.int .u64 s_.seed)) (O14.ld 0 rfl false 1 2) ?_
    refine sim_let (v := AV.sc (.int .u64 (IntKind.u64.wrap (s_.seed * 6364136223846793005)))) rfl ?_
    refine sim_let (v := AV.sc (.int .u64 (IntKind.u64.wrap 0))) rfl ?_
    refine sim_let (v := AV.sc (.int .u64 (IntKind.u64.wrap ((IntKind.u64.wrap (s_.seed * 6364136223846793005)) + (IntKind.u64.wrap 0))))) rfl ?_
    refine sim_let (v := AV.sc (.int .u64 (IntKind.u64.wrap ((IntKind.u64.wrap ((IntKind.u64.wrap (s_.seed * 6364136223846793005)) + (IntKind.u64.wrap 0))) + 1442695040888963407)))) rfl ?_
    refine sim_let (v := AV.ptr o_ 1 0 0) rfl ?_
    refine sim_let (v := AV.ptr o_ 1 0 2) rfl ?_
    refine sim_store O14 0 (cs' := [Sl.enc s_.code, iv (wr (s_.pos + 1)), AV.sc (.int .u64 (IntKind.u64.wrap ((IntKind.u64.wrap ((IntKind.u64.wrap (s_.seed * 6364136223846793005)) + (IntKind.u64.wrap 0))) + 1442695040888963407)))]) rfl (by first | rfl | simp) (by simp) (by first | rfl | simp) (by first | rfl | simp [splice]) (fun h15 O16 => ?_)
    replace O16 : Hold B h15 [(AV.ptr o_ 1 0 0, .pt 3 [Sl.enc s_.code, iv (wr (s_.pos + 1)), AV.sc (.int .u64 (IntKind.u64.wrap ((IntKind.u64.wrap ((IntKind.u64.wrap (s_.seed * 6364136223846793005)) + (IntKind.u64.wrap 0))) + 1442695040888963407)))])] := O16
    refine sim_let (v := AV.ptr o_ 1 0 0) rfl ?_
    refine sim_let (v := AV.ptr o_ 1 0 1) rfl ?_
    refine sim_let (v := iv (wr (s_.pos + 1))) (O16.ld 0 rfl false 1 1) ?_
    refine sim_let (v := AV.ptr o_ 1 0 0) rfl ?_
    refine sim_let (v := AV.ptr o_ 1 0 0) rfl ?_
    refine sim_let (v := Sl.enc s_.code) (O16.ld 0 rfl false 1 0) ?_
    refine sim_let (v := iv (((s_.code.getD []).length : Nat) : Int)) (Tab.enc h15 s_.code).len ?_
    refine sim_let (v := bv (decide ((wr (s_.pos + 1)) ≤ (((s_.code.getD []).length : Nat) : Int)))) (aBin_leq _ _) ?_
    refine sim_cond (fun c17 => ?_) (fun c17 => ?_)
    · exact sim_ret ⟨rfl, O16⟩
    · refine sim_let (v := AV.ptr o_ 1 0 0) rfl ?_
      refine sim_let (v := AV.ptr o_ 1 0 2) rfl ?_
      refine sim_let (v := AV.sc (.int .u64 (IntKind.u64.wrap ((IntKind.u64.wrap ((IntKind.u64.wrap (s_.seed * 6364136223846793005)) + (IntKind.u64.wrap 0))) + 1442695040888963407)))) (O16.ld 0 rfl false 1 2) ?_
      refine sim_let (v := AV.sc (.int .u64 (Int.fdiv (IntKind.u64.wrap ((IntKind.u64.wrap ((IntKind.u64.wrap (s_.seed * 6364136223846793005)) + (IntKind.u64.wrap 0))) + 1442695040888963407)) (2 ^ 40)))) rfl ?_
      refine sim_let (v := AV.sc (.int .u64 (IntKind.u64.wrap ((BitVec.ofInt 64 (Int.fdiv (IntKind.u64.wrap ((IntKind.u64.wrap ((IntKind.u64.wrap (s_.seed * 6364136223846793005)) + (IntKind.u64.wrap 0))) + 1442695040888963407)) (2 ^ 40)) &&& BitVec.ofInt 64 255).toNat : Nat)))) rfl ?_
      refine sim_let (v := iv (wr (IntKind.u64.wrap ((BitVec.ofInt 64 (Int.fdiv (IntKind.u64.wrap ((IntKind.u64.wrap ((IntKind.u64.wrap (s_.seed * 6364136223846793005)) + (IntKind.u64.wrap 0))) + 1442695040888963407)) (2 ^ 40)) &&& BitVec.ofInt 64 255).toNat : Nat)))) rfl ?_
      exact sim_ret ⟨rfl, O16⟩
noncomputable def ev_spec_l00Src_next : Nat → Contract := envL []
theorem eo_spec_l00Src_next : EnvOK Try.prog ev_spec_l00Src_next := E0
theorem tg_spec_l00Src_next {B : Base} {h : Heap} {o_ : Nat} (s_ : l00Src) (O : Hold B h [(AV.ptr o_ 1 0 0, .pt 3 [Sl.enc s_.code, iv s_.pos, AV.sc (.int .u64 s_.seed)])]) : Sim (denFn Try.prog ev_spec_l00Src_next n_spec_l00Src_next [AV.ptr o_ 1 0 0] h) (t_spec_l00Src_next s_) (fun c p => p.1 = iv c.1 ∧ Hold B p.2 ([(AV.ptr o_ 1 0 0, .pt 3 [Sl.enc c.2.code, iv c.2.pos, AV.sc (.int .u64 c.2.seed)])])) := ts_spec_l00Src_next ev_spec_l00Src_next  s_  O

def t_spec_l00Src_pick (s_ : l00Src) (n_ : Int) : Option (Int × l00Src) :=
  bif decide (n_ ≤ 1) then
    some (0, (⟨s_.code, s_.pos, s_.seed⟩ : l00Src))
  else
    obind (t_spec_l00Src_next s_) fun c3 =>
    bif decide (200 < n_) then
      obind (t_spec_l00Src_next c3.2) fun c10 =>
      obind (remI (wr ((wr (c3.1 * 256)) + c10.1)) n_) fun q16 =>
      some (q16, (⟨c10.2.code, c10.2.pos, c10.2.seed⟩ : l00Src))
    else
      obind (remI c3.1 n_) fun q18 =>
      some (q18, (⟨c3.2.code, c3.2.pos, c3.2.seed⟩ : l00Src))

theorem ts_spec_l00Src_pick (env : Nat → Contract) (he_spec_l00Src_next : env n_spec_l00Src_next = .gen (denFn Try.prog ev_spec_l00Src_next n_spec_l00Src_next)) {B : Base} {h : Heap} {o_ : Nat} (s_ : l00Src) (n_ : Int) (O : Hold B h [(AV.ptr o_ 1 0 0, .pt 3 [Sl.enc s_.code, iv s_.pos, AV.sc (.int .u64 s_.seed)])]) : Sim (denFn Try.prog env n_spec_l00Src_pick [AV.ptr o_ 1 0 0, iv n_] h) (t_spec_l00Src_pick s_ n_) (fun c p => p.1 = iv c.1 ∧ Hold B p.2 ([(AV.ptr o_ 1 0 0, .pt 3 [Sl.enc c.2.code, iv c.2.pos, AV.sc (.int .u64 c.2.seed)])])) := by
  rw [e_spec_l00Src_pick]
  unfold t_spec_l00Src_pick
  refine sim_let (v := bv (decide (n_ ≤ 1))) (aBin_leq _ _) ?_
  refine sim_cond (fun c1 => ?_) (fun c1 => ?_)
  · exact sim_ret ⟨rfl, O⟩
  · refine sim_gen he_spec_l00Src_next (tg_spec_l00Src_next s_ (O.start (i := 0) rfl rfl)) (fun c3 v4 h5 hq6 => ?_)
    obtain ⟨e_v4, O7⟩ := hq6
    dsimp only at e_v4
    subst v4
    have O8 : Hold B h5 [(AV.ptr o_ 1 0 0, .pt 3 [Sl.enc c3.2.code, iv c3.2.pos, AV.sc (.int .u64 c3.2.seed)])] := O.merge (i := 0) rfl rfl O7
    refine sim_let (v := bv (decide (200 < n_))) (aBin_gtr _ _) ?_
    refine sim_cond (fun c9 => ?_) (fun c9 => ?_)
    · refine sim_let (v := iv (wr (c3.1 * 256))) (aBin_mul _ _) ?_
      refine sim_gen he_spec_l00Src_next (tg_spec_l00Src_next c3.2 (O8.start (i := 0) rfl rfl)) (fun c10 v11 h12 hq13 => ?_)
      obtain ⟨e_v11, O14⟩ := hq13
      dsimp only at e_v11
      subst v11
      have O15 : Hold B h12 [(AV.ptr o_ 1 0 0, .pt 3 [Sl.enc c10.2.code, iv c10.2.pos, AV.sc (.int .u64 c10.2.seed)])] := O8.merge (i := 0) rfl rfl O14
      refine sim_let (v := iv (wr ((wr (c3.1 * 256)) + c10.1))) (aBin_add _ _) ?_
      refine sim_rem (fun q16 => ?_)
      exact sim_ret ⟨rfl, O15⟩
    · refine sim_rem (fun q18 => ?_)
      exact sim_ret ⟨rfl, O8⟩
noncomputable def ev_spec_l00Src_pick : Nat → Contract := envL [(n_spec_l00Src_next, .gen (denFn Try.prog ev_spec_l00Src_next n_spec_l00Src_next))]
theorem eo_spec_l00Src_pick : EnvOK Try.prog ev_spec_l00Src_pick := (EconsG (gen_of_den eo_spec_l00Src_next mixed hb_spec_l00Src_next) E0)
theorem tg_spec_l00Src_pick {B : Base} {h : Heap} {o_ : Nat} (s_ : l00Src) (n_ : Int) (O : Hold B h [(AV.ptr o_ 1 0 0, .pt 3 [Sl.enc s_.code, iv s_.pos, AV.sc (.int .u64 s_.seed)])]) : Sim (denFn Try.prog ev_spec_l00Src_pick n_spec_l00Src_pick [AV.ptr o_ 1 0 0, iv n_] h) (t_spec_l00Src_pick s_ n_) (fun c p => p.1 = iv c.1 ∧ Hold B p.2 ([(AV.ptr o_ 1 0 0, .pt 3 [Sl.enc c.2.code, iv c.2.pos, AV.sc (.int .u64 c.2.seed)])])) := ts_spec_l00Src_pick ev_spec_l00Src_pick (by simp [ev_spec_l00Src_pick, envL]) s_ n_  O

def t_spec_l00Src_one (s_ : l00Src) (n_ : Int) : Option (Bool × l00Src) :=
  obind (t_spec_l00Src_pick s_ n_) fun c1 =>
  some (decide (c1.1 = 0), (⟨c1.2.code, c1.2.pos, c1.2.seed⟩ : l00Src))

theorem ts_spec_l00Src_one (env : Nat → Contract) (he_spec_l00Src_pick : env n_spec_l00Src_pick = .gen (denFn Try.prog ev_spec_l00Src_pick n_spec_l00Src_pick)) {B : Base} {h : Heap} {o_ : Nat} (s_ : l00Src) (n_ : Int) (O : Hold B h [(AV.ptr o_ 1 0 0, .pt 3 [Sl.enc s_.code, iv s_.pos, AV.sc (.int .u64 s_.seed)])]) : Sim (denFn Try.prog env n_spec_l00Src_one [AV.ptr o_ 1 0 0, iv n_] h) (t_spec_l00Src_one s_ n_) (fun c p => p.1 = bv c.1 ∧ Hold B p.2 ([(AV.ptr o_ 1 0 0, .pt 3 [Sl.enc c.2.code, iv c.2.pos, AV.sc (.int .u64 c.2.seed)])])) := by
  rw [e_spec_l00Src_one]
  unfold t_spec_l00Src_one
  refine sim_gen he_spec_l00Src_pick (tg_spec_l00Src_pick s_ n_ (O.start (i := 0) rfl rfl)) (fun c1 v2 h3 hq4 => ?_)
  obtain ⟨e_v2, O5⟩ := hq4
  dsimp only at e_v2
  subst v2
  have O6 : Hold B h3 [(AV.ptr o_ 1 0 0, .pt 3 [Sl.enc c1.2.code, iv c1.2.pos, AV.sc (.int .u64 c1.2.seed)])] := O.merge (i := 0) rfl rfl O5
  refine sim_let (v := bv (decide (c1.1 = 0))) (aCmp_eq _ _) ?_
  exact sim_ret ⟨rfl, O6⟩
noncomputable def ev_spec_l00Src_one : Nat → Contract := envL [(n_spec_l00Src_pick, .gen (denFn Try.prog ev_spec_l00Src_pick n_spec_l00Src_pick))]
theorem eo_spec_l00Src_one : EnvOK Try.prog ev_spec_l00Src_one := (EconsG (gen_of_den eo_spec_l00Src_pick mixed hb_spec_l00Src_pick) E0)
theorem tg_spec_l00Src_one {B : Base} {h : Heap} {o_ : Nat} (s_ : l00Src) (n_ : Int) (O : Hold B h [(AV.ptr o_ 1 0 0, .pt 3 [Sl.enc s_.code, iv s_.pos, AV.sc (.int .u64 s_.seed)])]) : Sim (denFn Try.prog ev_spec_l00Src_one n_spec_l00Src_one [AV.ptr o_ 1 0 0, iv n_] h) (t_spec_l00Src_one s_ n_) (fun c p => p.1 = bv c.1 ∧ Hold B p.2 ([(AV.ptr o_ 1 0 0, .pt 3 [Sl.enc c.2.code, iv c.2.pos, AV.sc (.int .u64 c.2.seed)])])) := ts_spec_l00Src_one ev_spec_l00Src_one (by simp [ev_spec_l00Src_one, envL]) s_ n_  O

def t_impl_validPoint (p_ : Point) : Option Bool :=
  obind (some ((fun y => within y 0 4095) p_.x)) fun c5 =>
  obind (bif c5 then (obind (some ((fun y => within y 0 4095) p_.y)) fun c7 => some c7) else some false) fun c8 =>
  obind (bif (bif c5 then c8 else false) then (obind (some (within p_.t 0 3600000)) fun c10 => some c10) else some false) fun c11 =>
  some (bif (bif c5 then c8 else false) then c11 else false)

theorem ts_impl_validPoint (env : Nat → Contract) (he_impl_isCoord : env n_impl_isCoord = .pure (T1 (fun y => within y 0 4095))) (he_impl_within : env n_impl_within = .pure (T3 within)) (p_ : Point) : Sim (denFn Try.prog env n_impl_validPoint [AV.agg [iv p_.x, iv p_.y, iv p_.t]] []) (t_impl_validPoint p_) fun c p => release p.2 depth p.1 = some ((fun c : Bool => enc c) c) := by
  have O := Hold.nil []
  generalize hB : (⟨[], []⟩ : Base) = B at O
  clear hB
  rw [e_impl_validPoint]
  unfold t_impl_validPoint
  refine sim_box O (cs := [iv p_.x, iv p_.y, iv p_.t]) (by first | rfl | simp) (fun o1 h2 O3 => ?_)
  replace O3 : Hold B h2 [(AV.ptr o1 1 0 0, .pt 3 [iv p_.x, iv p_.y, iv p_.t])] := O3
  refine sim_let (v := AV.ptr o1 1 0 0) rfl ?_
  refine sim_let (v := iv p_.x) (O3.ld 0 rfl false 1 0) ?_
  refine sim_callV1 (t := (fun y => within y 0 4095)) he_impl_isCoord (snapD_int _ _) (fun c5 => ?_)
  refine sim_guardT (e := bv) (fun hb6 => ?_) (fun c8 => ?_)
  · refine sim_let (v := AV.ptr o1 1 0 1) rfl ?_
    refine sim_let (v := iv p_.y) (O3.ld 0 rfl false 1 1) ?_
    refine sim_callV1 (t := (fun y => within y 0 4095)) he_impl_isCoord (snapD_int _ _) (fun c7 => ?_)
    exact sim_ret rfl
  · refine sim_let (v := bv (bif c5 then c8 else false)) (pick_b _ _ _) ?_
    refine sim_guardT (e := bv) (fun hb9 => ?_) (fun c11 => ?_)
    · refine sim_let (v := AV.ptr o1 1 0 2) rfl ?_
      refine sim_let (v := iv p_.t) (O3.ld 0 rfl false 1 2) ?_
      refine sim_callV3 (t := within) he_impl_within (snapD_int _ _) (snapD_int _ _) (snapD_int _ _) (fun c10 => ?_)
      exact sim_ret rfl
    · refine sim_let (v := bv (bif (bif c5 then c8 else false) then c11 else false)) (pick_b _ _ _) ?_
      exact sim_ret (release_plain (by rfl) _)
theorem tt_impl_validPoint : PureOK Try.prog n_impl_validPoint (C1 (fun c : Bool => enc c) t_impl_validPoint) := pureC1 (Econs ok_impl_isCoord (Econs ok_impl_within E0)) mixed hb_impl_validPoint fun p_ => ts_impl_validPoint _ (by simp [envL]) (by simp [envL]) p_

def s0_spec_l02DrawStroke : ((Sl UInt8) × Int × Int × (Sl Point) × Int × Int × Int × Int × Int × Int) → Option (Sum ((Sl UInt8) × Int × Int × (Sl Point) × Int × Int × Int × Int × Int × Int) ((Sl UInt8) × Int × Int × (Sl Point))) := fun (w31, w32, w33, w35, w38, w39, w40, w41, w42, w43) =>
  bif decide (0 < w43) then
    obind (appO w35 ([(⟨w39, w40, w38⟩ : Point)] : List Point)) fun _ =>
    obind (t_spec_l00Src_pick (⟨w31, w32, w33⟩ : l00Src) 20) fun c73 =>
    obind (t_spec_l00Src_pick c73.2 9) fun c79 =>
    obind (some ((fun a b : Int => min a b) 4095 (wr ((wr ((wr (w39 + w41)) + c79.1)) - 4)))) fun c85 =>
    obind (some ((fun a b : Int => max a b) 0 c85)) fun c86 =>
    obind (t_spec_l00Src_pick c79.2 9) fun c87 =>
    obind (some ((fun a b : Int => min a b) 4095 (wr ((wr ((wr (w40 + w42)) + c87.1)) - 4)))) fun c93 =>
    obind (some ((fun a b : Int => max a b) 0 c93)) fun c94 =>
    obind (t_spec_l00Src_one c87.2 3) fun c95 =>
    bif c95.1 then
      obind (t_spec_l00Src_pick c95.2 80) fun c102 =>
      obind (t_spec_l00Src_pick c102.2 80) fun c108 =>
      some (.inl (c108.2.code, c108.2.pos, c108.2.seed, (appS w35 ([(⟨w39, w40, w38⟩ : Point)] : List Point)), wr (w38 + (wr (1 + c73.1))), c86, c94, wr (c102.1 - 40), wr (c108.1 - 40), wr (w43 - 1)))
    else
      some (.inl (c95.2.code, c95.2.pos, c95.2.seed, (appS w35 ([(⟨w39, w40, w38⟩ : Point)] : List Point)), wr (w38 + (wr (1 + c73.1))), c86, c94, w41, w42, wr (w43 - 1)))
  else
    some (.inr (w31, w32, w33, w35))
def t_spec_l02DrawStroke (s_ : l00Src) (time_ : Int) (x_ : Int) (y_ : Int) : Option (Stroke × l00Src) :=
  obind (t_spec_l00Src_pick s_ 60) fun c11 =>
  obind (t_spec_l00Src_pick c11.2 60) fun c17 =>
  obind (t_spec_l00Src_pick c17.2 10) fun c23 =>
  obind (loopT s0_spec_l02DrawStroke (c23.2.code, c23.2.pos, c23.2.seed, (none : Sl Point), time_, x_, y_, wr (c11.1 - 20), wr (c17.1 - 30), wr (1 + c23.1))) fun (q46, q47, q48, q50) =>
  some ((⟨q50⟩ : Stroke), (⟨q46, q47, q48⟩ : l00Src))

theorem tl0_spec_l02DrawStroke (env : Nat → Contract) {B : Base} (he_spec_l00Max : env n_spec_l00Max = .pure (T2 (fun a b : Int => max a b))) (he_spec_l00Min : env n_spec_l00Min = .pure (T2 (fun a b : Int => min a b))) (he_spec_l00Src_one : env n_spec_l00Src_one = .gen (denFn Try.prog ev_spec_l00Src_one n_spec_l00Src_one)) (he_spec_l00Src_pick : env n_spec_l00Src_pick = .gen (denFn Try.prog ev_spec_l00Src_pick n_spec_l00Src_pick)) (o_ : Nat) (o1 : Nat) (o5 : Nat) (c11 : Int × l00Src) (c17 : Int × l00Src) (c23 : Int × l00Src)  {st : (Sl UInt8) × Int × Int × (Sl Point) × Int × Int × Int × Int × Int × Int} {tm : TM} {h : Heap} (R : (fun (st : (Sl UInt8) × Int × Int × (Sl Point) × Int × Int × Int × Int × Int × Int) tm h36 => match st with | (w31, w32, w33, w35, w38, w39, w40, w41, w42, w43) => ∃ z34, tm = ((AV.ptr o_ 1 0 0) :: (iv w38) :: (iv w39) :: (iv w40) :: und :: und :: und :: und :: (AV.ptr o1 1 0 0) :: (AV.ptr o5 1 0 0) :: (iv w41) :: (iv w42) :: (iv w43) :: (AV.agg [nilS]) :: (AV.ptr o_ 1 0 0) :: (iv c11.1) :: (iv (wr (c11.1 - 20))) :: (AV.ptr o_ 1 0 0) :: (iv c17.1) :: (iv (wr (c17.1 - 30))) :: (AV.ptr o_ 1 0 0) :: (iv c23.1) :: (iv (wr (1 + c23.1))) :: AV.top :: AV.top :: AV.top :: AV.top :: AV.top :: AV.top :: AV.top :: AV.top :: AV.top :: AV.top :: AV.top :: AV.top :: AV.top :: AV.top :: AV.top :: AV.top :: AV.top :: AV.top :: AV.top :: AV.top :: AV.top :: AV.top :: AV.top :: AV.top :: AV.top :: AV.top :: AV.top :: AV.top :: AV.top :: AV.top :: AV.top :: AV.top :: AV.top :: AV.top :: AV.top :: AV.top :: AV.top :: AV.top :: AV.top :: AV.top :: AV.top :: AV.top :: AV.top :: AV.top :: und :: []) ∧ Hold B h36 [(AV.ptr o_ 1 0 0, .pt 3 [Sl.enc w31, iv w32, AV.sc (.int .u64 w33)]), (AV.ptr o1 1 0 0, .pt 1 [nilS]), (AV.ptr o5 1 0 0, .pt 1 [z34]), (z34, obS (w35 : Sl Point))]) st tm h) : Sim (loopP hm0_spec_l02DrawStroke xm0_spec_l02DrawStroke (lb0_spec_l02DrawStroke env) tm h) (loopT s0_spec_l02DrawStroke st) (fun (q : (Sl UInt8) × Int × Int × (Sl Point)) (r : Res) => match q with | (q46, q47, q48, q50) => ∃ (q51 : Int) (q52 : Int) (q53 : Int) (q54 : Int) (q55 : Int) (q56 : Int) (z49 : AV) (h44 : Heap), r = (.exit 0, ((AV.ptr o_ 1 0 0) :: (iv q51) :: (iv q52) :: (iv q53) :: und :: und :: und :: und :: (AV.ptr o1 1 0 0) :: (AV.ptr o5 1 0 0) :: (iv q54) :: (iv q55) :: (iv q56) :: (AV.agg [nilS]) :: (AV.ptr o_ 1 0 0) :: (iv c11.1) :: (iv (wr (c11.1 - 20))) :: (AV.ptr o_ 1 0 0) :: (iv c17.1) :: (iv (wr (c17.1 - 30))) :: (AV.ptr o_ 1 0 0) :: (iv c23.1) :: (iv (wr (1 + c23.1))) :: AV.top :: AV.top :: AV.top :: AV.top :: AV.top :: AV.top :: AV.top :: AV.top :: AV.top :: AV.top :: AV.top :: AV.top :: AV.top :: AV.top :: AV.top :: AV.top :: AV.top :: AV.top :: AV.top :: AV.top :: AV.top :: AV.top :: AV.top :: AV.top :: AV.top :: AV.top :: AV.top :: AV.top :: AV.top :: AV.top :: AV.top :: AV.top :: AV.top :: AV.top :: AV.top :: AV.top :: AV.top :: AV.top :: AV.top :: AV.top :: AV.top :: AV.top :: AV.top :: AV.top :: und :: []), h44) ∧ Hold B h44 [(AV.ptr o_ 1 0 0, .pt 3 [Sl.enc q46, iv q47, AV.sc (.int .u64 q48)]), (AV.ptr o1 1 0 0, .pt 1 [nilS]), (AV.ptr o5 1 0 0, .pt 1 [z49]), (z49, obS (q50 : Sl Point))]) := by
  refine loop_sim (Rel := fun (st : (Sl UInt8) × Int × Int × (Sl Point) × Int × Int × Int × Int × Int × Int) tm h36 => match st with | (w31, w32, w33, w35, w38, w39, w40, w41, w42, w43) => ∃ z34, tm = ((AV.ptr o_ 1 0 0) :: (iv w38) :: (iv w39) :: (iv w40) :: und :: und :: und :: und :: (AV.ptr o1 1 0 0) :: (AV.ptr o5 1 0 0) :: (iv w41) :: (iv w42) :: (iv w43) :: (AV.agg [nilS]) :: (AV.ptr o_ 1 0 0) :: (iv c11.1) :: (iv (wr (c11.1 - 20))) :: (AV.ptr o_ 1 0 0) :: (iv c17.1) :: (iv (wr (c17.1 - 30))) :: (AV.ptr o_ 1 0 0) :: (iv c23.1) :: (iv (wr (1 + c23.1))) :: AV.top :: AV.top :: AV.top :: AV.top :: AV.top :: AV.top :: AV.top :: AV.top :: AV.top :: AV.top :: AV.top :: AV.top :: AV.top :: AV.top :: AV.top :: AV.top :: AV.top :: AV.top :: AV.top :: AV.top :: AV.top :: AV.top :: AV.top :: AV.top :: AV.top :: AV.top :: AV.top :: AV.top :: AV.top :: AV.top :: AV.top :: AV.top :: AV.top :: AV.top :: AV.top :: AV.top :: AV.top :: AV.top :: AV.top :: AV.top :: AV.top :: AV.top :: AV.top :: AV.top :: und :: []) ∧ Hold B h36 [(AV.ptr o_ 1 0 0, .pt 3 [Sl.enc w31, iv w32, AV.sc (.int .u64 w33)]), (AV.ptr o1 1 0 0, .pt 1 [nilS]), (AV.ptr o5 1 0 0, .pt 1 [z34]), (z34, obS (w35 : Sl Point))]) (fun st tm h36 R => ?_) R
  obtain ⟨w31, w32, w33, w35, w38, w39, w40, w41, w42, w43⟩ := st
  obtain ⟨z34, rfl, O37⟩ := R
  rw [e_lb0_spec_l02DrawStroke]
  unfold s0_spec_l02DrawStroke
  dsimp only
  refine sim_let (v := bv (decide (0 < w43))) (aBin_gtr _ _) ?_
  refine sim_cond (fun c60 => ?_) (fun c60 => ?_)
  · refine sim_let (v := AV.ptr o5 1 0 0) rfl ?_
    refine sim_let (v := z34) (O37.ld 2 rfl false 1 0) ?_
    refine sim_let (v := AV.agg [iv w39, iv w40, iv w38]) (by first | rfl | simp [aBuild, aFill, splice]) ?_
    refine sim_build (A := Point) O37 ([(⟨w39, w40, w38⟩ : Point)] : List Point) rfl (by first | rfl | simp [aFillRows, zrows]) rfl (fun x61 h62 O63 => ?_)
    replace O63 : Hold B h62 [(AV.ptr o_ 1 0 0, .pt 3 [Sl.enc w31, iv w32, AV.sc (.int .u64 w33)]), (AV.ptr o1 1 0 0, .pt 1 [nilS]), (AV.ptr o5 1 0 0, .pt 1 [z34]), (z34, obS (w35 : Sl Point)), (x61, obS ((some ([(⟨w39, w40, w38⟩ : Point)] : List Point)) : Sl Point))] := O63
    refine sim_append (A := Point) (s := w35) O63 3 ([(⟨w39, w40, w38⟩ : Point)] : List Point) rfl (O63.src (A := Point) (s := (some ([(⟨w39, w40, w38⟩ : Point)] : List Point))) 4 rfl) (by decide) (fun x66 h67 O68 => ?_)
    replace O68 : Hold B h67 [(AV.ptr o_ 1 0 0, .pt 3 [Sl.enc w31, iv w32, AV.sc (.int .u64 w33)]), (AV.ptr o1 1 0 0, .pt 1 [nilS]), (AV.ptr o5 1 0 0, .pt 1 [z34]), (x66, obS ((appS w35 ([(⟨w39, w40, w38⟩ : Point)] : List Point)) : Sl Point)), (x61, obS ((some ([(⟨w39, w40, w38⟩ : Point)] : List Point)) : Sl Point))] := O68
    have O70 : Hold B h67 [(AV.ptr o_ 1 0 0, .pt 3 [Sl.enc w31, iv w32, AV.sc (.int .u64 w33)]), (AV.ptr o1 1 0 0, .pt 1 [nilS]), (AV.ptr o5 1 0 0, .pt 1 [z34]), (x66, obS ((appS w35 ([(⟨w39, w40, w38⟩ : Point)] : List Point)) : Sl Point))] := O68.sel [0, 1, 2, 3] (by decide) rfl
    refine sim_let (v := AV.ptr o5 1 0 0) rfl ?_
    refine sim_store O70 2 (cs' := [x66]) rfl (by first | rfl | simp [(O70.one (A := Point) (s := (appS w35 ([(⟨w39, w40, w38⟩ : Point)] : List Point))) 3 rfl).1, (O70.one (A := Point) (s := (appS w35 ([(⟨w39, w40, w38⟩ : Point)] : List Point))) 3 rfl).2]) (by simp) (by first | rfl | simp [(O70.one (A := Point) (s := (appS w35 ([(⟨w39, w40, w38⟩ : Point)] : List Point))) 3 rfl).1, (O70.one (A := Point) (s := (appS w35 ([(⟨w39, w40, w38⟩ : Point)] : List Point))) 3 rfl).2]) (by first | rfl | simp [splice, (O70.one (A := Point) (s := (appS w35 ([(⟨w39, w40, w38⟩ : Point)] : List Point))) 3 rfl).1, (O70.one (A := Point) (s := (appS w35 ([(⟨w39, w40, w38⟩ : Point)] : List Point))) 3 rfl).2]) (fun h71 O72 => ?_)
    replace O72 : Hold B h71 [(AV.ptr o_ 1 0 0, .pt 3 [Sl.enc w31, iv w32, AV.sc (.int .u64 w33)]), (AV.ptr o1 1 0 0, .pt 1 [nilS]), (AV.ptr o5 1 0 0, .pt 1 [x66]), (x66, obS ((appS w35 ([(⟨w39, w40, w38⟩ : Point)] : List Point)) : Sl Point))] := O72
    refine sim_gen he_spec_l00Src_pick (tg_spec_l00Src_pick (⟨w31, w32, w33⟩ : l00Src) 20 (O72.start (i := 0) rfl rfl)) (fun c73 v74 h75 hq76 => ?_)
    obtain ⟨e_v74, O77⟩ := hq76
    dsimp only at e_v74
    subst v74
    have O78 : Hold B h75 [(AV.ptr o_ 1 0 0, .pt 3 [Sl.enc c73.2.code, iv c73.2.pos, AV.sc (.int .u64 c73.2.seed)]), (AV.ptr o1 1 0 0, .pt 1 [nilS]), (AV.ptr o5 1 0 0, .pt 1 [x66]), (x66, obS ((appS w35 ([(⟨w39, w40, w38⟩ : Point)] : List Point)) : Sl Point))] := O72.merge (i := 0) rfl rfl O77
    refine sim_let (v := iv (wr (1 + c73.1))) (aBin_add _ _) ?_
    refine sim_let (v := iv (wr (w38 + (wr (1 + c73.1))))) (aBin_add _ _) ?_
    refine sim_let (v := iv (wr (w39 + w41))) (aBin_add _ _) ?_
    refine sim_gen he_spec_l00Src_pick (tg_spec_l00Src_pick c73.2 9 (O78.start (i := 0) rfl rfl)) (fun c79 v80 h81 hq82 => ?_)
    obtain ⟨e_v80, O83⟩ := hq82
    dsimp only at e_v80
    subst v80
    have O84 : Hold B h81 [(AV.ptr o_ 1 0 0, .pt 3 [Sl.enc c79.2.code, iv c79.2.pos, AV.sc (.int .u64 c79.2.seed)]), (AV.ptr o1 1 0 0, .pt 1 [nilS]), (AV.ptr o5 1 0 0, .pt 1 [x66]), (x66, obS ((appS w35 ([(⟨w39, w40, w38⟩ : Point)] : List Point)) : Sl Point))] := O78.merge (i := 0) rfl rfl O83
    refine sim_let (v := iv (wr ((wr (w39 + w41)) + c79.1))) (aBin_add _ _) ?_
    refine sim_let (v := iv (wr ((wr ((wr (w39 + w41)) + c79.1)) - 4))) (aBin_sub _ _) ?_
    refine sim_callV2 (t := (fun a b : Int => min a b)) he_spec_l00Min (snapD_int _ _) (snapD_int _ _) (fun c85 => ?_)
    refine sim_callV2 (t := (fun a b : Int => max a b)) he_spec_l00Max (snapD_int _ _) (snapD_int _ _) (fun c86 => ?_)
    refine sim_let (v := iv (wr (w40 + w42))) (aBin_add _ _) ?_
    refine sim_gen he_spec_l00Src_pick (tg_spec_l00Src_pick c79.2 9 (O84.start (i := 0) rfl rfl)) (fun c87 v88 h89 hq90 => ?_)
    obtain ⟨e_v88, O91⟩ := hq90
    dsimp only at e_v88
    subst v88
    have O92 : Hold B h89 [(AV.ptr o_ 1 0 0, .pt 3 [Sl.enc c87.2.code, iv c87.2.pos, AV.sc (.int .u64 c87.2.seed)]), (AV.ptr o1 1 0 0, .pt 1 [nilS]), (AV.ptr o5 1 0 0, .pt 1 [x66]), (x66, obS ((appS w35 ([(⟨w39, w40, w38⟩ : Point)] : List Point)) : Sl Point))] := O84.merge (i := 0) rfl rfl O91
    refine sim_let (v := iv (wr ((wr (w40 + w42)) + c87.1))) (aBin_add _ _) ?_
    refine sim_let (v := iv (wr ((wr ((wr (w40 + w42)) + c87.1)) - 4))) (aBin_sub _ _) ?_
    refine sim_callV2 (t := (fun a b : Int => min a b)) he_spec_l00Min (snapD_int _ _) (snapD_int _ _) (fun c93 => ?_)
    refine sim_callV2 (t := (fun a b : Int => max a b)) he_spec_l00Max (snapD_int _ _) (snapD_int _ _) (fun c94 => ?_)
    refine sim_gen he_spec_l00Src_one (tg_spec_l00Src_one c87.2 3 (O92.start (i := 0) rfl rfl)) (fun c95 v96 h97 hq98 => ?_)
    obtain ⟨e_v96, O99⟩ := hq98
    dsimp only at e_v96
    subst v96
    have O100 : Hold B h97 [(AV.ptr o_ 1 0 0, .pt 3 [Sl.enc c95.2.code, iv c95.2.pos, AV.sc (.int .u64 c95.2.seed)]), (AV.ptr o1 1 0 0, .pt 1 [nilS]), (AV.ptr o5 1 0 0, .pt 1 [x66]), (x66, obS ((appS w35 ([(⟨w39, w40, w38⟩ : Point)] : List Point)) : Sl Point))] := O92.merge (i := 0) rfl rfl O99
    refine sim_cond (fun c101 => ?_) (fun c101 => ?_)
    · refine sim_gen he_spec_l00Src_pick (tg_spec_l00Src_pick c95.2 80 (O100.start (i := 0) rfl rfl)) (fun c102 v103 h104 hq105 => ?_)
      obtain ⟨e_v103, O106⟩ := hq105
      dsimp only at e_v103
      subst v103
      have O107 : Hold B h104 [(AV.ptr o_ 1 0 0, .pt 3 [Sl.enc c102.2.code, iv c102.2.pos, AV.sc (.int .u64 c102.2.seed)]), (AV.ptr o1 1 0 0, .pt 1 [nilS]), (AV.ptr o5 1 0 0, .pt 1 [x66]), (x66, obS ((appS w35 ([(⟨w39, w40, w38⟩ : Point)] : List Point)) : Sl Point))] := O100.merge (i := 0) rfl rfl O106
      refine sim_let (v := iv (wr (c102.1 - 40))) (aBin_sub _ _) ?_
      refine sim_gen he_spec_l00Src_pick (tg_spec_l00Src_pick c102.2 80 (O107.start (i := 0) rfl rfl)) (fun c108 v109 h110 hq111 => ?_)
      obtain ⟨e_v109, O112⟩ := hq111
      dsimp only at e_v109
      subst v109
      have O113 : Hold B h110 [(AV.ptr o_ 1 0 0, .pt 3 [Sl.enc c108.2.code, iv c108.2.pos, AV.sc (.int .u64 c108.2.seed)]), (AV.ptr o1 1 0 0, .pt 1 [nilS]), (AV.ptr o5 1 0 0, .pt 1 [x66]), (x66, obS ((appS w35 ([(⟨w39, w40, w38⟩ : Point)] : List Point)) : Sl Point))] := O107.merge (i := 0) rfl rfl O112
      refine sim_let (v := iv (wr (c108.1 - 40))) (aBin_sub _ _) ?_
      refine sim_let (v := iv (wr (w43 - 1))) (aBin_sub _ _) ?_
      exact sim_ret ⟨rfl, _, rfl, O113⟩
    · refine sim_let (v := iv (wr (w43 - 1))) (aBin_sub _ _) ?_
      exact sim_ret ⟨rfl, _, rfl, O100⟩
  · exact sim_ret ⟨nofun, _, _, _, _, _, _, _, _, rfl, O37⟩
theorem ts_spec_l02DrawStroke (env : Nat → Contract) (he_spec_l00Max : env n_spec_l00Max = .pure (T2 (fun a b : Int => max a b))) (he_spec_l00Min : env n_spec_l00Min = .pure (T2 (fun a b : Int => min a b))) (he_spec_l00Src_one : env n_spec_l00Src_one = .gen (denFn Try.prog ev_spec_l00Src_one n_spec_l00Src_one)) (he_spec_l00Src_pick : env n_spec_l00Src_pick = .gen (denFn Try.prog ev_spec_l00Src_pick n_spec_l00Src_pick)) {B : Base} {h : Heap} {o_ : Nat} (s_ : l00Src) (time_ : Int) (x_ : Int) (y_ : Int) (O : Hold B h [(AV.ptr o_ 1 0 0, .pt 3 [Sl.enc s_.code, iv s_.pos, AV.sc (.int .u64 s_.seed)])]) : Sim (denFn Try.prog env n_spec_l02DrawStroke [AV.ptr o_ 1 0 0, iv time_, iv x_, iv y_] h) (t_spec_l02DrawStroke s_ time_ x_ y_) (fun c p => ∃ x1, p.1 = AV.agg [x1] ∧ Hold B p.2 ([(AV.ptr o_ 1 0 0, .pt 3 [Sl.enc c.2.code, iv c.2.pos, AV.sc (.int .u64 c.2.seed)]), (x1, obS (c.1.points : Sl Point))])) := by
  rw [e_spec_l02DrawStroke]
  unfold t_spec_l02DrawStroke
  refine sim_box O (cs := [nilS]) (by first | rfl | simp) (fun o1 h2 O3 => ?_)
  replace O3 : Hold B h2 [(AV.ptr o_ 1 0 0, .pt 3 [Sl.enc s_.code, iv s_.pos, AV.sc (.int .u64 s_.seed)]), (AV.ptr o1 1 0 0, .pt 1 [nilS])] := O3
  refine sim_let (v := AV.agg [nilS]) (by first | rfl | simp [aBuild, aFill, splice]) ?_
  refine sim_box O3 (cs := [nilS]) (by first | rfl | simp) (fun o5 h6 O7 => ?_)
  replace O7 : Hold B h6 [(AV.ptr o_ 1 0 0, .pt 3 [Sl.enc s_.code, iv s_.pos, AV.sc (.int .u64 s_.seed)]), (AV.ptr o1 1 0 0, .pt 1 [nilS]), (AV.ptr o5 1 0 0, .pt 1 [nilS])] := O7
  refine sim_store O7 2 (cs' := [nilS]) rfl (by first | rfl | simp) (by simp) (by first | rfl | simp) (by first | rfl | simp [splice]) (fun h9 O10 => ?_)
  replace O10 : Hold B h9 [(AV.ptr o_ 1 0 0, .pt 3 [Sl.enc s_.code, iv s_.pos, AV.sc (.int .u64 s_.seed)]), (AV.ptr o1 1 0 0, .pt 1 [nilS]), (AV.ptr o5 1 0 0, .pt 1 [nilS])] := O10
  refine sim_gen he_spec_l00Src_pick (tg_spec_l00Src_pick s_ 60 (O10.start (i := 0) rfl rfl)) (fun c11 v12 h13 hq14 => ?_)
  obtain ⟨e_v12, O15⟩ := hq14
  dsimp only at e_v12
  subst v12
  have O16 : Hold B h13 [(AV.ptr o_ 1 0 0, .pt 3 [Sl.enc c11.2.code, iv c11.2.pos, AV.sc (.int .u64 c11.2.seed)]), (AV.ptr o1 1 0 0, .pt 1 [nilS]), (AV.ptr o5 1 0 0, .pt 1 [nilS])] := O10.merge (i := 0) rfl rfl O15
  refine sim_let (v := iv (wr (c11.1 - 20))) (aBin_sub _ _) ?_
  refine sim_gen he_spec_l00Src_pick (tg_spec_l00Src_pick c11.2 60 (O16.start (i := 0) rfl rfl)) (fun c17 v18 h19 hq20 => ?_)
  obtain ⟨e_v18, O21⟩ := hq20
  dsimp only at e_v18
  subst v18
  have O22 : Hold B h19 [(AV.ptr o_ 1 0 0, .pt 3 [Sl.enc c17.2.code, iv c17.2.pos, AV.sc (.int .u64 c17.2.seed)]), (AV.ptr o1 1 0 0, .pt 1 [nilS]), (AV.ptr o5 1 0 0, .pt 1 [nilS])] := O16.merge (i := 0) rfl rfl O21
  refine sim_let (v := iv (wr (c17.1 - 30))) (aBin_sub _ _) ?_
  refine sim_gen he_spec_l00Src_pick (tg_spec_l00Src_pick c17.2 10 (O22.start (i := 0) rfl rfl)) (fun c23 v24 h25 hq26 => ?_)
  obtain ⟨e_v24, O27⟩ := hq26
  dsimp only at e_v24
  subst v24
  have O28 : Hold B h25 [(AV.ptr o_ 1 0 0, .pt 3 [Sl.enc c23.2.code, iv c23.2.pos, AV.sc (.int .u64 c23.2.seed)]), (AV.ptr o1 1 0 0, .pt 1 [nilS]), (AV.ptr o5 1 0 0, .pt 1 [nilS])] := O22.merge (i := 0) rfl rfl O27
  refine sim_let (v := iv (wr (1 + c23.1))) (aBin_add _ _) ?_
  have O29 : Hold B h25 [(AV.ptr o_ 1 0 0, .pt 3 [Sl.enc c23.2.code, iv c23.2.pos, AV.sc (.int .u64 c23.2.seed)]), (AV.ptr o1 1 0 0, .pt 1 [nilS]), (AV.ptr o5 1 0 0, .pt 1 [nilS]), (nilS, obS ((none : Sl Point) : Sl Point))] := O28.addnil
  refine sim_bind ((tl0_spec_l02DrawStroke env he_spec_l00Max he_spec_l00Min he_spec_l00Src_one he_spec_l00Src_pick o_ o1 o5 c11 c17 c23) ⟨_, rfl, O29⟩) (fun qq118 r hq => ?_)
  obtain ⟨q46, q47, q48, q50⟩ := qq118
  obtain ⟨q51, q52, q53, q54, q55, q56, z49, h44, rfl, O45⟩ := hq
  rw [e_lk0x0_spec_l02DrawStroke]
  refine sim_let (v := AV.agg [z49]) (O45.ld 2 rfl true 1 0) ?_
  refine sim_store O45 1 (cs' := [z49]) rfl (by first | rfl | simp [(O45.one (A := Point) (s := q50) 3 rfl).1, (O45.one (A := Point) (s := q50) 3 rfl).2]) (by simp) (by first | rfl | simp [(O45.one (A := Point) (s := q50) 3 rfl).1, (O45.one (A := Point) (s := q50) 3 rfl).2]) (by first | rfl | simp [splice, (O45.one (A := Point) (s := q50) 3 rfl).1, (O45.one (A := Point) (s := q50) 3 rfl).2]) (fun h57 O58 => ?_)
  replace O58 : Hold B h57 [(AV.ptr o_ 1 0 0, .pt 3 [Sl.enc q46, iv q47, AV.sc (.int .u64 q48)]), (AV.ptr o1 1 0 0, .pt 1 [z49]), (AV.ptr o5 1 0 0, .pt 1 [z49]), (z49, obS (q50 : Sl Point))] := O58
  refine sim_retL (resL_c (v := AV.agg [z49]) (O58.ld 1 rfl true 1 0) (resL_nil _)) ?_
  dsimp only [pack]
  have O59 : Hold B h57 [(AV.ptr o_ 1 0 0, .pt 3 [Sl.enc q46, iv q47, AV.sc (.int .u64 q48)]), (z49, obS (q50 : Sl Point))] := O58.sel [0, 3] (by decide) rfl
  exact sim_ret ⟨_, rfl, O59⟩
noncomputable def ev_spec_l02DrawStroke : Nat → Contract := envL [(n_spec_l00Max, .pure (T2 (fun a b : Int => max a b))), (n_spec_l00Min, .pure (T2 (fun a b : Int => min a b))), (n_spec_l00Src_one, .gen (denFn Try.prog ev_spec_l00Src_one n_spec_l00Src_one)), (n_spec_l00Src_pick, .gen (denFn Try.prog ev_spec_l00Src_pick n_spec_l00Src_pick))]
theorem eo_spec_l02DrawStroke : EnvOK Try.prog ev_spec_l02DrawStroke := (Econs ok_spec_l00Max (Econs ok_spec_l00Min (EconsG (gen_of_den eo_spec_l00Src_one mixed hb_spec_l00Src_one) (EconsG (gen_of_den eo_spec_l00Src_pick mixed hb_spec_l00Src_pick) E0))))
theorem tg_spec_l02DrawStroke {B : Base} {h : Heap} {o_ : Nat} (s_ : l00Src) (time_ : Int) (x_ : Int) (y_ : Int) (O : Hold B h [(AV.ptr o_ 1 0 0, .pt 3 [Sl.enc s_.code, iv s_.pos, AV.sc (.int .u64 s_.seed)])]) : Sim (denFn Try.prog ev_spec_l02DrawStroke n_spec_l02DrawStroke [AV.ptr o_ 1 0 0, iv time_, iv x_, iv y_] h) (t_spec_l02DrawStroke s_ time_ x_ y_) (fun c p => ∃ x1, p.1 = AV.agg [x1] ∧ Hold B p.2 ([(AV.ptr o_ 1 0 0, .pt 3 [Sl.enc c.2.code, iv c.2.pos, AV.sc (.int .u64 c.2.seed)]), (x1, obS (c.1.points : Sl Point))])) := ts_spec_l02DrawStroke ev_spec_l02DrawStroke (by simp [ev_spec_l02DrawStroke, envL]) (by simp [ev_spec_l02DrawStroke, envL]) (by simp [ev_spec_l02DrawStroke, envL]) (by simp [ev_spec_l02DrawStroke, envL]) s_ time_ x_ y_  O

def t_spec_l02Last (s_ : Stroke) : Option Int :=
  obind (getI (s_.points.getD []) (wr ((((s_.points.getD []).length : Nat) : Int) - 1))) fun a1 =>
  some a1.t
def tp_spec_l02Last (s_p : Pt Stroke) : Option Int := obind s_p.get fun s_ => t_spec_l02Last s_

theorem ts_spec_l02Last (env : Nat → Contract)  (s_ : Stroke) {s_p : Pt Stroke} (hp_s_ : s_p.get = some s_) : Sim (denFn Try.prog env n_spec_l02Last [AV.fptr (Row.w Stroke) (s_p.tab.map Row.cells) s_p.i 0] []) (t_spec_l02Last s_) fun c p => release p.2 depth p.1 = some ((fun c : Int => enc c) c) := by
  have O := Hold.nil []
  generalize hB : (⟨[], []⟩ : Base) = B at O
  clear hB
  rw [e_spec_l02Last]
  unfold t_spec_l02Last
  refine sim_let (v := AV.fptr (Row.w Stroke) (s_p.tab.map Row.cells) s_p.i 0) rfl ?_
  refine sim_let (v := AV.fptr (Row.w Stroke) (s_p.tab.map Row.cells) s_p.i 0) rfl ?_
  refine sim_let (v := Sl.enc s_.points) (ld_pt hp_s_ false 1 0) ?_
  refine sim_let (v := AV.fptr (Row.w Stroke) (s_p.tab.map Row.cells) s_p.i 0) rfl ?_
  refine sim_let (v := AV.fptr (Row.w Stroke) (s_p.tab.map Row.cells) s_p.i 0) rfl ?_
  refine sim_let (v := Sl.enc s_.points) (ld_pt hp_s_ false 1 0) ?_
  refine sim_let (v := iv (((s_.points.getD []).length : Nat) : Int)) (Tab.enc [] s_.points).len ?_
  refine sim_let (v := iv (wr ((((s_.points.getD []).length : Nat) : Int) - 1))) (aBin_sub _ _) ?_
  refine sim_get (Tab.enc [] s_.points) (fun m2 a1 hi3 hm4 => ?_)
  refine sim_let (v := elp (Sl.enc s_.points) m2 2) ((Tab.enc [] s_.points).fld _ _ _) ?_
  refine sim_let (v := iv a1.t) ((Tab.enc [] s_.points).ld hm4 false 1 2) ?_
  exact sim_ret (release_plain (by rfl) _)
theorem tt_spec_l02Last : PureOK Try.prog n_spec_l02Last (C1 (fun c : Int => enc c) tp_spec_l02Last) := pureC1 E0 mixed hb_spec_l02Last fun s_p => sim_getP fun s_ hp_s_ => ts_spec_l02Last _  s_ hp_s_

def s0_spec_l02Draw : ((Sl UInt8) × Int × Int × (Sl Stroke) × Int × Int × Int) → Option (Sum ((Sl UInt8) × Int × Int × (Sl Stroke) × Int × Int × Int) ((Sl UInt8) × Int × Int × (Sl Stroke))) := fun (w31, w32, w33, w35, w40, w41, w42) =>
  bif decide (0 < w42) then
    obind (t_spec_l00Src_pick (⟨w31, w32, w33⟩ : l00Src) 200) fun c60 =>
    obind (t_spec_l02DrawStroke c60.2 w40 w41 (wr (300 + c60.1))) fun c66 =>
    obind (appO w35 ([(⟨c66.1.points⟩ : Stroke)] : List Stroke)) fun _ =>
    obind (t_spec_l02Last c66.1) fun c94 =>
    obind (t_spec_l00Src_pick c66.2 200) fun c95 =>
    obind (t_spec_l00Src_pick c95.2 200) fun c101 =>
    some (.inl (c101.2.code, c101.2.pos, c101.2.seed, (appS w35 ([(⟨c66.1.points⟩ : Stroke)] : List Stroke)), wr ((wr (c94 + 1)) + c95.1), wr (w41 + c101.1), wr (w42 - 1)))
  else
    some (.inr (w31, w32, w33, w35))
def t_spec_l02Draw (s_ : l00Src) (most_ : Int) : Option (Ink × l00Src) :=
  obind (t_spec_l00Src_pick s_ 100) fun c11 =>
  obind (t_spec_l00Src_pick c11.2 200) fun c17 =>
  obind (t_spec_l00Src_pick c17.2 (wr (most_ + 1))) fun c23 =>
  obind (loopT s0_spec_l02Draw (c23.2.code, c23.2.pos, c23.2.seed, (none : Sl Stroke), c11.1, wr (100 + c17.1), c23.1)) fun (q45, q46, q47, q49) =>
  some ((⟨q49⟩ : Ink), (⟨q45, q46, q47⟩ : l00Src))

theorem tl0_spec_l02Draw (env : Nat → Contract) {B : Base} (he_spec_l00Src_pick : env n_spec_l00Src_pick = .gen (denFn Try.prog ev_spec_l00Src_pick n_spec_l00Src_pick)) (he_spec_l02DrawStroke : env n_spec_l02DrawStroke = .gen (denFn Try.prog ev_spec_l02DrawStroke n_spec_l02DrawStroke)) (he_spec_l02Last : env n_spec_l02Last = .pure (C1 (fun c : Int => enc c) tp_spec_l02Last)) (o_ : Nat) (most_ : Int) (o1 : Nat) (o5 : Nat) (c11 : Int × l00Src) (c17 : Int × l00Src) (c23 : Int × l00Src)  {st : (Sl UInt8) × Int × Int × (Sl Stroke) × Int × Int × Int} {tm : TM} {h : Heap} (R : (fun (st : (Sl UInt8) × Int × Int × (Sl Stroke) × Int × Int × Int) tm h38 => match st with | (w31, w32, w33, w35, w40, w41, w42) => ∃ z34, ∃ ps36 : PS Stroke, tm = [AV.ptr o_ 1 0 0, iv most_, und, und, AV.ptr o1 1 0 0, AV.ptr o5 1 0 0, iv w40, iv w41, iv w42, AV.top, AV.agg [nilS], AV.ptr o_ 1 0 0, iv c11.1, AV.ptr o_ 1 0 0, iv c17.1, iv (wr (100 + c17.1)), AV.ptr o_ 1 0 0, iv most_, iv (wr (most_ + 1)), iv c23.1, AV.top, AV.top, AV.top, AV.top, AV.top, AV.top, AV.top, AV.top, AV.top, AV.top, AV.top, AV.top, AV.top, AV.top, AV.top, AV.top, AV.top, AV.top, AV.top, AV.top, AV.top, AV.top, AV.top, AV.top, AV.top, AV.top, und] ∧ pj ps36 = w35 ∧ Hold B h38 ([(AV.ptr o_ 1 0 0, .pt 3 [Sl.enc w31, iv w32, AV.sc (.int .u64 w33)]), (AV.ptr o1 1 0 0, .pt 1 [nilS]), (AV.ptr o5 1 0 0, .pt 1 [z34])] ++ D2 (A := Stroke) z34 ps36)) st tm h) : Sim (loopP hm0_spec_l02Draw xm0_spec_l02Draw (lb0_spec_l02Draw env) tm h) (loopT s0_spec_l02Draw st) (fun (q : (Sl UInt8) × Int × Int × (Sl Stroke)) (r : Res) => match q with | (q45, q46, q47, q49) => ∃ (q52 : Int) (q53 : Int) (q54 : Int) (z48 : AV) (z55 : AV) (ps50 : PS Stroke) (h43 : Heap), r = (.exit 0, [AV.ptr o_ 1 0 0, iv most_, und, und, AV.ptr o1 1 0 0, AV.ptr o5 1 0 0, iv q52, iv q53, iv q54, z55, AV.agg [nilS], AV.ptr o_ 1 0 0, iv c11.1, AV.ptr o_ 1 0 0, iv c17.1, iv (wr (100 + c17.1)), AV.ptr o_ 1 0 0, iv most_, iv (wr (most_ + 1)), iv c23.1, AV.top, AV.top, AV.top, AV.top, AV.top, AV.top, AV.top, AV.top, AV.top, AV.top, AV.top, AV.top, AV.top, AV.top, AV.top, AV.top, AV.top, AV.top, AV.top, AV.top, AV.top, AV.top, AV.top, AV.top, AV.top, AV.top, und], h43) ∧ pj ps50 = q49 ∧ Hold B h43 ([(AV.ptr o_ 1 0 0, .pt 3 [Sl.enc q45, iv q46, AV.sc (.int .u64 q47)]), (AV.ptr o1 1 0 0, .pt 1 [nilS]), (AV.ptr o5 1 0 0, .pt 1 [z48])] ++ D2 (A := Stroke) z48 ps50)) := by
  refine loop_sim (Rel := fun (st : (Sl UInt8) × Int × Int × (Sl Stroke) × Int × Int × Int) tm h38 => match st with | (w31, w32, w33, w35, w40, w41, w42) => ∃ z34, ∃ ps36 : PS Stroke, tm = [AV.ptr o_ 1 0 0, iv most_, und, und, AV.ptr o1 1 0 0, AV.ptr o5 1 0 0, iv w40, iv w41, iv w42, AV.top, AV.agg [nilS], AV.ptr o_ 1 0 0, iv c11.1, AV.ptr o_ 1 0 0, iv c17.1, iv (wr (100 + c17.1)), AV.ptr o_ 1 0 0, iv most_, iv (wr (most_ + 1)), iv c23.1, AV.top, AV.top, AV.top, AV.top, AV.top, AV.top, AV.top, AV.top, AV.top, AV.top, AV.top, AV.top, AV.top, AV.top, AV.top, AV.top, AV.top, AV.top, AV.top, AV.top, AV.top, AV.top, AV.top, AV.top, AV.top, AV.top, und] ∧ pj ps36 = w35 ∧ Hold B h38 ([(AV.ptr o_ 1 0 0, .pt 3 [Sl.enc w31, iv w32, AV.sc (.int .u64 w33)]), (AV.ptr o1 1 0 0, .pt 1 [nilS]), (AV.ptr o5 1 0 0, .pt 1 [z34])] ++ D2 (A := Stroke) z34 ps36)) (fun st tm h38 R => ?_) R
  obtain ⟨w31, w32, w33, w35, w40, w41, w42⟩ := st
  obtain ⟨z34, ps36, rfl, hp37, O39⟩ := R
  rw [e_lb0_spec_l02Draw]
  unfold s0_spec_l02Draw
  dsimp only
  refine sim_let (v := bv (decide (0 < w42))) (aBin_gtr _ _) ?_
  refine sim_cond (fun c59 => ?_) (fun c59 => ?_)
  · refine sim_gen he_spec_l00Src_pick (tg_spec_l00Src_pick (⟨w31, w32, w33⟩ : l00Src) 200 (O39.start (i := 0) rfl rfl)) (fun c60 v61 h62 hq63 => ?_)
    obtain ⟨e_v61, O64⟩ := hq63
    dsimp only at e_v61
    subst v61
    have O65 : Hold B h62 ([(AV.ptr o_ 1 0 0, .pt 3 [Sl.enc c60.2.code, iv c60.2.pos, AV.sc (.int .u64 c60.2.seed)]), (AV.ptr o1 1 0 0, .pt 1 [nilS]), (AV.ptr o5 1 0 0, .pt 1 [z34])] ++ D2 (A := Stroke) z34 ps36) := Hold.rot (l := [(AV.ptr o_ 1 0 0, .pt 3 [Sl.enc c60.2.code, iv c60.2.pos, AV.sc (.int .u64 c60.2.seed)]), (AV.ptr o1 1 0 0, .pt 1 [nilS]), (AV.ptr o5 1 0 0, .pt 1 [z34])]) (d := D2 (A := Stroke) z34 ps36) (n := []) (O39.merge (i := 0) rfl rfl O64)
    refine sim_let (v := iv (wr (300 + c60.1))) (aBin_add _ _) ?_
    refine sim_gen he_spec_l02DrawStroke (tg_spec_l02DrawStroke c60.2 w40 w41 (wr (300 + c60.1)) (O65.start (i := 0) rfl rfl)) (fun c66 v67 h68 hq69 => ?_)
    obtain ⟨x72, e_v67, O70⟩ := hq69
    dsimp only at e_v67
    subst v67
    have O71 : Hold B h68 ([(AV.ptr o_ 1 0 0, .pt 3 [Sl.enc c66.2.code, iv c66.2.pos, AV.sc (.int .u64 c66.2.seed)]), (AV.ptr o1 1 0 0, .pt 1 [nilS]), (AV.ptr o5 1 0 0, .pt 1 [z34]), (x72, obS (c66.1.points : Sl Point))] ++ D2 (A := Stroke) z34 ps36) := Hold.rot (l := [(AV.ptr o_ 1 0 0, .pt 3 [Sl.enc c66.2.code, iv c66.2.pos, AV.sc (.int .u64 c66.2.seed)]), (AV.ptr o1 1 0 0, .pt 1 [nilS]), (AV.ptr o5 1 0 0, .pt 1 [z34])]) (d := D2 (A := Stroke) z34 ps36) (n := [(x72, obS (c66.1.points : Sl Point))]) (O65.merge (i := 0) rfl rfl O70)
    refine sim_box O71 (cs := [nilS]) (by first | rfl | simp) (fun o74 h75 O76 => ?_)
    replace O76 : Hold B h75 ([(AV.ptr o_ 1 0 0, .pt 3 [Sl.enc c66.2.code, iv c66.2.pos, AV.sc (.int .u64 c66.2.seed)]), (AV.ptr o1 1 0 0, .pt 1 [nilS]), (AV.ptr o5 1 0 0, .pt 1 [z34]), (x72, obS (c66.1.points : Sl Point)), (AV.ptr o74 1 0 0, .pt 1 [nilS])] ++ D2 (A := Stroke) z34 ps36) := Hold.rot O76
    refine sim_store O76 4 (cs' := [x72]) rfl (by first | rfl | simp [(O76.one (A := Point) (s := c66.1.points) 3 rfl).1, (O76.one (A := Point) (s := c66.1.points) 3 rfl).2]) (by simp) (by first | rfl | simp [(O76.one (A := Point) (s := c66.1.points) 3 rfl).1, (O76.one (A := Point) (s := c66.1.points) 3 rfl).2]) (by first | rfl | simp [splice, (O76.one (A := Point) (s := c66.1.points) 3 rfl).1, (O76.one (A := Point) (s := c66.1.points) 3 rfl).2]) (fun h78 O79 => ?_)
    replace O79 : Hold B h78 ([(AV.ptr o_ 1 0 0, .pt 3 [Sl.enc c66.2.code, iv c66.2.pos, AV.sc (.int .u64 c66.2.seed)]), (AV.ptr o1 1 0 0, .pt 1 [nilS]), (AV.ptr o5 1 0 0, .pt 1 [z34]), (x72, obS (c66.1.points : Sl Point)), (AV.ptr o74 1 0 0, .pt 1 [x72])] ++ D2 (A := Stroke) z34 ps36) := O79
    refine sim_let (v := AV.ptr o5 1 0 0) rfl ?_
    refine sim_let (v := z34) (O79.ld 2 rfl false 1 0) ?_
    refine sim_let (v := AV.agg [x72]) (O79.ld 4 rfl true 1 0) ?_
    refine sim_buildRaw O79 [[x72]] 1 rfl (by first | rfl | simp [aFillRows, zrows, (O79.one (A := Point) (s := c66.1.points) 3 rfl).1, (O79.one (A := Point) (s := c66.1.points) 3 rfl).2]) rfl (fun x80 h81 O82 => ?_)
    replace O82 : Hold B h81 ([(AV.ptr o_ 1 0 0, .pt 3 [Sl.enc c66.2.code, iv c66.2.pos, AV.sc (.int .u64 c66.2.seed)]), (AV.ptr o1 1 0 0, .pt 1 [nilS]), (AV.ptr o5 1 0 0, .pt 1 [z34]), (x72, obS (c66.1.points : Sl Point)), (AV.ptr o74 1 0 0, .pt 1 [x72]), (x80, .sl 1 [[x72]])] ++ D2 (A := Stroke) z34 ps36) := Hold.rot O82
    have O84 : Hold B h81 ([(AV.ptr o_ 1 0 0, .pt 3 [Sl.enc c66.2.code, iv c66.2.pos, AV.sc (.int .u64 c66.2.seed)]), (AV.ptr o1 1 0 0, .pt 1 [nilS]), (AV.ptr o5 1 0 0, .pt 1 [z34]), (AV.ptr o74 1 0 0, .pt 1 [x72]), (x72, obS (c66.1.points : Sl Point)), (x80, .sl 1 [[x72]])] ++ D2 (A := Stroke) z34 ps36) := O82.selD [0, 1, 2, 4, 3, 5] (by decide) rfl
    refine sim_push (l := [(AV.ptr o_ 1 0 0, .pt 3 [Sl.enc c66.2.code, iv c66.2.pos, AV.sc (.int .u64 c66.2.seed)]), (AV.ptr o1 1 0 0, .pt 1 [nilS]), (AV.ptr o5 1 0 0, .pt 1 [z34]), (AV.ptr o74 1 0 0, .pt 1 [x72])]) (a := (⟨c66.1.points⟩ : Stroke)) (y := x72) (x := z34) (ps := ps36) O84 hp37 (by decide) (fun x85 ps88 h86 hp89 hm90 O87 => ?_)
    refine sim_let (v := AV.ptr o5 1 0 0) rfl ?_
    refine sim_store O87 2 (cs' := [x85]) rfl (by first | rfl | simp [(D2.oneX (l := [(AV.ptr o_ 1 0 0, .pt 3 [Sl.enc c66.2.code, iv c66.2.pos, AV.sc (.int .u64 c66.2.seed)]), (AV.ptr o1 1 0 0, .pt 1 [nilS]), (AV.ptr o5 1 0 0, .pt 1 [z34]), (AV.ptr o74 1 0 0, .pt 1 [x72])]) (x := x85) (ps := ps88) (A := Stroke) O87).1, (D2.oneX (l := [(AV.ptr o_ 1 0 0, .pt 3 [Sl.enc c66.2.code, iv c66.2.pos, AV.sc (.int .u64 c66.2.seed)]), (AV.ptr o1 1 0 0, .pt 1 [nilS]), (AV.ptr o5 1 0 0, .pt 1 [z34]), (AV.ptr o74 1 0 0, .pt 1 [x72])]) (x := x85) (ps := ps88) (A := Stroke) O87).2]) (by simp) (by first | rfl | simp [(D2.oneX (l := [(AV.ptr o_ 1 0 0, .pt 3 [Sl.enc c66.2.code, iv c66.2.pos, AV.sc (.int .u64 c66.2.seed)]), (AV.ptr o1 1 0 0, .pt 1 [nilS]), (AV.ptr o5 1 0 0, .pt 1 [z34]), (AV.ptr o74 1 0 0, .pt 1 [x72])]) (x := x85) (ps := ps88) (A := Stroke) O87).1, (D2.oneX (l := [(AV.ptr o_ 1 0 0, .pt 3 [Sl.enc c66.2.code, iv c66.2.pos, AV.sc (.int .u64 c66.2.seed)]), (AV.ptr o1 1 0 0, .pt 1 [nilS]), (AV.ptr o5 1 0 0, .pt 1 [z34]), (AV.ptr o74 1 0 0, .pt 1 [x72])]) (x := x85) (ps := ps88) (A := Stroke) O87).2]) (by first | rfl | simp [splice, (D2.oneX (l := [(AV.ptr o_ 1 0 0, .pt 3 [Sl.enc c66.2.code, iv c66.2.pos, AV.sc (.int .u64 c66.2.seed)]), (AV.ptr o1 1 0 0, .pt 1 [nilS]), (AV.ptr o5 1 0 0, .pt 1 [z34]), (AV.ptr o74 1 0 0, .pt 1 [x72])]) (x := x85) (ps := ps88) (A := Stroke) O87).1, (D2.oneX (l := [(AV.ptr o_ 1 0 0, .pt 3 [Sl.enc c66.2.code, iv c66.2.pos, AV.sc (.int .u64 c66.2.seed)]), (AV.ptr o1 1 0 0, .pt 1 [nilS]), (AV.ptr o5 1 0 0, .pt 1 [z34]), (AV.ptr o74 1 0 0, .pt 1 [x72])]) (x := x85) (ps := ps88) (A := Stroke) O87).2]) (fun h92 O93 => ?_)
    replace O93 : Hold B h92 ([(AV.ptr o_ 1 0 0, .pt 3 [Sl.enc c66.2.code, iv c66.2.pos, AV.sc (.int .u64 c66.2.seed)]), (AV.ptr o1 1 0 0, .pt 1 [nilS]), (AV.ptr o5 1 0 0, .pt 1 [x85]), (AV.ptr o74 1 0 0, .pt 1 [x72])] ++ D2 (A := Stroke) x85 ps88) := O93
    refine sim_eqO (y' := tp_spec_l02Last ⟨[c66.1], 0⟩) (by simp only [tp_spec_l02Last, get_pt1, obind_sm]) ?_
    refine sim_call1 he_spec_l02Last (O93.snapR 3 rfl c66.1 rfl (by simp [omap, O93.snap7 (A := Point) (s := c66.1.points) _ (D2.at hm90)])) (fun c94 => ?_)
    refine sim_let2 (hand_plain (by rfl) _ _) ?_
    refine sim_let (v := iv (wr (c94 + 1))) (aBin_add _ _) ?_
    refine sim_gen he_spec_l00Src_pick (tg_spec_l00Src_pick c66.2 200 (O93.start (i := 0) rfl rfl)) (fun c95 v96 h97 hq98 => ?_)
    obtain ⟨e_v96, O99⟩ := hq98
    dsimp only at e_v96
    subst v96
    have O100 : Hold B h97 ([(AV.ptr o_ 1 0 0, .pt 3 [Sl.enc c95.2.code, iv c95.2.pos, AV.sc (.int .u64 c95.2.seed)]), (AV.ptr o1 1 0 0, .pt 1 [nilS]), (AV.ptr o5 1 0 0, .pt 1 [x85]), (AV.ptr o74 1 0 0, .pt 1 [x72])] ++ D2 (A := Stroke) x85 ps88) := Hold.rot (l := [(AV.ptr o_ 1 0 0, .pt 3 [Sl.enc c95.2.code, iv c95.2.pos, AV.sc (.int .u64 c95.2.seed)]), (AV.ptr o1 1 0 0, .pt 1 [nilS]), (AV.ptr o5 1 0 0, .pt 1 [x85]), (AV.ptr o74 1 0 0, .pt 1 [x72])]) (d := D2 (A := Stroke) x85 ps88) (n := []) (O93.merge (i := 0) rfl rfl O99)
    refine sim_let (v := iv (wr ((wr (c94 + 1)) + c95.1))) (aBin_add _ _) ?_
    refine sim_gen he_spec_l00Src_pick (tg_spec_l00Src_pick c95.2 200 (O100.start (i := 0) rfl rfl)) (fun c101 v102 h103 hq104 => ?_)
    obtain ⟨e_v102, O105⟩ := hq104
    dsimp only at e_v102
    subst v102
    have O106 : Hold B h103 ([(AV.ptr o_ 1 0 0, .pt 3 [Sl.enc c101.2.code, iv c101.2.pos, AV.sc (.int .u64 c101.2.seed)]), (AV.ptr o1 1 0 0, .pt 1 [nilS]), (AV.ptr o5 1 0 0, .pt 1 [x85]), (AV.ptr o74 1 0 0, .pt 1 [x72])] ++ D2 (A := Stroke) x85 ps88) := Hold.rot (l := [(AV.ptr o_ 1 0 0, .pt 3 [Sl.enc c101.2.code, iv c101.2.pos, AV.sc (.int .u64 c101.2.seed)]), (AV.ptr o1 1 0 0, .pt 1 [nilS]), (AV.ptr o5 1 0 0, .pt 1 [x85]), (AV.ptr o74 1 0 0, .pt 1 [x72])]) (d := D2 (A := Stroke) x85 ps88) (n := []) (O100.merge (i := 0) rfl rfl O105)
    refine sim_let (v := iv (wr (w41 + c101.1))) (aBin_add _ _) ?_
    refine sim_let (v := iv (wr (w42 - 1))) (aBin_sub _ _) ?_
    have O107 : Hold B h103 ([(AV.ptr o_ 1 0 0, .pt 3 [Sl.enc c101.2.code, iv c101.2.pos, AV.sc (.int .u64 c101.2.seed)]), (AV.ptr o1 1 0 0, .pt 1 [nilS]), (AV.ptr o5 1 0 0, .pt 1 [x85])] ++ D2 (A := Stroke) x85 ps88) := O106.selD [0, 1, 2] (by decide) rfl
    exact sim_ret ⟨rfl, _, _, rfl, hp89, O107⟩
  · exact sim_ret ⟨nofun, _, _, _, _, _, _, _, rfl, hp37, O39⟩
theorem ts_spec_l02Draw (env : Nat → Contract) (he_spec_l00Src_pick : env n_spec_l00Src_pick = .gen (denFn Try.prog ev_spec_l00Src_pick n_spec_l00Src_pick)) (he_spec_l02DrawStroke : env n_spec_l02DrawStroke = .gen (denFn Try.prog ev_spec_l02DrawStroke n_spec_l02DrawStroke)) (he_spec_l02Last : env n_spec_l02Last = .pure (C1 (fun c : Int => enc c) tp_spec_l02Last)) {B : Base} {h : Heap} {o_ : Nat} (s_ : l00Src) (most_ : Int) (O : Hold B h [(AV.ptr o_ 1 0 0, .pt 3 [Sl.enc s_.code, iv s_.pos, AV.sc (.int .u64 s_.seed)])]) : Sim (denFn Try.prog env n_spec_l02Draw [AV.ptr o_ 1 0 0, iv most_] h) (t_spec_l02Draw s_ most_) (fun c p => ∃ x1, ∃ ps1 : PS Stroke, p.1 = AV.agg [x1] ∧ pj ps1 = c.1.strokes ∧ Hold B p.2 ([(AV.ptr o_ 1 0 0, .pt 3 [Sl.enc c.2.code, iv c.2.pos, AV.sc (.int .u64 c.2.seed)])] ++ D2 (A := Stroke) x1 ps1)) := by
  rw [e_spec_l02Draw]
  unfold t_spec_l02Draw
  refine sim_box O (cs := [nilS]) (by first | rfl | simp) (fun o1 h2 O3 => ?_)
  replace O3 : Hold B h2 [(AV.ptr o_ 1 0 0, .pt 3 [Sl.enc s_.code, iv s_.pos, AV.sc (.int .u64 s_.seed)]), (AV.ptr o1 1 0 0, .pt 1 [nilS])] := O3
  refine sim_let (v := AV.agg [nilS]) (by first | rfl | simp [aBuild, aFill, splice]) ?_
  refine sim_box O3 (cs := [nilS]) (by first | rfl | simp) (fun o5 h6 O7 => ?_)
  replace O7 : Hold B h6 [(AV.ptr o_ 1 0 0, .pt 3 [Sl.enc s_.code, iv s_.pos, AV.sc (.int .u64 s_.seed)]), (AV.ptr o1 1 0 0, .pt 1 [nilS]), (AV.ptr o5 1 0 0, .pt 1 [nilS])] := O7
  refine sim_store O7 2 (cs' := [nilS]) rfl (by first | rfl | simp) (by simp) (by first | rfl | simp) (by first | rfl | simp [splice]) (fun h9 O10 => ?_)
  replace O10 : Hold B h9 [(AV.ptr o_ 1 0 0, .pt 3 [Sl.enc s_.code, iv s_.pos, AV.sc (.int .u64 s_.seed)]), (AV.ptr o1 1 0 0, .pt 1 [nilS]), (AV.ptr o5 1 0 0, .pt 1 [nilS])] := O10
  refine sim_gen he_spec_l00Src_pick (tg_spec_l00Src_pick s_ 100 (O10.start (i := 0) rfl rfl)) (fun c11 v12 h13 hq14 => ?_)
  obtain ⟨e_v12, O15⟩ := hq14
  dsimp only at e_v12
  subst v12
  have O16 : Hold B h13 [(AV.ptr o_ 1 0 0, .pt 3 [Sl.enc c11.2.code, iv c11.2.pos, AV.sc (.int .u64 c11.2.seed)]), (AV.ptr o1 1 0 0, .pt 1 [nilS]), (AV.ptr o5 1 0 0, .pt 1 [nilS])] := O10.merge (i := 0) rfl rfl O15
  refine sim_gen he_spec_l00Src_pick (tg_spec_l00Src_pick c11.2 200 (O16.start (i := 0) rfl rfl)) (fun c17 v18 h19 hq20 => ?_)
  obtain ⟨e_v18, O21⟩ := hq20
  dsimp only at e_v18
  subst v18
  have O22 : Hold B h19 [(AV.ptr o_ 1 0 0, .pt 3 [Sl.enc c17.2.code, iv c17.2.pos, AV.sc (.int .u64 c17.2.seed)]), (AV.ptr o1 1 0 0, .pt 1 [nilS]), (AV.ptr o5 1 0 0, .pt 1 [nilS])] := O16.merge (i := 0) rfl rfl O21
  refine sim_let (v := iv (wr (100 + c17.1))) (aBin_add _ _) ?_
  refine sim_let (v := iv (wr (most_ + 1))) (aBin_add _ _) ?_
  refine sim_gen he_spec_l00Src_pick (tg_spec_l00Src_pick c17.2 (wr (most_ + 1)) (O22.start (i := 0) rfl rfl)) (fun c23 v24 h25 hq26 => ?_)
  obtain ⟨e_v24, O27⟩ := hq26
  dsimp only at e_v24
  subst v24
  have O28 : Hold B h25 [(AV.ptr o_ 1 0 0, .pt 3 [Sl.enc c23.2.code, iv c23.2.pos, AV.sc (.int .u64 c23.2.seed)]), (AV.ptr o1 1 0 0, .pt 1 [nilS]), (AV.ptr o5 1 0 0, .pt 1 [nilS])] := O22.merge (i := 0) rfl rfl O27
  have O29 : Hold B h25 ([(AV.ptr o_ 1 0 0, .pt 3 [Sl.enc c23.2.code, iv c23.2.pos, AV.sc (.int .u64 c23.2.seed)]), (AV.ptr o1 1 0 0, .pt 1 [nilS]), (AV.ptr o5 1 0 0, .pt 1 [nilS])] ++ D2 (A := Stroke) nilS (none : PS Stroke)) := O28.addnil
  refine sim_bind ((tl0_spec_l02Draw env he_spec_l00Src_pick he_spec_l02DrawStroke he_spec_l02Last o_ most_ o1 o5 c11 c17 c23) ⟨_, _, rfl, (rfl : pj (none : PS Stroke) = (none : Sl Stroke)), O29⟩) (fun qq110 r hq => ?_)
  obtain ⟨q45, q46, q47, q49⟩ := qq110
  obtain ⟨q52, q53, q54, z48, z55, ps50, h43, rfl, hp51, O44⟩ := hq
  rw [e_lk0x0_spec_l02Draw]
  refine sim_let (v := AV.agg [z48]) (O44.ld 2 rfl true 1 0) ?_
  refine sim_store O44 1 (cs' := [z48]) rfl (by first | rfl | simp [(D2.oneX (l := [(AV.ptr o_ 1 0 0, .pt 3 [Sl.enc q45, iv q46, AV.sc (.int .u64 q47)]), (AV.ptr o1 1 0 0, .pt 1 [nilS]), (AV.ptr o5 1 0 0, .pt 1 [z48])]) (x := z48) (ps := ps50) (A := Stroke) O44).1, (D2.oneX (l := [(AV.ptr o_ 1 0 0, .pt 3 [Sl.enc q45, iv q46, AV.sc (.int .u64 q47)]), (AV.ptr o1 1 0 0, .pt 1 [nilS]), (AV.ptr o5 1 0 0, .pt 1 [z48])]) (x := z48) (ps := ps50) (A := Stroke) O44).2]) (by simp) (by first | rfl | simp [(D2.oneX (l := [(AV.ptr o_ 1 0 0, .pt 3 [Sl.enc q45, iv q46, AV.sc (.int .u64 q47)]), (AV.ptr o1 1 0 0, .pt 1 [nilS]), (AV.ptr o5 1 0 0, .pt 1 [z48])]) (x := z48) (ps := ps50) (A := Stroke) O44).1, (D2.oneX (l := [(AV.ptr o_ 1 0 0, .pt 3 [Sl.enc q45, iv q46, AV.sc (.int .u64 q47)]), (AV.ptr o1 1 0 0, .pt 1 [nilS]), (AV.ptr o5 1 0 0, .pt 1 [z48])]) (x := z48) (ps := ps50) (A := Stroke) O44).2]) (by first | rfl | simp [splice, (D2.oneX (l := [(AV.ptr o_ 1 0 0, .pt 3 [Sl.enc q45, iv q46, AV.sc (.int .u64 q47)]), (AV.ptr o1 1 0 0, .pt 1 [nilS]), (AV.ptr o5 1 0 0, .pt 1 [z48])]) (x := z48) (ps := ps50) (A := Stroke) O44).1, (D2.oneX (l := [(AV.ptr o_ 1 0 0, .pt 3 [Sl.enc q45, iv q46, AV.sc (.int .u64 q47)]), (AV.ptr o1 1 0 0, .pt 1 [nilS]), (AV.ptr o5 1 0 0, .pt 1 [z48])]) (x := z48) (ps := ps50) (A := Stroke) O44).2]) (fun h56 O57 => ?_)
  replace O57 : Hold B h56 ([(AV.ptr o_ 1 0 0, .pt 3 [Sl.enc q45, iv q46, AV.sc (.int .u64 q47)]), (AV.ptr o1 1 0 0, .pt 1 [z48]), (AV.ptr o5 1 0 0, .pt 1 [z48])] ++ D2 (A := Stroke) z48 ps50) := O57
  refine sim_retL (resL_c (v := AV.agg [z48]) (O57.ld 1 rfl true 1 0) (resL_nil _)) ?_
  dsimp only [pack]
  have O58 : Hold B h56 ([(AV.ptr o_ 1 0 0, .pt 3 [Sl.enc q45, iv q46, AV.sc (.int .u64 q47)])] ++ D2 (A := Stroke) z48 ps50) := O57.selD [0] (by decide) rfl
  exact sim_ret ⟨_, _, rfl, hp51, O58⟩
noncomputable def ev_spec_l02Draw : Nat → Contract := envL [(n_spec_l00Src_pick, .gen (denFn Try.prog ev_spec_l00Src_pick n_spec_l00Src_pick)), (n_spec_l02DrawStroke, .gen (denFn Try.prog ev_spec_l02DrawStroke n_spec_l02DrawStroke)), (n_spec_l02Last, .pure (C1 (fun c : Int => enc c) tp_spec_l02Last))]
theorem eo_spec_l02Draw : EnvOK Try.prog ev_spec_l02Draw := (EconsG (gen_of_den eo_spec_l00Src_pick mixed hb_spec_l00Src_pick) (EconsG (gen_of_den eo_spec_l02DrawStroke mixed hb_spec_l02DrawStroke) (Econs tt_spec_l02Last E0)))
theorem tg_spec_l02Draw {B : Base} {h : Heap} {o_ : Nat} (s_ : l00Src) (most_ : Int) (O : Hold B h [(AV.ptr o_ 1 0 0, .pt 3 [Sl.enc s_.code, iv s_.pos, AV.sc (.int .u64 s_.seed)])]) : Sim (denFn Try.prog ev_spec_l02Draw n_spec_l02Draw [AV.ptr o_ 1 0 0, iv most_] h) (t_spec_l02Draw s_ most_) (fun c p => ∃ x1, ∃ ps1 : PS Stroke, p.1 = AV.agg [x1] ∧ pj ps1 = c.1.strokes ∧ Hold B p.2 ([(AV.ptr o_ 1 0 0, .pt 3 [Sl.enc c.2.code, iv c.2.pos, AV.sc (.int .u64 c.2.seed)])] ++ D2 (A := Stroke) x1 ps1)) := ts_spec_l02Draw ev_spec_l02Draw (by simp [ev_spec_l02Draw, envL]) (by simp [ev_spec_l02Draw, envL]) (by simp [ev_spec_l02Draw, envL]) s_ most_  O

def s0_impl_ValidStroke (s_ : Stroke) : Int → Option (Sum Int (Sum Unit Bool)) := fun w7 =>
  bif decide (w7 < (((s_.points.getD []).length : Nat) : Int)) then
    obind (getI (s_.points.getD []) w7) fun a21 =>
    obind (t_impl_validPoint a21) fun c31 =>
    obind (bif !c31 then some false else (some (decide (0 < w7)))) fun c33 =>
    obind (bif (!(!c31) && c33) then (obind (getI (s_.points.getD []) (wr (w7 - 1))) fun a37 => some (decide (a21.t ≤ a37.t))) else some false) fun c41 =>
    obind (bif !c31 then some false else (some (bif c33 then c41 else false))) fun c52 =>
    bif (bif !c31 then true else c52) then
      some (.inr (.inr false))
    else
      some (.inl (wr (w7 + 1)))
  else
    some (.inr (.inl ()))
def t_impl_ValidStroke (s_ : Stroke) : Option Bool :=
  obind (loopT (s0_impl_ValidStroke s_) 0) fun qq58 => match qq58 with
  | (.inl _) =>
      obind (bif decide (1 ≤ (((s_.points.getD []).length : Nat) : Int)) then (some (decide ((((s_.points.getD []).length : Nat) : Int) ≤ 60))) else some false) fun c14 =>
      some (bif decide (1 ≤ (((s_.points.getD []).length : Nat) : Int)) then c14 else false)
  | (.inr q17) =>
      some q17

theorem tl0_impl_ValidStroke (env : Nat → Contract) {B : Base} (he_impl_validPoint : env n_impl_validPoint = .pure (C1 (fun c : Bool => enc c) t_impl_validPoint)) (s_ : Stroke) (o1 : Nat)  {st : Int} {tm : TM} {h : Heap} (R : (fun (st : Int) tm h5 => match st with | w7 => tm = [AV.agg [Sl.enc s_.points], AV.ptr o1 1 0 0, AV.top, AV.top, AV.top, AV.ptr o1 1 0 0, Sl.enc s_.points, iv (((s_.points.getD []).length : Nat) : Int), iv w7, AV.top, AV.top, AV.top, AV.top, AV.top, AV.top, AV.top, AV.top, AV.top, AV.top, AV.top, AV.top, AV.top, AV.top, AV.top, AV.top, AV.top, AV.top, AV.top, AV.top, AV.top, AV.top, AV.top, AV.top, und, und, und, und, und, und, und, und, und, und] ∧ Hold B h5 [(AV.ptr o1 1 0 0, .pt 1 [Sl.enc s_.points])]) st tm h) : Sim (loopP hm0_impl_ValidStroke xm0_impl_ValidStroke (lb0_impl_ValidStroke env) tm h) (loopT (s0_impl_ValidStroke s_) st) (fun (q : Sum Unit Bool) (r : Res) => match q with | .inl _ => ∃ (z10 : AV) (z11 : AV) (z12 : AV) (h8 : Heap), r = (.exit 0, [AV.agg [Sl.enc s_.points], AV.ptr o1 1 0 0, z10, z11, z12, AV.ptr o1 1 0 0, Sl.enc s_.points, iv (((s_.points.getD []).length : Nat) : Int), AV.top, AV.top, AV.top, AV.top, AV.top, AV.top, AV.top, AV.top, AV.top, AV.top, AV.top, AV.top, AV.top, AV.top, AV.top, AV.top, AV.top, AV.top, AV.top, AV.top, AV.top, AV.top, AV.top, AV.top, AV.top, und, und, und, und, und, und, und, und, und, und], h8) ∧ Hold B h8 [(AV.ptr o1 1 0 0, .pt 1 [Sl.enc s_.points])] | .inr q17 => ∃ (q18 : Int) (z19 : AV) (h15 : Heap), r = (.ret, [AV.agg [Sl.enc s_.points], AV.ptr o1 1 0 0, bv q17, iv q18, z19, AV.ptr o1 1 0 0, Sl.enc s_.points, iv (((s_.points.getD []).length : Nat) : Int), AV.top, AV.top, AV.top, AV.top, AV.top, AV.top, AV.top, AV.top, AV.top, AV.top, AV.top, AV.top, AV.top, AV.top, AV.top, AV.top, AV.top, AV.top, AV.top, AV.top, AV.top, AV.top, AV.top, AV.top, AV.top, und, und, und, und, und, und, und, und, und, und], h15) ∧ Hold B h15 [(AV.ptr o1 1 0 0, .pt 1 [Sl.enc s_.points])]) := by
  refine loop_sim (Rel := fun (st : Int) tm h5 => match st with | w7 => tm = [AV.agg [Sl.enc s_.points], AV.ptr o1 1 0 0, AV.top, AV.top, AV.top, AV.ptr o1 1 0 0, Sl.enc s_.points, iv (((s_.points.getD []).length : Nat) : Int), iv w7, AV.top, AV.top, AV.top, AV.top, AV.top, AV.top, AV.top, AV.top, AV.top, AV.top, AV.top, AV.top, AV.top, AV.top, AV.top, AV.top, AV.top, AV.top, AV.top, AV.top, AV.top, AV.top, AV.top, AV.top, und, und, und, und, und, und, und, und, und, und] ∧ Hold B h5 [(AV.ptr o1 1 0 0, .pt 1 [Sl.enc s_.points])]) (fun w7 tm h5 R => ?_) R
  obtain ⟨rfl, O6⟩ := R
  rw [e_lb0_impl_ValidStroke]
  unfold s0_impl_ValidStroke
  dsimp only
  refine sim_let (v := bv (decide (w7 < (((s_.points.getD []).length : Nat) : Int)))) (aBin_lss _ _) ?_
  refine sim_cond (fun c20 => ?_) (fun c20 => ?_)
  · refine sim_get (Tab.enc h5 s_.points) (fun m22 a21 hi23 hm24 => ?_)
    refine sim_let (v := AV.agg [iv a21.x, iv a21.y, iv a21.t]) ((Tab.enc h5 s_.points).ld hm24 true 3 0) ?_
    refine sim_box O6 (cs := [iv 0, iv 0, iv 0]) (by first | rfl | simp) (fun o25 h26 O27 => ?_)
    replace O27 : Hold B h26 [(AV.ptr o1 1 0 0, .pt 1 [Sl.enc s_.points]), (AV.ptr o25 1 0 0, .pt 3 [iv 0, iv 0, iv 0])] := O27
    refine sim_store O27 1 (cs' := [iv a21.x, iv a21.y, iv a21.t]) rfl (by first | rfl | simp) (by simp) (by first | rfl | simp) (by first | rfl | simp [splice]) (fun h29 O30 => ?_)
    replace O30 : Hold B h29 [(AV.ptr o1 1 0 0, .pt 1 [Sl.enc s_.points]), (AV.ptr o25 1 0 0, .pt 3 [iv a21.x, iv a21.y, iv a21.t])] := O30
    refine sim_let (v := AV.agg [iv a21.x, iv a21.y, iv a21.t]) (O30.ld 1 rfl true 3 0) ?_
    refine sim_callQ1 he_impl_validPoint (snapD_nr _ a21 rfl) (fun c31 => ?_)
    refine sim_let2 (hand_plain (by rfl) _ _) ?_
    refine sim_let (v := bv (!c31)) (aUn_not _) ?_
    refine sim_g3F (e := bv) (fun hb32 => ?_) (fun y34 y35 c33 => ?_)
    · refine sim_o0 ?_
      refine sim_o1 ?_
      refine sim_let (v := bv (decide (0 < w7))) (aBin_gtr _ _) ?_
      refine sim_o0 ?_
      exact sim_ret rfl
    · simp only [gv_FT]
      refine sim_g10T (e := bv) (fun hb36 => ?_) (fun y42 y43 y44 y45 y46 y47 y48 y49 y50 c41 => ?_)
      · refine sim_o1 ?_
        refine sim_let (v := AV.ptr o25 1 0 2) rfl ?_
        refine sim_o0 ?_
        refine sim_o1 ?_
        refine sim_let (v := iv a21.t) (O30.ld 1 rfl false 1 2) ?_
        refine sim_o0 ?_
        refine sim_o1 ?_
        refine sim_let (v := AV.ptr o1 1 0 0) rfl ?_
        refine sim_o0 ?_
        refine sim_o1 ?_
        refine sim_let (v := Sl.enc s_.points) (O30.ld 0 rfl false 1 0) ?_
        refine sim_o0 ?_
        refine sim_o0 ?_
        refine sim_o1 ?_
        refine sim_let (v := iv (wr (w7 - 1))) (aBin_sub _ _) ?_
        refine sim_o0 ?_
        refine sim_o1 ?_
        refine sim_get (Tab.enc h29 s_.points) (fun m38 a37 hi39 hm40 => ?_)
        refine sim_o0 ?_
        refine sim_o1 ?_
        refine sim_let (v := elp (Sl.enc s_.points) m38 2) ((Tab.enc h29 s_.points).fld _ _ _) ?_
        refine sim_o0 ?_
        refine sim_o1 ?_
        refine sim_let (v := iv a37.t) ((Tab.enc h29 s_.points).ld hm40 false 1 2) ?_
        refine sim_o0 ?_
        refine sim_let (v := bv (decide (a21.t ≤ a37.t))) (aBin_leq _ _) ?_
        exact sim_ret rfl
      · refine sim_guardF (e := bv) (fun hb51 => ?_) (fun c52 => ?_)
        · simp only [hb51, cond_true, cond_false, Bool.not_true, Bool.not_false, Bool.true_and, Bool.and_true, Bool.false_and, Bool.not_not]
          refine sim_let (v := bv (bif c33 then c41 else false)) (pick_b _ _ _) ?_
          exact sim_ret rfl
        · refine sim_let (v := bv (bif !c31 then true else c52)) (pick_b' _ _ _) ?_
          refine sim_cond (fun c53 => ?_) (fun c53 => ?_)
          · have O54 : Hold B h29 [(AV.ptr o1 1 0 0, .pt 1 [Sl.enc s_.points])] := O30.sel [0] (by decide) rfl
            exact sim_ret ⟨nofun, _, _, _, rfl, O54⟩
          · refine sim_let (v := iv (wr (w7 + 1))) (aBin_add _ _) ?_
            have O55 : Hold B h29 [(AV.ptr o1 1 0 0, .pt 1 [Sl.enc s_.points])] := O30.sel [0] (by decide) rfl
            exact sim_ret ⟨rfl, rfl, O55⟩
  · exact sim_ret ⟨nofun, _, _, _, _, rfl, O6⟩
theorem ts_impl_ValidStroke (env : Nat → Contract) (he_impl_validPoint : env n_impl_validPoint = .pure (C1 (fun c : Bool => enc c) t_impl_validPoint)) (s_ : Stroke) : Sim (denFn Try.prog env n_impl_ValidStroke [AV.agg [Sl.enc s_.points]] []) (t_impl_ValidStroke s_) fun c p => release p.2 depth p.1 = some ((fun c : Bool => enc c) c) := by
  have O := Hold.nil []
  generalize hB : (⟨[], []⟩ : Base) = B at O
  clear hB
  rw [e_impl_ValidStroke]
  unfold t_impl_ValidStroke
  refine sim_box O (cs := [Sl.enc s_.points]) (by first | rfl | simp) (fun o1 h2 O3 => ?_)
  replace O3 : Hold B h2 [(AV.ptr o1 1 0 0, .pt 1 [Sl.enc s_.points])] := O3
  refine sim_let (v := AV.ptr o1 1 0 0) rfl ?_
  refine sim_let (v := Sl.enc s_.points) (O3.ld 0 rfl false 1 0) ?_
  refine sim_let (v := iv (((s_.points.getD []).length : Nat) : Int)) (Tab.enc h2 s_.points).len ?_
  refine sim_bind ((tl0_impl_ValidStroke env he_impl_validPoint s_ o1) ⟨rfl, O3⟩) (fun qq58 r hq => ?_)
  rcases qq58 with _ | q17
  · obtain ⟨z10, z11, z12, h8, rfl, O9⟩ := hq
    rw [e_lk0x0_impl_ValidStroke]
    refine sim_let (v := AV.ptr o1 1 0 0) rfl ?_
    refine sim_let (v := Sl.enc s_.points) (O9.ld 0 rfl false 1 0) ?_
    refine sim_let (v := iv (((s_.points.getD []).length : Nat) : Int)) (Tab.enc h8 s_.points).len ?_
    refine sim_let (v := bv (decide (1 ≤ (((s_.points.getD []).length : Nat) : Int)))) (aBin_geq _ _) ?_
    refine sim_guardT (e := bv) (fun hb13 => ?_) (fun c14 => ?_)
    · refine sim_let (v := AV.ptr o1 1 0 0) rfl ?_
      refine sim_let (v := Sl.enc s_.points) (O9.ld 0 rfl false 1 0) ?_
      refine sim_let (v := iv (((s_.points.getD []).length : Nat) : Int)) (Tab.enc h8 s_.points).len ?_
      refine sim_let (v := bv (decide ((((s_.points.getD []).length : Nat) : Int) ≤ 60))) (aBin_leq _ _) ?_
      exact sim_ret rfl
    · refine sim_let (v := bv (bif decide (1 ≤ (((s_.points.getD []).length : Nat) : Int)) then c14 else false)) (pick_b _ _ _) ?_
      exact sim_ret (release_plain (by rfl) _)
  · obtain ⟨q18, z19, h15, rfl, O16⟩ := hq
    rw [e_lk0r_impl_ValidStroke]
    exact sim_ret (release_plain (by rfl) _)
theorem tt_impl_ValidStroke : PureOK Try.prog n_impl_ValidStroke (C1 (fun c : Bool => enc c) t_impl_ValidStroke) := pureC1 (Econs tt_impl_validPoint E0) mixed hb_impl_ValidStroke fun s_ => ts_impl_ValidStroke _ (by simp [envL]) s_

def t_impl_firstOf (s_ : Stroke) : Option Point :=
  obind (getI (s_.points.getD []) 0) fun a9 =>
  some a9

theorem ts_impl_firstOf (env : Nat → Contract)  (s_ : Stroke) : Sim (denFn Try.prog env n_impl_firstOf [AV.agg [Sl.enc s_.points]] []) (t_impl_firstOf s_) fun c p => release p.2 depth p.1 = some ((fun c : Point => enc c) c) := by
  have O := Hold.nil []
  generalize hB : (⟨[], []⟩ : Base) = B at O
  clear hB
  rw [e_impl_firstOf]
  unfold t_impl_firstOf
  refine sim_box O (cs := [Sl.enc s_.points]) (by first | rfl | simp) (fun o1 h2 O3 => ?_)
  replace O3 : Hold B h2 [(AV.ptr o1 1 0 0, .pt 1 [Sl.enc s_.points])] := O3
  refine sim_box O3 (cs := [iv 0, iv 0, iv 0]) (by first | rfl | simp) (fun o5 h6 O7 => ?_)
  replace O7 : Hold B h6 [(AV.ptr o1 1 0 0, .pt 1 [Sl.enc s_.points]), (AV.ptr o5 1 0 0, .pt 3 [iv 0, iv 0, iv 0])] := O7
  refine sim_let (v := AV.ptr o1 1 0 0) rfl ?_
  refine sim_let (v := Sl.enc s_.points) (O7.ld 0 rfl false 1 0) ?_
  refine sim_get (Tab.enc h6 s_.points) (fun m10 a9 hi11 hm12 => ?_)
  refine sim_let (v := AV.agg [iv a9.x, iv a9.y, iv a9.t]) ((Tab.enc h6 s_.points).ld hm12 true 3 0) ?_
  refine sim_store O7 1 (cs' := [iv a9.x, iv a9.y, iv a9.t]) rfl (by first | rfl | simp) (by simp) (by first | rfl | simp) (by first | rfl | simp [splice]) (fun h13 O14 => ?_)
  replace O14 : Hold B h13 [(AV.ptr o1 1 0 0, .pt 1 [Sl.enc s_.points]), (AV.ptr o5 1 0 0, .pt 3 [iv a9.x, iv a9.y, iv a9.t])] := O14
  refine sim_retL (resL_c (v := AV.agg [iv a9.x, iv a9.y, iv a9.t]) (O14.ld 1 rfl true 3 0) (resL_nil _)) ?_
  dsimp only [pack]
  exact sim_ret (release_plain (by rfl) _)
theorem tt_impl_firstOf : PureOK Try.prog n_impl_firstOf (C1 (fun c : Point => enc c) t_impl_firstOf) := pureC1 E0 mixed hb_impl_firstOf fun s_ => ts_impl_firstOf _  s_

def t_impl_lastOf (s_ : Stroke) : Option Point :=
  obind (getI (s_.points.getD []) (wr ((((s_.points.getD []).length : Nat) : Int) - 1))) fun a9 =>
  some a9

theorem ts_impl_lastOf (env : Nat → Contract)  (s_ : Stroke) : Sim (denFn Try.prog env n_impl_lastOf [AV.agg [Sl.enc s_.points]] []) (t_impl_lastOf s_) fun c p => release p.2 depth p.1 = some ((fun c : Point => enc c) c) := by
  have O := Hold.nil []
  generalize hB : (⟨[], []⟩ : Base) = B at O
  clear hB
  rw [e_impl_lastOf]
  unfold t_impl_lastOf
  refine sim_box O (cs := [Sl.enc s_.points]) (by first | rfl | simp) (fun o1 h2 O3 => ?_)
  replace O3 : Hold B h2 [(AV.ptr o1 1 0 0, .pt 1 [Sl.enc s_.points])] := O3
  refine sim_box O3 (cs := [iv 0, iv 0, iv 0]) (by first | rfl | simp) (fun o5 h6 O7 => ?_)
  replace O7 : Hold B h6 [(AV.ptr o1 1 0 0, .pt 1 [Sl.enc s_.points]), (AV.ptr o5 1 0 0, .pt 3 [iv 0, iv 0, iv 0])] := O7
  refine sim_let (v := AV.ptr o1 1 0 0) rfl ?_
  refine sim_let (v := Sl.enc s_.points) (O7.ld 0 rfl false 1 0) ?_
  refine sim_let (v := AV.ptr o1 1 0 0) rfl ?_
  refine sim_let (v := Sl.enc s_.points) (O7.ld 0 rfl false 1 0) ?_
  refine sim_let (v := iv (((s_.points.getD []).length : Nat) : Int)) (Tab.enc h6 s_.points).len ?_
  refine sim_let (v := iv (wr ((((s_.points.getD []).length : Nat) : Int) - 1))) (aBin_sub _ _) ?_
  refine sim_get (Tab.enc h6 s_.points) (fun m10 a9 hi11 hm12 => ?_)
  refine sim_let (v := AV.agg [iv a9.x, iv a9.y, iv a9.t]) ((Tab.enc h6 s_.points).ld hm12 true 3 0) ?_
  refine sim_store O7 1 (cs' := [iv a9.x, iv a9.y, iv a9.t]) rfl (by first | rfl | simp) (by simp) (by first | rfl | simp) (by first | rfl | simp [splice]) (fun h13 O14 => ?_)
  replace O14 : Hold B h13 [(AV.ptr o1 1 0 0, .pt 1 [Sl.enc s_.points]), (AV.ptr o5 1 0 0, .pt 3 [iv a9.x, iv a9.y, iv a9.t])] := O14
  refine sim_retL (resL_c (v := AV.agg [iv a9.x, iv a9.y, iv a9.t]) (O14.ld 1 rfl true 3 0) (resL_nil _)) ?_
  dsimp only [pack]
  exact sim_ret (release_plain (by rfl) _)
theorem tt_impl_lastOf : PureOK Try.prog n_impl_lastOf (C1 (fun c : Point => enc c) t_impl_lastOf) := pureC1 E0 mixed hb_impl_lastOf fun s_ => ts_impl_lastOf _  s_

def s0_spec_l14Draw : ((Sl UInt8) × Int × Int × (Sl Stroke) × Int × Int × Int) → Option (Sum ((Sl UInt8) × Int × Int × (Sl Stroke) × Int × Int × Int) ((Sl UInt8) × Int × Int × (Sl Stroke))) := fun (w25, w26, w27, w29, w34, w35, w36) =>
  bif decide (0 < w36) then
    obind (t_spec_l02DrawStroke (⟨w25, w26, w27⟩ : l00Src) w34 w35 300) fun c55 =>
    obind (t_spec_l00Src_one c55.2 3) fun c69 =>
    bif c69.1 then
      obind (t_spec_l00Src_pick c69.2 (wr (w35 + 60))) fun c76 =>
      obind (t_spec_l00Src_pick c76.2 200) fun c82 =>
      obind (appO w29 ([(⟨(some ([(⟨c76.1, 200, w34⟩ : Point), (⟨wr (c76.1 + c82.1), 210, wr (w34 + 5)⟩ : Point)] : List Point))⟩ : Stroke)] : List Stroke)) fun _ =>
      obind (t_spec_l02Last (⟨(some ([(⟨c76.1, 200, w34⟩ : Point), (⟨wr (c76.1 + c82.1), 210, wr (w34 + 5)⟩ : Point)] : List Point))⟩ : Stroke)) fun c108 =>
      obind (t_spec_l00Src_pick c82.2 50) fun c109 =>
      some (.inl (c109.2.code, c109.2.pos, c109.2.seed, (appS w29 ([(⟨(some ([(⟨c76.1, 200, w34⟩ : Point), (⟨wr (c76.1 + c82.1), 210, wr (w34 + 5)⟩ : Point)] : List Point))⟩ : Stroke)] : List Stroke)), wr ((wr (c108 + 1)) + c109.1), w35, wr (w36 - 1)))
    else
      obind (t_spec_l00Src_one c69.2 2) fun c116 =>
      bif c116.1 then
        obind (t_spec_l00Src_pick c116.2 300) fun c123 =>
        obind (t_spec_l00Src_pick c123.2 300) fun c135 =>
        obind (appO w29 ([(⟨(some ([(⟨w35, 200, w34⟩ : Point), (⟨wr ((wr (w35 + 20)) + c123.1), 500, wr (w34 + 9)⟩ : Point)] : List Point))⟩ : Stroke)] : List Stroke)) fun _ =>
        obind (t_spec_l02Last (⟨(some ([(⟨w35, 200, w34⟩ : Point), (⟨wr ((wr (w35 + 20)) + c123.1), 500, wr (w34 + 9)⟩ : Point)] : List Point))⟩ : Stroke)) fun c155 =>
        obind (t_spec_l00Src_pick c135.2 50) fun c156 =>
        some (.inl (c156.2.code, c156.2.pos, c156.2.seed, (appS w29 ([(⟨(some ([(⟨w35, 200, w34⟩ : Point), (⟨wr ((wr (w35 + 20)) + c123.1), 500, wr (w34 + 9)⟩ : Point)] : List Point))⟩ : Stroke)] : List Stroke)), wr ((wr (c155 + 1)) + c156.1), wr (w35 + c135.1), wr (w36 - 1)))
      else
        obind (appO w29 ([(⟨c55.1.points⟩ : Stroke)] : List Stroke)) fun _ =>
        obind (t_spec_l02Last c55.1) fun c177 =>
        obind (t_spec_l00Src_pick c116.2 50) fun c178 =>
        some (.inl (c178.2.code, c178.2.pos, c178.2.seed, (appS w29 ([(⟨c55.1.points⟩ : Stroke)] : List Stroke)), wr ((wr (c177 + 1)) + c178.1), w35, wr (w36 - 1)))
  else
    some (.inr (w25, w26, w27, w29))
def t_spec_l14Draw (s_ : l00Src) (most_ : Int) : Option (Ink × l00Src) :=
  obind (t_spec_l00Src_pick s_ 200) fun c11 =>
  obind (t_spec_l00Src_pick c11.2 (wr (most_ + 1))) fun c17 =>
  obind (loopT s0_spec_l14Draw (c17.2.code, c17.2.pos, c17.2.seed, (none : Sl Stroke), 0, c11.1, c17.1)) fun (q39, q40, q41, q43) =>
  some ((⟨q43⟩ : Ink), (⟨q39, q40, q41⟩ : l00Src))

theorem tl0_spec_l14Draw (env : Nat → Contract) {B : Base} (he_spec_l00Src_one : env n_spec_l00Src_one = .gen (denFn Try.prog ev_spec_l00Src_one n_spec_l00Src_one)) (he_spec_l00Src_pick : env n_spec_l00Src_pick = .gen (denFn Try.prog ev_spec_l00Src_pick n_spec_l00Src_pick)) (he_spec_l02DrawStroke : env n_spec_l02DrawStroke = .gen (denFn Try.prog ev_spec_l02DrawStroke n_spec_l02DrawStroke)) (he_spec_l02Last : env n_spec_l02Last = .pure (C1 (fun c : Int => enc c) tp_spec_l02Last)) (o_ : Nat) (most_ : Int) (o1 : Nat) (o5 : Nat) (c11 : Int × l00Src) (c17 : Int × l00Src)  {st : (Sl UInt8) × Int × Int × (Sl Stroke) × Int × Int × Int} {tm : TM} {h : Heap} (R : (fun (st : (Sl UInt8) × Int × Int × (Sl Stroke) × Int × Int × Int) tm h32 => match st with | (w25, w26, w27, w29, w34, w35, w36) => ∃ z28, ∃ ps30 : PS Stroke, tm = ((AV.ptr o_ 1 0 0) :: (iv most_) :: und :: und :: (AV.ptr o1 1 0 0) :: (AV.ptr o5 1 0 0) :: (iv w34) :: (iv w35) :: (iv w36) :: AV.top :: AV.top :: (AV.agg [nilS]) :: (AV.ptr o_ 1 0 0) :: (iv c11.1) :: (AV.ptr o_ 1 0 0) :: (iv most_) :: (iv (wr (most_ + 1))) :: (iv c17.1) :: AV.top :: AV.top :: AV.top :: AV.top :: AV.top :: AV.top :: AV.top :: AV.top :: AV.top :: AV.top :: AV.top :: AV.top :: AV.top :: AV.top :: AV.top :: AV.top :: AV.top :: AV.top :: AV.top :: AV.top :: AV.top :: AV.top :: AV.top :: AV.top :: AV.top :: AV.top :: AV.top :: AV.top :: AV.top :: AV.top :: AV.top :: AV.top :: AV.top :: AV.top :: AV.top :: AV.top :: AV.top :: AV.top :: AV.top :: AV.top :: AV.top :: AV.top :: AV.top :: AV.top :: AV.top :: AV.top :: AV.top :: AV.top :: AV.top :: AV.top :: AV.top :: AV.top :: AV.top :: AV.top :: AV.top :: AV.top :: und :: []) ∧ pj ps30 = w29 ∧ Hold B h32 ([(AV.ptr o_ 1 0 0, .pt 3 [Sl.enc w25, iv w26, AV.sc (.int .u64 w27)]), (AV.ptr o1 1 0 0, .pt 1 [nilS]), (AV.ptr o5 1 0 0, .pt 1 [z28])] ++ D2 (A := Stroke) z28 ps30)) st tm h) : Sim (loopP hm0_spec_l14Draw xm0_spec_l14Draw (lb0_spec_l14Draw env) tm h) (loopT s0_spec_l14Draw st) (fun (q : (Sl UInt8) × Int × Int × (Sl Stroke)) (r : Res) => match q with | (q39, q40, q41, q43) => ∃ (q46 : Int) (q47 : Int) (q48 : Int) (z42 : AV) (z49 : AV) (z50 : AV) (ps44 : PS Stroke) (h37 : Heap), r = (.exit 0, ((AV.ptr o_ 1 0 0) :: (iv most_) :: und :: und :: (AV.ptr o1 1 0 0) :: (AV.ptr o5 1 0 0) :: (iv q46) :: (iv q47) :: (iv q48) :: z49 :: z50 :: (AV.agg [nilS]) :: (AV.ptr o_ 1 0 0) :: (iv c11.1) :: (AV.ptr o_ 1 0 0) :: (iv most_) :: (iv (wr (most_ + 1))) :: (iv c17.1) :: AV.top :: AV.top :: AV.top :: AV.top :: AV.top :: AV.top :: AV.top :: AV.top :: AV.top :: AV.top :: AV.top :: AV.top :: AV.top :: AV.top :: AV.top :: AV.top :: AV.top :: AV.top :: AV.top :: AV.top :: AV.top :: AV.top :: AV.top :: AV.top :: AV.top :: AV.top :: AV.top :: AV.top :: AV.top :: AV.top :: AV.top :: AV.top :: AV.top :: AV.top :: AV.top :: AV.top :: AV.top :: AV.top :: AV.top :: AV.top :: AV.top :: AV.top :: AV.top :: AV.top :: AV.top :: AV.top :: AV.top :: AV.top :: AV.top :: AV.top :: AV.top :: AV.top :: AV.top :: AV.top :: AV.top :: AV.top :: und :: []), h37) ∧ pj ps44 = q43 ∧ Hold B h37 ([(AV.ptr o_ 1 0 0, .pt 3 [Sl.enc q39, iv q40, AV.sc (.int .u64 q41)]), (AV.ptr o1 1 0 0, .pt 1 [nilS]), (AV.ptr o5 1 0 0, .pt 1 [z42])] ++ D2 (A := Stroke) z42 ps44)) := by
  refine loop_sim (Rel := fun (st : (Sl UInt8) × Int × Int × (Sl Stroke) × Int × Int × Int) tm h32 => match st with | (w25, w26, w27, w29, w34, w35, w36) => ∃ z28, ∃ ps30 : PS Stroke, tm = ((AV.ptr o_ 1 0 0) :: (iv most_) :: und :: und :: (AV.ptr o1 1 0 0) :: (AV.ptr o5 1 0 0) :: (iv w34) :: (iv w35) :: (iv w36) :: AV.top :: AV.top :: (AV.agg [nilS]) :: (AV.ptr o_ 1 0 0) :: (iv c11.1) :: (AV.ptr o_ 1 0 0) :: (iv most_) :: (iv (wr (most_ + 1))) :: (iv c17.1) :: AV.top :: AV.top :: AV.top :: AV.top :: AV.top :: AV.top :: AV.top :: AV.top :: AV.top :: AV.top :: AV.top :: AV.top :: AV.top :: AV.top :: AV.top :: AV.top :: AV.top :: AV.top :: AV.top :: AV.top :: AV.top :: AV.top :: AV.top :: AV.top :: AV.top :: AV.top :: AV.top :: AV.top :: AV.top :: AV.top :: AV.top :: AV.top :: AV.top :: AV.top :: AV.top :: AV.top :: AV.top :: AV.top :: AV.top :: AV.top :: AV.top :: AV.top :: AV.top :: AV.top :: AV.top :: AV.top :: AV.top :: AV.top :: AV.top :: AV.top :: AV.top :: AV.top :: AV.top :: AV.top :: AV.top :: AV.top :: und :: []) ∧ pj ps30 = w29 ∧ Hold B h32 ([(AV.ptr o_ 1 0 0, .pt 3 [Sl.enc w25, iv w26, AV.sc (.int .u64 w27)]), (AV.ptr o1 1 0 0, .pt 1 [nilS]), (AV.ptr o5 1 0 0, .pt 1 [z28])] ++ D2 (A := Stroke) z28 ps30)) (fun st tm h32 R => ?_) R
  obtain ⟨w25, w26, w27, w29, w34, w35, w36⟩ := st
  obtain ⟨z28, ps30, rfl, hp31, O33⟩ := R
  rw [e_lb0_spec_l14Draw]
  unfold s0_spec_l14Draw
  dsimp only
  refine sim_let (v := bv (decide (0 < w36))) (aBin_gtr _ _) ?_
  refine sim_cond (fun c54 => ?_) (fun c54 => ?_)
  · refine sim_gen he_spec_l02DrawStroke (tg_spec_l02DrawStroke (⟨w25, w26, w27⟩ : l00Src) w34 w35 300 (O33.start (i := 0) rfl rfl)) (fun c55 v56 h57 hq58 => ?_)
    obtain ⟨x61, e_v56, O59⟩ := hq58
    dsimp only at e_v56
    subst v56
    have O60 : Hold B h57 ([(AV.ptr o_ 1 0 0, .pt 3 [Sl.enc c55.2.code, iv c55.2.pos, AV.sc (.int .u64 c55.2.seed)]), (AV.ptr o1 1 0 0, .pt 1 [nilS]), (AV.ptr o5 1 0 0, .pt 1 [z28]), (x61, obS (c55.1.points : Sl Point))] ++ D2 (A := Stroke) z28 ps30) := Hold.rot (l := [(AV.ptr o_ 1 0 0, .pt 3 [Sl.enc c55.2.code, iv c55.2.pos, AV.sc (.int .u64 c55.2.seed)]), (AV.ptr o1 1 0 0, .pt 1 [nilS]), (AV.ptr o5 1 0 0, .pt 1 [z28])]) (d := D2 (A := Stroke) z28 ps30) (n := [(x61, obS (c55.1.points : Sl Point))]) (O33.merge (i := 0) rfl rfl O59)
    refine sim_box O60 (cs := [nilS]) (by first | rfl | simp) (fun o63 h64 O65 => ?_)
    replace O65 : Hold B h64 ([(AV.ptr o_ 1 0 0, .pt 3 [Sl.enc c55.2.code, iv c55.2.pos, AV.sc (.int .u64 c55.2.seed)]), (AV.ptr o1 1 0 0, .pt 1 [nilS]), (AV.ptr o5 1 0 0, .pt 1 [z28]), (x61, obS (c55.1.points : Sl Point)), (AV.ptr o63 1 0 0, .pt 1 [nilS])] ++ D2 (A := Stroke) z28 ps30) := Hold.rot O65
    refine sim_store O65 4 (cs' := [x61]) rfl (by first | rfl | simp [(O65.one (A := Point) (s := c55.1.points) 3 rfl).1, (O65.one (A := Point) (s := c55.1.points) 3 rfl).2]) (by simp) (by first | rfl | simp [(O65.one (A := Point) (s := c55.1.points) 3 rfl).1, (O65.one (A := Point) (s := c55.1.points) 3 rfl).2]) (by first | rfl | simp [splice, (O65.one (A := Point) (s := c55.1.points) 3 rfl).1, (O65.one (A := Point) (s := c55.1.points) 3 rfl).2]) (fun h67 O68 => ?_)
    replace O68 : Hold B h67 ([(AV.ptr o_ 1 0 0, .pt 3 [Sl.enc c55.2.code, iv c55.2.pos, AV.sc (.int .u64 c55.2.seed)]), (AV.ptr o1 1 0 0, .pt 1 [nilS]), (AV.ptr o5 1 0 0, .pt 1 [z28]), (x61, obS (c55.1.points : Sl Point)), (AV.ptr o63 1 0 0, .pt 1 [x61])] ++ D2 (A := Stroke) z28 ps30) := O68
    refine sim_gen he_spec_l00Src_one (tg_spec_l00Src_one c55.2 3 (O68.start (i := 0) rfl rfl)) (fun c69 v70 h71 hq72 => ?_)
    obtain ⟨e_v70, O73⟩ := hq72
    dsimp only at e_v70
    subst v70
    have O74 : Hold B h71 ([(AV.ptr o_ 1 0 0, .pt 3 [Sl.enc c69.2.code, iv c69.2.pos, AV.sc (.int .u64 c69.2.seed)]), (AV.ptr o1 1 0 0, .pt 1 [nilS]), (AV.ptr o5 1 0 0, .pt 1 [z28]), (x61, obS (c55.1.points : Sl Point)), (AV.ptr o63 1 0 0, .pt 1 [x61])] ++ D2 (A := Stroke) z28 ps30) := Hold.rot (l := [(AV.ptr o_ 1 0 0, .pt 3 [Sl.enc c69.2.code, iv c69.2.pos, AV.sc (.int .u64 c69.2.seed)]), (AV.ptr o1 1 0 0, .pt 1 [nilS]), (AV.ptr o5 1 0 0, .pt 1 [z28]), (x61, obS (c55.1.points : Sl Point)), (AV.ptr o63 1 0 0, .pt 1 [x61])]) (d := D2 (A := Stroke) z28 ps30) (n := []) (O68.merge (i := 0) rfl rfl O73)
    refine sim_cond (fun c75 => ?_) (fun c75 => ?_)
    · refine sim_let (v := iv (wr (w35 + 60))) (aBin_add _ _) ?_
      refine sim_gen he_spec_l00Src_pick (tg_spec_l00Src_pick c69.2 (wr (w35 + 60)) (O74.start (i := 0) rfl rfl)) (fun c76 v77 h78 hq79 => ?_)
      obtain ⟨e_v77, O80⟩ := hq79
      dsimp only at e_v77
      subst v77
      have O81 : Hold B h78 ([(AV.ptr o_ 1 0 0, .pt 3 [Sl.enc c76.2.code, iv c76.2.pos, AV.sc (.int .u64 c76.2.seed)]), (AV.ptr o1 1 0 0, .pt 1 [nilS]), (AV.ptr o5 1 0 0, .pt 1 [z28]), (x61, obS (c55.1.points : Sl Point)), (AV.ptr o63 1 0 0, .pt 1 [x61])] ++ D2 (A := Stroke) z28 ps30) := Hold.rot (l := [(AV.ptr o_ 1 0 0, .pt 3 [Sl.enc c76.2.code, iv c76.2.pos, AV.sc (.int .u64 c76.2.seed)]), (AV.ptr o1 1 0 0, .pt 1 [nilS]), (AV.ptr o5 1 0 0, .pt 1 [z28]), (x61, obS (c55.1.points : Sl Point)), (AV.ptr o63 1 0 0, .pt 1 [x61])]) (d := D2 (A := Stroke) z28 ps30) (n := []) (O74.merge (i := 0) rfl rfl O80)
      refine sim_let (v := AV.agg [iv c76.1, iv 200, iv w34]) (by first | rfl | simp [aBuild, aFill, splice]) ?_
      refine sim_gen he_spec_l00Src_pick (tg_spec_l00Src_pick c76.2 200 (O81.start (i := 0) rfl rfl)) (fun c82 v83 h84 hq85 => ?_)
      obtain ⟨e_v83, O86⟩ := hq85
      dsimp only at e_v83
      subst v83
      have O87 : Hold B h84 ([(AV.ptr o_ 1 0 0, .pt 3 [Sl.enc c82.2.code, iv c82.2.pos, AV.sc (.int .u64 c82.2.seed)]), (AV.ptr o1 1 0 0, .pt 1 [nilS]), (AV.ptr o5 1 0 0, .pt 1 [z28]), (x61, obS (c55.1.points : Sl Point)), (AV.ptr o63 1 0 0, .pt 1 [x61])] ++ D2 (A := Stroke) z28 ps30) := Hold.rot (l := [(AV.ptr o_ 1 0 0, .pt 3 [Sl.enc c82.2.code, iv c82.2.pos, AV.sc (.int .u64 c82.2.seed)]), (AV.ptr o1 1 0 0, .pt 1 [nilS]), (AV.ptr o5 1 0 0, .pt 1 [z28]), (x61, obS (c55.1.points : Sl Point)), (AV.ptr o63 1 0 0, .pt 1 [x61])]) (d := D2 (A := Stroke) z28 ps30) (n := []) (O81.merge (i := 0) rfl rfl O86)
      refine sim_let (v := iv (wr (c76.1 + c82.1))) (aBin_add _ _) ?_
      refine sim_let (v := iv (wr (w34 + 5))) (aBin_add _ _) ?_
      refine sim_let (v := AV.agg [iv (wr (c76.1 + c82.1)), iv 210, iv (wr (w34 + 5))]) (by first | rfl | simp [aBuild, aFill, splice]) ?_
      refine sim_build (A := Point) O87 ([(⟨c76.1, 200, w34⟩ : Point), (⟨wr (c76.1 + c82.1), 210, wr (w34 + 5)⟩ : Point)] : List Point) rfl (by first | rfl | simp [aFillRows, zrows]) rfl (fun x88 h89 O90 => ?_)
      replace O90 : Hold B h89 ([(AV.ptr o_ 1 0 0, .pt 3 [Sl.enc c82.2.code, iv c82.2.pos, AV.sc (.int .u64 c82.2.seed)]), (AV.ptr o1 1 0 0, .pt 1 [nilS]), (AV.ptr o5 1 0 0, .pt 1 [z28]), (x61, obS (c55.1.points : Sl Point)), (AV.ptr o63 1 0 0, .pt 1 [x61]), (x88, obS ((some ([(⟨c76.1, 200, w34⟩ : Point), (⟨wr (c76.1 + c82.1), 210, wr (w34 + 5)⟩ : Point)] : List Point)) : Sl Point))] ++ D2 (A := Stroke) z28 ps30) := Hold.rot O90
      refine sim_let (v := AV.agg [x88]) (by first | rfl | simp [aBuild, aFill, splice, (O90.one (A := Point) (s := (some ([(⟨c76.1, 200, w34⟩ : Point), (⟨wr (c76.1 + c82.1), 210, wr (w34 + 5)⟩ : Point)] : List Point))) 5 rfl).1, (O90.one (A := Point) (s := (some ([(⟨c76.1, 200, w34⟩ : Point), (⟨wr (c76.1 + c82.1), 210, wr (w34 + 5)⟩ : Point)] : List Point))) 5 rfl).2]) ?_
      refine sim_store O90 4 (cs' := [x88]) rfl (by first | rfl | simp [(O90.one (A := Point) (s := (some ([(⟨c76.1, 200, w34⟩ : Point), (⟨wr (c76.1 + c82.1), 210, wr (w34 + 5)⟩ : Point)] : List Point))) 5 rfl).1, (O90.one (A := Point) (s := (some ([(⟨c76.1, 200, w34⟩ : Point), (⟨wr (c76.1 + c82.1), 210, wr (w34 + 5)⟩ : Point)] : List Point))) 5 rfl).2]) (by simp) (by first | rfl | simp [(O90.one (A := Point) (s := (some ([(⟨c76.1, 200, w34⟩ : Point), (⟨wr (c76.1 + c82.1), 210, wr (w34 + 5)⟩ : Point)] : List Point))) 5 rfl).1, (O90.one (A := Point) (s := (some ([(⟨c76.1, 200, w34⟩ : Point), (⟨wr (c76.1 + c82.1), 210, wr (w34 + 5)⟩ : Point)] : List Point))) 5 rfl).2]) (by first | rfl | simp [splice, (O90.one (A := Point) (s := (some ([(⟨c76.1, 200, w34⟩ : Point), (⟨wr (c76.1 + c82.1), 210, wr (w34 + 5)⟩ : Point)] : List Point))) 5 rfl).1, (O90.one (A := Point) (s := (some ([(⟨c76.1, 200, w34⟩ : Point), (⟨wr (c76.1 + c82.1), 210, wr (w34 + 5)⟩ : Point)] : List Point))) 5 rfl).2]) (fun h92 O93 => ?_)
      replace O93 : Hold B h92 ([(AV.ptr o_ 1 0 0, .pt 3 [Sl.enc c82.2.code, iv c82.2.pos, AV.sc (.int .u64 c82.2.seed)]), (AV.ptr o1 1 0 0, .pt 1 [nilS]), (AV.ptr o5 1 0 0, .pt 1 [z28]), (x61, obS (c55.1.points : Sl Point)), (AV.ptr o63 1 0 0, .pt 1 [x88]), (x88, obS ((some ([(⟨c76.1, 200, w34⟩ : Point), (⟨wr (c76.1 + c82.1), 210, wr (w34 + 5)⟩ : Point)] : List Point)) : Sl Point))] ++ D2 (A := Stroke) z28 ps30) := O93
      refine sim_let (v := AV.ptr o5 1 0 0) rfl ?_
      refine sim_let (v := z28) (O93.ld 2 rfl false 1 0) ?_
      refine sim_let (v := AV.agg [x88]) (O93.ld 4 rfl true 1 0) ?_
      refine sim_buildRaw O93 [[x88]] 1 rfl (by first | rfl | simp [aFillRows, zrows, (O93.one (A := Point) (s := (some ([(⟨c76.1, 200, w34⟩ : Point), (⟨wr (c76.1 + c82.1), 210, wr (w34 + 5)⟩ : Point)] : List Point))) 5 rfl).1, (O93.one (A := Point) (s := (some ([(⟨c76.1, 200, w34⟩ : Point), (⟨wr (c76.1 + c82.1), 210, wr (w34 + 5)⟩ : Point)] : List Point))) 5 rfl).2]) rfl (fun x94 h95 O96 => ?_)
      replace O96 : Hold B h95 ([(AV.ptr o_ 1 0 0, .pt 3 [Sl.enc c82.2.code, iv c82.2.pos, AV.sc (.int .u64 c82.2.seed)]), (AV.ptr o1 1 0 0, .pt 1 [nilS]), (AV.ptr o5 1 0 0, .pt 1 [z28]), (x61, obS (c55.1.points : Sl Point)), (AV.ptr o63 1 0 0, .pt 1 [x88]), (x88, obS ((some ([(⟨c76.1, 200, w34⟩ : Point), (⟨wr (c76.1 + c82.1), 210, wr (w34 + 5)⟩ : Point)] : List Point)) : Sl Point)), (x94, .sl 1 [[x88]])] ++ D2 (A := Stroke) z28 ps30) := Hold.rot O96
      have O98 : Hold B h95 ([(AV.ptr o_ 1 0 0, .pt 3 [Sl.enc c82.2.code, iv c82.2.pos, AV.sc (.int .u64 c82.2.seed)]), (AV.ptr o1 1 0 0, .pt 1 [nilS]), (AV.ptr o5 1 0 0, .pt 1 [z28]), (x61, obS (c55.1.points : Sl Point)), (AV.ptr o63 1 0 0, .pt 1 [x88]), (x88, obS ((some ([(⟨c76.1, 200, w34⟩ : Point), (⟨wr (c76.1 + c82.1), 210, wr (w34 + 5)⟩ : Point)] : List Point)) : Sl Point)), (x94, .sl 1 [[x88]])] ++ D2 (A := Stroke) z28 ps30) := O96.selD [0, 1, 2, 3, 4, 5, 6] (by decide) rfl
      refine sim_push (l := [(AV.ptr o_ 1 0 0, .pt 3 [Sl.enc c82.2.code, iv c82.2.pos, AV.sc (.int .u64 c82.2.seed)]), (AV.ptr o1 1 0 0, .pt 1 [nilS]), (AV.ptr o5 1 0 0, .pt 1 [z28]), (x61, obS (c55.1.points : Sl Point)), (AV.ptr o63 1 0 0, .pt 1 [x88])]) (a := (⟨(some ([(⟨c76.1, 200, w34⟩ : Point), (⟨wr (c76.1 + c82.1), 210, wr (w34 + 5)⟩ : Point)] : List Point))⟩ : Stroke)) (y := x88) (x := z28) (ps := ps30) O98 hp31 (by decide) (fun x99 ps102 h100 hp103 hm104 O101 => ?_)
      refine sim_let (v := AV.ptr o5 1 0 0) rfl ?_
      refine sim_store O101 2 (cs' := [x99]) rfl (by first | rfl | simp [(D2.oneX (l := [(AV.ptr o_ 1 0 0, .pt 3 [Sl.enc c82.2.code, iv c82.2.pos, AV.sc (.int .u64 c82.2.seed)]), (AV.ptr o1 1 0 0, .pt 1 [nilS]), (AV.ptr o5 1 0 0, .pt 1 [z28]), (x61, obS (c55.1.points : Sl Point)), (AV.ptr o63 1 0 0, .pt 1 [x88])]) (x := x99) (ps := ps102) (A := Stroke) O101).1, (D2.oneX (l := [(AV.ptr o_ 1 0 0, .pt 3 [Sl.enc c82.2.code, iv c82.2.pos, AV.sc (.int .u64 c82.2.seed)]), (AV.ptr o1 1 0 0, .pt 1 [nilS]), (AV.ptr o5 1 0 0, .pt 1 [z28]), (x61, obS (c55.1.points : Sl Point)), (AV.ptr o63 1 0 0, .pt 1 [x88])]) (x := x99) (ps := ps102) (A := Stroke) O101).2]) (by simp) (by first | rfl | simp [(D2.oneX (l := [(AV.ptr o_ 1 0 0, .pt 3 [Sl.enc c82.2.code, iv c82.2.pos, AV.sc (.int .u64 c82.2.seed)]), (AV.ptr o1 1 0 0, .pt 1 [nilS]), (AV.ptr o5 1 0 0, .pt 1 [z28]), (x61, obS (c55.1.points : Sl Point)), (AV.ptr o63 1 0 0, .pt 1 [x88])]) (x := x99) (ps := ps102) (A := Stroke) O101).1, (D2.oneX (l := [(AV.ptr o_ 1 0 0, .pt 3 [Sl.enc c82.2.code, iv c82.2.pos, AV.sc (.int .u64 c82.2.seed)]), (AV.ptr o1 1 0 0, .pt 1 [nilS]), (AV.ptr o5 1 0 0, .pt 1 [z28]), (x61, obS (c55.1.points : Sl Point)), (AV.ptr o63 1 0 0, .pt 1 [x88])]) (x := x99) (ps := ps102) (A := Stroke) O101).2]) (by first | rfl | simp [splice, (D2.oneX (l := [(AV.ptr o_ 1 0 0, .pt 3 [Sl.enc c82.2.code, iv c82.2.pos, AV.sc (.int .u64 c82.2.seed)]), (AV.ptr o1 1 0 0, .pt 1 [nilS]), (AV.ptr o5 1 0 0, .pt 1 [z28]), (x61, obS (c55.1.points : Sl Point)), (AV.ptr o63 1 0 0, .pt 1 [x88])]) (x := x99) (ps := ps102) (A := Stroke) O101).1, (D2.oneX (l := [(AV.ptr o_ 1 0 0, .pt 3 [Sl.enc c82.2.code, iv c82.2.pos, AV.sc (.int .u64 c82.2.seed)]), (AV.ptr o1 1 0 0, .pt 1 [nilS]), (AV.ptr o5 1 0 0, .pt 1 [z28]), (x61, obS (c55.1.points : Sl Point)), (AV.ptr o63 1 0 0, .pt 1 [x88])]) (x := x99) (ps := ps102) (A := Stroke) O101).2]) (fun h106 O107 => ?_)
      replace O107 : Hold B h106 ([(AV.ptr o_ 1 0 0, .pt 3 [Sl.enc c82.2.code, iv c82.2.pos, AV.sc (.int .u64 c82.2.seed)]), (AV.ptr o1 1 0 0, .pt 1 [nilS]), (AV.ptr o5 1 0 0, .pt 1 [x99]), (x61, obS (c55.1.points : Sl Point)), (AV.ptr o63 1 0 0, .pt 1 [x88])] ++ D2 (A := Stroke) x99 ps102) := O107
      refine sim_eqO (y' := tp_spec_l02Last ⟨[(⟨(some ([(⟨c76.1, 200, w34⟩ : Point), (⟨wr (c76.1 + c82.1), 210, wr (w34 + 5)⟩ : Point)] : List Point))⟩ : Stroke)], 0⟩) (by simp only [tp_spec_l02Last, get_pt1, obind_sm]) ?_
      refine sim_call1 he_spec_l02Last (O107.snapR 4 rfl (⟨(some ([(⟨c76.1, 200, w34⟩ : Point), (⟨wr (c76.1 + c82.1), 210, wr (w34 + 5)⟩ : Point)] : List Point))⟩ : Stroke) rfl (by simp [omap, O107.snap7 (A := Point) (s := (some ([(⟨c76.1, 200, w34⟩ : Point), (⟨wr (c76.1 + c82.1), 210, wr (w34 + 5)⟩ : Point)] : List Point))) _ (D2.at hm104)])) (fun c108 => ?_)
      refine sim_let2 (hand_plain (by rfl) _ _) ?_
      refine sim_let (v := iv (wr (c108 + 1))) (aBin_add _ _) ?_
      refine sim_gen he_spec_l00Src_pick (tg_spec_l00Src_pick c82.2 50 (O107.start (i := 0) rfl rfl)) (fun c109 v110 h111 hq112 => ?_)
      obtain ⟨e_v110, O113⟩ := hq112
      dsimp only at e_v110
      subst v110
      have O114 : Hold B h111 ([(AV.ptr o_ 1 0 0, .pt 3 [Sl.enc c109.2.code, iv c109.2.pos, AV.sc (.int .u64 c109.2.seed)]), (AV.ptr o1 1 0 0, .pt 1 [nilS]), (AV.ptr o5 1 0 0, .pt 1 [x99]), (x61, obS (c55.1.points : Sl Point)), (AV.ptr o63 1 0 0, .pt 1 [x88])] ++ D2 (A := Stroke) x99 ps102) := Hold.rot (l := [(AV.ptr o_ 1 0 0, .pt 3 [Sl.enc c109.2.code, iv c109.2.pos, AV.sc (.int .u64 c109.2.seed)]), (AV.ptr o1 1 0 0, .pt 1 [nilS]), (AV.ptr o5 1 0 0, .pt 1 [x99]), (x61, obS (c55.1.points : Sl Point)), (AV.ptr o63 1 0 0, .pt 1 [x88])]) (d := D2 (A := Stroke) x99 ps102) (n := []) (O107.merge (i := 0) rfl rfl O113)
      refine sim_let (v := iv (wr ((wr (c108 + 1)) + c109.1))) (aBin_add _ _) ?_
      refine sim_let (v := iv (wr (w36 - 1))) (aBin_sub _ _) ?_
      have O115 : Hold B h111 ([(AV.ptr o_ 1 0 0, .pt 3 [Sl.enc c109.2.code, iv c109.2.pos, AV.sc (.int .u64 c109.2.seed)]), (AV.ptr o1 1 0 0, .pt 1 [nilS]), (AV.ptr o5 1 0 0, .pt 1 [x99])] ++ D2 (A := Stroke) x99 ps102) := O114.selD [0, 1, 2] (by decide) rfl
      exact sim_ret ⟨rfl, _, _, rfl, hp103, O115⟩
    · refine sim_gen he_spec_l00Src_one (tg_spec_l00Src_one c69.2 2 (O74.start (i := 0) rfl rfl)) (fun c116 v117 h118 hq119 => ?_)
      obtain ⟨e_v117, O120⟩ := hq119
      dsimp only at e_v117
      subst v117
      have O121 : Hold B h118 ([(AV.ptr o_ 1 0 0, .pt 3 [Sl.enc c116.2.code, iv c116.2.pos, AV.sc (.int .u64 c116.2.seed)]), (AV.ptr o1 1 0 0, .pt 1 [nilS]), (AV.ptr o5 1 0 0, .pt 1 [z28]), (x61, obS (c55.1.points : Sl Point)), (AV.ptr o63 1 0 0, .pt 1 [x61])] ++ D2 (A := Stroke) z28 ps30) := Hold.rot (l := [(AV.ptr o_ 1 0 0, .pt 3 [Sl.enc c116.2.code, iv c116.2.pos, AV.sc (.int .u64 c116.2.seed)]), (AV.ptr o1 1 0 0, .pt 1 [nilS]), (AV.ptr o5 1 0 0, .pt 1 [z28]), (x61, obS (c55.1.points : Sl Point)), (AV.ptr o63 1 0 0, .pt 1 [x61])]) (d := D2 (A := Stroke) z28 ps30) (n := []) (O74.merge (i := 0) rfl rfl O120)
      refine sim_cond (fun c122 => ?_) (fun c122 => ?_)
      · refine sim_let (v := AV.agg [iv w35, iv 200, iv w34]) (by first | rfl | simp [aBuild, aFill, splice]) ?_
        refine sim_let (v := iv (wr (w35 + 20))) (aBin_add _ _) ?_
        refine sim_gen he_spec_l00Src_pick (tg_spec_l00Src_pick c116.2 300 (O121.start (i := 0) rfl rfl)) (fun c123 v124 h125 hq126 => ?_)
        obtain ⟨e_v124, O127⟩ := hq126
        dsimp only at e_v124
        subst v124
        have O128 : Hold B h125 ([(AV.ptr o_ 1 0 0, .pt 3 [Sl.enc c123.2.code, iv c123.2.pos, AV.sc (.int .u64 c123.2.seed)]), (AV.ptr o1 1 0 0, .pt 1 [nilS]), (AV.ptr o5 1 0 0, .pt 1 [z28]), (x61, obS (c55.1.points : Sl Point)), (AV.ptr o63 1 0 0, .pt 1 [x61])] ++ D2 (A := Stroke) z28 ps30) := Hold.rot (l := [(AV.ptr o_ 1 0 0, .pt 3 [Sl.enc c123.2.code, iv c123.2.pos, AV.sc (.int .u64 c123.2.seed)]), (AV.ptr o1 1 0 0, .pt 1 [nilS]), (AV.ptr o5 1 0 0, .pt 1 [z28]), (x61, obS (c55.1.points : Sl Point)), (AV.ptr o63 1 0 0, .pt 1 [x61])]) (d := D2 (A := Stroke) z28 ps30) (n := []) (O121.merge (i := 0) rfl rfl O127)
        refine sim_let (v := iv (wr ((wr (w35 + 20)) + c123.1))) (aBin_add _ _) ?_
        refine sim_let (v := iv (wr (w34 + 9))) (aBin_add _ _) ?_
        refine sim_let (v := AV.agg [iv (wr ((wr (w35 + 20)) + c123.1)), iv 500, iv (wr (w34 + 9))]) (by first | rfl | simp [aBuild, aFill, splice]) ?_
        refine sim_build (A := Point) O128 ([(⟨w35, 200, w34⟩ : Point), (⟨wr ((wr (w35 + 20)) + c123.1), 500, wr (w34 + 9)⟩ : Point)] : List Point) rfl (by first | rfl | simp [aFillRows, zrows]) rfl (fun x129 h130 O131 => ?_)
        replace O131 : Hold B h130 ([(AV.ptr o_ 1 0 0, .pt 3 [Sl.enc c123.2.code, iv c123.2.pos, AV.sc (.int .u64 c123.2.seed)]), (AV.ptr o1 1 0 0, .pt 1 [nilS]), (AV.ptr o5 1 0 0, .pt 1 [z28]), (x61, obS (c55.1.points : Sl Point)), (AV.ptr o63 1 0 0, .pt 1 [x61]), (x129, obS ((some ([(⟨w35, 200, w34⟩ : Point), (⟨wr ((wr (w35 + 20)) + c123.1), 500, wr (w34 + 9)⟩ : Point)] : List Point)) : Sl Point))] ++ D2 (A := Stroke) z28 ps30) := Hold.rot O131
        refine sim_let (v := AV.agg [x129]) (by first | rfl | simp [aBuild, aFill, splice, (O131.one (A := Point) (s := (some ([(⟨w35, 200, w34⟩ : Point), (⟨wr ((wr (w35 + 20)) + c123.1), 500, wr (w34 + 9)⟩ : Point)] : List Point))) 5 rfl).1, (O131.one (A := Point) (s := (some ([(⟨w35, 200, w34⟩ : Point), (⟨wr ((wr (w35 + 20)) + c123.1), 500, wr (w34 + 9)⟩ : Point)] : List Point))) 5 rfl).2]) ?_
        refine sim_store O131 4 (cs' := [x129]) rfl (by first | rfl | simp [(O131.one (A := Point) (s := (some ([(⟨w35, 200, w34⟩ : Point), (⟨wr ((wr (w35 + 20)) + c123.1), 500, wr (w34 + 9)⟩ : Point)] : List Point))) 5 rfl).1, (O131.one (A := Point) (s := (some ([(⟨w35, 200, w34⟩ : Point), (⟨wr ((wr (w35 + 20)) + c123.1), 500, wr (w34 + 9)⟩ : Point)] : List Point))) 5 rfl).2]) (by simp) (by first | rfl | simp [(O131.one (A := Point) (s := (some ([(⟨w35, 200, w34⟩ : Point), (⟨wr ((wr (w35 + 20)) + c123.1), 500, wr (w34 + 9)⟩ : Point)] : List Point))) 5 rfl).1, (O131.one (A := Point) (s := (some ([(⟨w35, 200, w34⟩ : Point), (⟨wr ((wr (w35 + 20)) + c123.1), 500, wr (w34 + 9)⟩ : Point)] : List Point))) 5 rfl).2]) (by first | rfl | simp [splice, (O131.one (A := Point) (s := (some ([(⟨w35, 200, w34⟩ : Point), (⟨wr ((wr (w35 + 20)) + c123.1), 500, wr (w34 + 9)⟩ : Point)] : List Point))) 5 rfl).1, (O131.one (A := Point) (s := (some ([(⟨w35, 200, w34⟩ : Point), (⟨wr ((wr (w35 + 20)) + c123.1), 500, wr (w34 + 9)⟩ : Point)] : List Point))) 5 rfl).2]) (fun h133 O134 => ?_)
        replace O134 : Hold B h133 ([(AV.ptr o_ 1 0 0, .pt 3 [Sl.enc c123.2.code, iv c123.2.pos, AV.sc (.int .u64 c123.2.seed)]), (AV.ptr o1 1 0 0, .pt 1 [nilS]), (AV.ptr o5 1 0 0, .pt 1 [z28]), (x61, obS (c55.1.points : Sl Point)), (AV.ptr o63 1 0 0, .pt 1 [x129]), (x129, obS ((some ([(⟨w35, 200, w34⟩ : Point), (⟨wr ((wr (w35 + 20)) + c123.1), 500, wr (w34 + 9)⟩ : Point)] : List Point)) : Sl Point))] ++ D2 (A := Stroke) z28 ps30) := O134
        refine sim_gen he_spec_l00Src_pick (tg_spec_l00Src_pick c123.2 300 (O134.start (i := 0) rfl rfl)) (fun c135 v136 h137 hq138 => ?_)
        obtain ⟨e_v136, O139⟩ := hq138
        dsimp only at e_v136
        subst v136
        have O140 : Hold B h137 ([(AV.ptr o_ 1 0 0, .pt 3 [Sl.enc c135.2.code, iv c135.2.pos, AV.sc (.int .u64 c135.2.seed)]), (AV.ptr o1 1 0 0, .pt 1 [nilS]), (AV.ptr o5 1 0 0, .pt 1 [z28]), (x61, obS (c55.1.points : Sl Point)), (AV.ptr o63 1 0 0, .pt 1 [x129]), (x129, obS ((some ([(⟨w35, 200, w34⟩ : Point), (⟨wr ((wr (w35 + 20)) + c123.1), 500, wr (w34 + 9)⟩ : Point)] : List Point)) : Sl Point))] ++ D2 (A := Stroke) z28 ps30) := Hold.rot (l := [(AV.ptr o_ 1 0 0, .pt 3 [Sl.enc c135.2.code, iv c135.2.pos, AV.sc (.int .u64 c135.2.seed)]), (AV.ptr o1 1 0 0, .pt 1 [nilS]), (AV.ptr o5 1 0 0, .pt 1 [z28]), (x61, obS (c55.1.points : Sl Point)), (AV.ptr o63 1 0 0, .pt 1 [x129]), (x129, obS ((some ([(⟨w35, 200, w34⟩ : Point), (⟨wr ((wr (w35 + 20)) + c123.1), 500, wr (w34 + 9)⟩ : Point)] : List Point)) : Sl Point))]) (d := D2 (A := Stroke) z28 ps30) (n := []) (O134.merge (i := 0) rfl rfl O139)
        refine sim_let (v := iv (wr (w35 + c135.1))) (aBin_add _ _) ?_
        refine sim_let (v := AV.ptr o5 1 0 0) rfl ?_
        refine sim_let (v := z28) (O140.ld 2 rfl false 1 0) ?_
        refine sim_let (v := AV.agg [x129]) (O140.ld 4 rfl true 1 0) ?_
        refine sim_buildRaw O140 [[x129]] 1 rfl (by first | rfl | simp [aFillRows, zrows, (O140.one (A := Point) (s := (some ([(⟨w35, 200, w34⟩ : Point), (⟨wr ((wr (w35 + 20)) + c123.1), 500, wr (w34 + 9)⟩ : Point)] : List Point))) 5 rfl).1, (O140.one (A := Point) (s := (some ([(⟨w35, 200, w34⟩ : Point), (⟨wr ((wr (w35 + 20)) + c123.1), 500, wr (w34 + 9)⟩ : Point)] : List Point))) 5 rfl).2]) rfl (fun x141 h142 O143 => ?_)
        replace O143 : Hold B h142 ([(AV.ptr o_ 1 0 0, .pt 3 [Sl.enc c135.2.code, iv c135.2.pos, AV.sc (.int .u64 c135.2.seed)]), (AV.ptr o1 1 0 0, .pt 1 [nilS]), (AV.ptr o5 1 0 0, .pt 1 [z28]), (x61, obS (c55.1.points : Sl Point)), (AV.ptr o63 1 0 0, .pt 1 [x129]), (x129, obS ((some ([(⟨w35, 200, w34⟩ : Point), (⟨wr ((wr (w35 + 20)) + c123.1), 500, wr (w34 + 9)⟩ : Point)] : List Point)) : Sl Point)), (x141, .sl 1 [[x129]])] ++ D2 (A := Stroke) z28 ps30) := Hold.rot O143
        have O145 : Hold B h142 ([(AV.ptr o_ 1 0 0, .pt 3 [Sl.enc c135.2.code, iv c135.2.pos, AV.sc (.int .u64 c135.2.seed)]), (AV.ptr o1 1 0 0, .pt 1 [nilS]), (AV.ptr o5 1 0 0, .pt 1 [z28]), (x61, obS (c55.1.points : Sl Point)), (AV.ptr o63 1 0 0, .pt 1 [x129]), (x129, obS ((some ([(⟨w35, 200, w34⟩ : Point), (⟨wr ((wr (w35 + 20)) + c123.1), 500, wr (w34 + 9)⟩ : Point)] : List Point)) : Sl Point)), (x141, .sl 1 [[x129]])] ++ D2 (A := Stroke) z28 ps30) := O143.selD [0, 1, 2, 3, 4, 5, 6] (by decide) rfl
        refine sim_push (l := [(AV.ptr o_ 1 0 0, .pt 3 [Sl.enc c135.2.code, iv c135.2.pos, AV.sc (.int .u64 c135.2.seed)]), (AV.ptr o1 1 0 0, .pt 1 [nilS]), (AV.ptr o5 1 0 0, .pt 1 [z28]), (x61, obS (c55.1.points : Sl Point)), (AV.ptr o63 1 0 0, .pt 1 [x129])]) (a := (⟨(some ([(⟨w35, 200, w34⟩ : Point), (⟨wr ((wr (w35 + 20)) + c123.1), 500, wr (w34 + 9)⟩ : Point)] : List Point))⟩ : Stroke)) (y := x129) (x := z28) (ps := ps30) O145 hp31 (by decide) (fun x146 ps149 h147 hp150 hm151 O148 => ?_)
        refine sim_let (v := AV.ptr o5 1 0 0) rfl ?_
        refine sim_store O148 2 (cs' := [x146]) rfl (by first | rfl | simp [(D2.oneX (l := [(AV.ptr o_ 1 0 0, .pt 3 [Sl.enc c135.2.code, iv c135.2.pos, AV.sc (.int .u64 c135.2.seed)]), (AV.ptr o1 1 0 0, .pt 1 [nilS]), (AV.ptr o5 1 0 0, .pt 1 [z28]), (x61, obS (c55.1.points : Sl Point)), (AV.ptr o63 1 0 0, .pt 1 [x129])]) (x := x146) (ps := ps149) (A := Stroke) O148).1, (D2.oneX (l := [(AV.ptr o_ 1 0 0, .pt 3 [Sl.enc c135.2.code, iv c135.2.pos, AV.sc (.int .u64 c135.2.seed)]), (AV.ptr o1 1 0 0, .pt 1 [nilS]), (AV.ptr o5 1 0 0, .pt 1 [z28]), (x61, obS (c55.1.points : Sl Point)), (AV.ptr o63 1 0 0, .pt 1 [x129])]) (x := x146) (ps := ps149) (A := Stroke) O148).2]) (by simp) (by first | rfl | simp [(D2.oneX (l := [(AV.ptr o_ 1 0 0, .pt 3 [Sl.enc c135.2.code, iv c135.2.pos, AV.sc (.int .u64 c135.2.seed)]), (AV.ptr o1 1 0 0, .pt 1 [nilS]), (AV.ptr o5 1 0 0, .pt 1 [z28]), (x61, obS (c55.1.points : Sl Point)), (AV.ptr o63 1 0 0, .pt 1 [x129])]) (x := x146) (ps := ps149) (A := Stroke) O148).1, (D2.oneX (l := [(AV.ptr o_ 1 0 0, .pt 3 [Sl.enc c135.2.code, iv c135.2.pos, AV.sc (.int .u64 c135.2.seed)]), (AV.ptr o1 1 0 0, .pt 1 [nilS]), (AV.ptr o5 1 0 0, .pt 1 [z28]), (x61, obS (c55.1.points : Sl Point)), (AV.ptr o63 1 0 0, .pt 1 [x129])]) (x := x146) (ps := ps149) (A := Stroke) O148).2]) (by first | rfl | simp [splice, (D2.oneX (l := [(AV.ptr o_ 1 0 0, .pt 3 [Sl.enc c135.2.code, iv c135.2.pos, AV.sc (.int .u64 c135.2.seed)]), (AV.ptr o1 1 0 0, .pt 1 [nilS]), (AV.ptr o5 1 0 0, .pt 1 [z28]), (x61, obS (c55.1.points : Sl Point)), (AV.ptr o63 1 0 0, .pt 1 [x129])]) (x := x146) (ps := ps149) (A := Stroke) O148).1, (D2.oneX (l := [(AV.ptr o_ 1 0 0, .pt 3 [Sl.enc c135.2.code, iv c135.2.pos, AV.sc (.int .u64 c135.2.seed)]), (AV.ptr o1 1 0 0, .pt 1 [nilS]), (AV.ptr o5 1 0 0, .pt 1 [z28]), (x61, obS (c55.1.points : Sl Point)), (AV.ptr o63 1 0 0, .pt 1 [x129])]) (x := x146) (ps := ps149) (A := Stroke) O148).2]) (fun h153 O154 => ?_)
        replace O154 : Hold B h153 ([(AV.ptr o_ 1 0 0, .pt 3 [Sl.enc c135.2.code, iv c135.2.pos, AV.sc (.int .u64 c135.2.seed)]), (AV.ptr o1 1 0 0, .pt 1 [nilS]), (AV.ptr o5 1 0 0, .pt 1 [x146]), (x61, obS (c55.1.points : Sl Point)), (AV.ptr o63 1 0 0, .pt 1 [x129])] ++ D2 (A := Stroke) x146 ps149) := O154
        refine sim_eqO (y' := tp_spec_l02Last ⟨[(⟨(some ([(⟨w35, 200, w34⟩ : Point), (⟨wr ((wr (w35 + 20)) + c123.1), 500, wr (w34 + 9)⟩ : Point)] : List Point))⟩ : Stroke)], 0⟩) (by simp only [tp_spec_l02Last, get_pt1, obind_sm]) ?_
        refine sim_call1 he_spec_l02Last (O154.snapR 4 rfl (⟨(some ([(⟨w35, 200, w34⟩ : Point), (⟨wr ((wr (w35 + 20)) + c123.1), 500, wr (w34 + 9)⟩ : Point)] : List Point))⟩ : Stroke) rfl (by simp [omap, O154.snap7 (A := Point) (s := (some ([(⟨w35, 200, w34⟩ : Point), (⟨wr ((wr (w35 + 20)) + c123.1), 500, wr (w34 + 9)⟩ : Point)] : List Point))) _ (D2.at hm151)])) (fun c155 => ?_)
        refine sim_let2 (hand_plain (by rfl) _ _) ?_
        refine sim_let (v := iv (wr (c155 + 1))) (aBin_add _ _) ?_
        refine sim_gen he_spec_l00Src_pick (tg_spec_l00Src_pick c135.2 50 (O154.start (i := 0) rfl rfl)) (fun c156 v157 h158 hq159 => ?_)
        obtain ⟨e_v157, O160⟩ := hq159
        dsimp only at e_v157
        subst v157
        have O161 : Hold B h158 ([(AV.ptr o_ 1 0 0, .pt 3 [Sl.enc c156.2.code, iv c156.2.pos, AV.sc (.int .u64 c156.2.seed)]), (AV.ptr o1 1 0 0, .pt 1 [nilS]), (AV.ptr o5 1 0 0, .pt 1 [x146]), (x61, obS (c55.1.points : Sl Point)), (AV.ptr o63 1 0 0, .pt 1 [x129])] ++ D2 (A := Stroke) x146 ps149) := Hold.rot (l := [(AV.ptr o_ 1 0 0, .pt 3 [Sl.enc c156.2.code, iv c156.2.pos, AV.sc (.int .u64 c156.2.seed)]), (AV.ptr o1 1 0 0, .pt 1 [nilS]), (AV.ptr o5 1 0 0, .pt 1 [x146]), (x61, obS (c55.1.points : Sl Point)), (AV.ptr o63 1 0 0, .pt 1 [x129])]) (d := D2 (A := Stroke) x146 ps149) (n := []) (O154.merge (i := 0) rfl rfl O160)
        refine sim_let (v := iv (wr ((wr (c155 + 1)) + c156.1))) (aBin_add _ _) ?_
        refine sim_let (v := iv (wr (w36 - 1))) (aBin_sub _ _) ?_
        have O162 : Hold B h158 ([(AV.ptr o_ 1 0 0, .pt 3 [Sl.enc c156.2.code, iv c156.2.pos, AV.sc (.int .u64 c156.2.seed)]), (AV.ptr o1 1 0 0, .pt 1 [nilS]), (AV.ptr o5 1 0 0, .pt 1 [x146])] ++ D2 (A := Stroke) x146 ps149) := O161.selD [0, 1, 2] (by decide) rfl
        exact sim_ret ⟨rfl, _, _, rfl, hp150, O162⟩
      · refine sim_let (v := AV.ptr o5 1 0 0) rfl ?_
        refine sim_let (v := z28) (O121.ld 2 rfl false 1 0) ?_
        refine sim_let (v := AV.agg [x61]) (O121.ld 4 rfl true 1 0) ?_
        refine sim_buildRaw O121 [[x61]] 1 rfl (by first | rfl | simp [aFillRows, zrows, (O121.one (A := Point) (s := c55.1.points) 3 rfl).1, (O121.one (A := Point) (s := c55.1.points) 3 rfl).2]) rfl (fun x163 h164 O165 => ?_)
        replace O165 : Hold B h164 ([(AV.ptr o_ 1 0 0, .pt 3 [Sl.enc c116.2.code, iv c116.2.pos, AV.sc (.int .u64 c116.2.seed)]), (AV.ptr o1 1 0 0, .pt 1 [nilS]), (AV.ptr o5 1 0 0, .pt 1 [z28]), (x61, obS (c55.1.points : Sl Point)), (AV.ptr o63 1 0 0, .pt 1 [x61]), (x163, .sl 1 [[x61]])] ++ D2 (A := Stroke) z28 ps30) := Hold.rot O165
        have O167 : Hold B h164 ([(AV.ptr o_ 1 0 0, .pt 3 [Sl.enc c116.2.code, iv c116.2.pos, AV.sc (.int .u64 c116.2.seed)]), (AV.ptr o1 1 0 0, .pt 1 [nilS]), (AV.ptr o5 1 0 0, .pt 1 [z28]), (AV.ptr o63 1 0 0, .pt 1 [x61]), (x61, obS (c55.1.points : Sl Point)), (x163, .sl 1 [[x61]])] ++ D2 (A := Stroke) z28 ps30) := O165.selD [0, 1, 2, 4, 3, 5] (by decide) rfl
        refine sim_push (l := [(AV.ptr o_ 1 0 0, .pt 3 [Sl.enc c116.2.code, iv c116.2.pos, AV.sc (.int .u64 c116.2.seed)]), (AV.ptr o1 1 0 0, .pt 1 [nilS]), (AV.ptr o5 1 0 0, .pt 1 [z28]), (AV.ptr o63 1 0 0, .pt 1 [x61])]) (a := (⟨c55.1.points⟩ : Stroke)) (y := x61) (x := z28) (ps := ps30) O167 hp31 (by decide) (fun x168 ps171 h169 hp172 hm173 O170 => ?_)
        refine sim_let (v := AV.ptr o5 1 0 0) rfl ?_
        refine sim_store O170 2 (cs' := [x168]) rfl (by first | rfl | simp [(D2.oneX (l := [(AV.ptr o_ 1 0 0, .pt 3 [Sl.enc c116.2.code, iv c116.2.pos, AV.sc (.int .u64 c116.2.seed)]), (AV.ptr o1 1 0 0, .pt 1 [nilS]), (AV.ptr o5 1 0 0, .pt 1 [z28]), (AV.ptr o63 1 0 0, .pt 1 [x61])]) (x := x168) (ps := ps171) (A := Stroke) O170).1, (D2.oneX (l := [(AV.ptr o_ 1 0 0, .pt 3 [Sl.enc c116.2.code, iv c116.2.pos, AV.sc (.int .u64 c116.2.seed)]), (AV.ptr o1 1 0 0, .pt 1 [nilS]), (AV.ptr o5 1 0 0, .pt 1 [z28]), (AV.ptr o63 1 0 0, .pt 1 [x61])]) (x := x168) (ps := ps171) (A := Stroke) O170).2]) (by simp) (by first | rfl | simp [(D2.oneX (l := [(AV.ptr o_ 1 0 0, .pt 3 [Sl.enc c116.2.code, iv c116.2.pos, AV.sc (.int .u64 c116.2.seed)]), (AV.ptr o1 1 0 0, .pt 1 [nilS]), (AV.ptr o5 1 0 0, .pt 1 [z28]), (AV.ptr o63 1 0 0, .pt 1 [x61])]) (x := x168) (ps := ps171) (A := Stroke) O170).1, (D2.oneX (l := [(AV.ptr o_ 1 0 0, .pt 3 [Sl.enc c116.2.code, iv c116.2.pos, AV.sc (.int .u64 c116.2.seed)]), (AV.ptr o1 1 0 0, .pt 1 [nilS]), (AV.ptr o5 1 0 0, .pt 1 [z28]), (AV.ptr o63 1 0 0, .pt 1 [x61])]) (x := x168) (ps := ps171) (A := Stroke) O170).2]) (by first | rfl | simp [splice, (D2.oneX (l := [(AV.ptr o_ 1 0 0, .pt 3 [Sl.enc c116.2.code, iv c116.2.pos, AV.sc (.int .u64 c116.2.seed)]), (AV.ptr o1 1 0 0, .pt 1 [nilS]), (AV.ptr o5 1 0 0, .pt 1 [z28]), (AV.ptr o63 1 0 0, .pt 1 [x61])]) (x := x168) (ps := ps171) (A := Stroke) O170).1, (D2.oneX (l := [(AV.ptr o_ 1 0 0, .pt 3 [Sl.enc c116.2.code, iv c116.2.pos, AV.sc (.int .u64 c116.2.seed)]), (AV.ptr o1 1 0 0, .pt 1 [nilS]), (AV.ptr o5 1 0 0, .pt 1 [z28]), (AV.ptr o63 1 0 0, .pt 1 [x61])]) (x := x168) (ps := ps171) (A := Stroke) O170).2]) (fun h175 O176 => ?_)
        replace O176 : Hold B h175 ([(AV.ptr o_ 1 0 0, .pt 3 [Sl.enc c116.2.code, iv c116.2.pos, AV.sc (.int .u64 c116.2.seed)]), (AV.ptr o1 1 0 0, .pt 1 [nilS]), (AV.ptr o5 1 0 0, .pt 1 [x168]), (AV.ptr o63 1 0 0, .pt 1 [x61])] ++ D2 (A := Stroke) x168 ps171) := O176
        refine sim_eqO (y' := tp_spec_l02Last ⟨[c55.1], 0⟩) (by simp only [tp_spec_l02Last, get_pt1, obind_sm]) ?_
        refine sim_call1 he_spec_l02Last (O176.snapR 3 rfl c55.1 rfl (by simp [omap, O176.snap7 (A := Point) (s := c55.1.points) _ (D2.at hm173)])) (fun c177 => ?_)
        refine sim_let2 (hand_plain (by rfl) _ _) ?_
        refine sim_let (v := iv (wr (c177 + 1))) (aBin_add _ _) ?_
        refine sim_gen he_spec_l00Src_pick (tg_spec_l00Src_pick c116.2 50 (O176.start (i := 0) rfl rfl)) (fun c178 v179 h180 hq181 => ?_)
        obtain ⟨e_v179, O182⟩ := hq181
        dsimp only at e_v179
        subst v179
        have O183 : Hold B h180 ([(AV.ptr o_ 1 0 0, .pt 3 [Sl.enc c178.2.code, iv c178.2.pos, AV.sc (.int .u64 c178.2.seed)]), (AV.ptr o1 1 0 0, .pt 1 [nilS]), (AV.ptr o5 1 0 0, .pt 1 [x168]), (AV.ptr o63 1 0 0, .pt 1 [x61])] ++ D2 (A := Stroke) x168 ps171) := Hold.rot (l := [(AV.ptr o_ 1 0 0, .pt 3 [Sl.enc c178.2.code, iv c178.2.pos, AV.sc (.int .u64 c178.2.seed)]), (AV.ptr o1 1 0 0, .pt 1 [nilS]), (AV.ptr o5 1 0 0, .pt 1 [x168]), (AV.ptr o63 1 0 0, .pt 1 [x61])]) (d := D2 (A := Stroke) x168 ps171) (n := []) (O176.merge (i := 0) rfl rfl O182)
        refine sim_let (v := iv (wr ((wr (c177 + 1)) + c178.1))) (aBin_add _ _) ?_
        refine sim_let (v := iv (wr (w36 - 1))) (aBin_sub _ _) ?_
        have O184 : Hold B h180 ([(AV.ptr o_ 1 0 0, .pt 3 [Sl.enc c178.2.code, iv c178.2.pos, AV.sc (.int .u64 c178.2.seed)]), (AV.ptr o1 1 0 0, .pt 1 [nilS]), (AV.ptr o5 1 0 0, .pt 1 [x168])] ++ D2 (A := Stroke) x168 ps171) := O183.selD [0, 1, 2] (by decide) rfl
        exact sim_ret ⟨rfl, _, _, rfl, hp172, O184⟩
  · exact sim_ret ⟨nofun, _, _, _, _, _, _, _, _, rfl, hp31, O33⟩
theorem ts_spec_l14Draw (env : Nat → Contract) (he_spec_l00Src_one : env n_spec_l00Src_one = .gen (denFn Try.prog ev_spec_l00Src_one n_spec_l00Src_one)) (he_spec_l00Src_pick : env n_spec_l00Src_pick = .gen (denFn Try.prog ev_spec_l00Src_pick n_spec_l00Src_pick)) (he_spec_l02DrawStroke : env n_spec_l02DrawStroke = .gen (denFn Try.prog ev_spec_l02DrawStroke n_spec_l02DrawStroke)) (he_spec_l02Last : env n_spec_l02Last = .pure (C1 (fun c : Int => enc c) tp_spec_l02Last)) {B : Base} {h : Heap} {o_ : Nat} (s_ : l00Src) (most_ : Int) (O : Hold B h [(AV.ptr o_ 1 0 0, .pt 3 [Sl.enc s_.code, iv s_.pos, AV.sc (.int .u64 s_.seed)])]) : Sim (denFn Try.prog env n_spec_l14Draw [AV.ptr o_ 1 0 0, iv most_] h) (t_spec_l14Draw s_ most_) (fun c p => ∃ x1, ∃ ps1 : PS Stroke, p.1 = AV.agg [x1] ∧ pj ps1 = c.1.strokes ∧ Hold B p.2 ([(AV.ptr o_ 1 0 0, .pt 3 [Sl.enc c.2.code, iv c.2.pos, AV.sc (.int .u64 c.2.seed)])] ++ D2 (A := Stroke) x1 ps1)) := by
  rw [e_spec_l14Draw]
  unfold t_spec_l14Draw
  refine sim_box O (cs := [nilS]) (by first | rfl | simp) (fun o1 h2 O3 => ?_)
  replace O3 : Hold B h2 [(AV.ptr o_ 1 0 0, .pt 3 [Sl.enc s_.code, iv s_.pos, AV.sc (.int .u64 s_.seed)]), (AV.ptr o1 1 0 0, .pt 1 [nilS])] := O3
  refine sim_let (v := AV.agg [nilS]) (by first | rfl | simp [aBuild, aFill, splice]) ?_
  refine sim_box O3 (cs := [nilS]) (by first | rfl | simp) (fun o5 h6 O7 => ?_)
  replace O7 : Hold B h6 [(AV.ptr o_ 1 0 0, .pt 3 [Sl.enc s_.code, iv s_.pos, AV.sc (.int .u64 s_.seed)]), (AV.ptr o1 1 0 0, .pt 1 [nilS]), (AV.ptr o5 1 0 0, .pt 1 [nilS])] := O7
  refine sim_store O7 2 (cs' := [nilS]) rfl (by first | rfl | simp) (by simp) (by first | rfl | simp) (by first | rfl | simp [splice]) (fun h9 O10 => ?_)
  replace O10 : Hold B h9 [(AV.ptr o_ 1 0 0, .pt 3 [Sl.enc s_.code, iv s_.pos, AV.sc (.int .u64 s_.seed)]), (AV.ptr o1 1 0 0, .pt 1 [nilS]), (AV.ptr o5 1 0 0, .pt 1 [nilS])] := O10
  refine sim_gen he_spec_l00Src_pick (tg_spec_l00Src_pick s_ 200 (O10.start (i := 0) rfl rfl)) (fun c11 v12 h13 hq14 => ?_)
  obtain ⟨e_v12, O15⟩ := hq14
  dsimp only at e_v12
  subst v12
  have O16 : Hold B h13 [(AV.ptr o_ 1 0 0, .pt 3 [Sl.enc c11.2.code, iv c11.2.pos, AV.sc (.int .u64 c11.2.seed)]), (AV.ptr o1 1 0 0, .pt 1 [nilS]), (AV.ptr o5 1 0 0, .pt 1 [nilS])] := O10.merge (i := 0) rfl rfl O15
  refine sim_let (v := iv (wr (most_ + 1))) (aBin_add _ _) ?_
  refine sim_gen he_spec_l00Src_pick (tg_spec_l00Src_pick c11.2 (wr (most_ + 1)) (O16.start (i := 0) rfl rfl)) (fun c17 v18 h19 hq20 => ?_)
  obtain ⟨e_v18, O21⟩ := hq20
  dsimp only at e_v18
  subst v18
  have O22 : Hold B h19 [(AV.ptr o_ 1 0 0, .pt 3 [Sl.enc c17.2.code, iv c17.2.pos, AV.sc (.int .u64 c17.2.seed)]), (AV.ptr o1 1 0 0, .pt 1 [nilS]), (AV.ptr o5 1 0 0, .pt 1 [nilS])] := O16.merge (i := 0) rfl rfl O21
  have O23 : Hold B h19 ([(AV.ptr o_ 1 0 0, .pt 3 [Sl.enc c17.2.code, iv c17.2.pos, AV.sc (.int .u64 c17.2.seed)]), (AV.ptr o1 1 0 0, .pt 1 [nilS]), (AV.ptr o5 1 0 0, .pt 1 [nilS])] ++ D2 (A := Stroke) nilS (none : PS Stroke)) := O22.addnil
  refine sim_bind ((tl0_spec_l14Draw env he_spec_l00Src_one he_spec_l00Src_pick he_spec_l02DrawStroke he_spec_l02Last o_ most_ o1 o5 c11 c17) ⟨_, _, rfl, (rfl : pj (none : PS Stroke) = (none : Sl Stroke)), O23⟩) (fun qq187 r hq => ?_)
  obtain ⟨q39, q40, q41, q43⟩ := qq187
  obtain ⟨q46, q47, q48, z42, z49, z50, ps44, h37, rfl, hp45, O38⟩ := hq
  rw [e_lk0x0_spec_l14Draw]
  refine sim_let (v := AV.agg [z42]) (O38.ld 2 rfl true 1 0) ?_
  refine sim_store O38 1 (cs' := [z42]) rfl (by first | rfl | simp [(D2.oneX (l := [(AV.ptr o_ 1 0 0, .pt 3 [Sl.enc q39, iv q40, AV.sc (.int .u64 q41)]), (AV.ptr o1 1 0 0, .pt 1 [nilS]), (AV.ptr o5 1 0 0, .pt 1 [z42])]) (x := z42) (ps := ps44) (A := Stroke) O38).1, (D2.oneX (l := [(AV.ptr o_ 1 0 0, .pt 3 [Sl.enc q39, iv q40, AV.sc (.int .u64 q41)]), (AV.ptr o1 1 0 0, .pt 1 [nilS]), (AV.ptr o5 1 0 0, .pt 1 [z42])]) (x := z42) (ps := ps44) (A := Stroke) O38).2]) (by simp) (by first | rfl | simp [(D2.oneX (l := [(AV.ptr o_ 1 0 0, .pt 3 [Sl.enc q39, iv q40, AV.sc (.int .u64 q41)]), (AV.ptr o1 1 0 0, .pt 1 [nilS]), (AV.ptr o5 1 0 0, .pt 1 [z42])]) (x := z42) (ps := ps44) (A := Stroke) O38).1, (D2.oneX (l := [(AV.ptr o_ 1 0 0, .pt 3 [Sl.enc q39, iv q40, AV.sc (.int .u64 q41)]), (AV.ptr o1 1 0 0, .pt 1 [nilS]), (AV.ptr o5 1 0 0, .pt 1 [z42])]) (x := z42) (ps := ps44) (A := Stroke) O38).2]) (by first | rfl | simp [splice, (D2.oneX (l := [(AV.ptr o_ 1 0 0, .pt 3 [Sl.enc q39, iv q40, AV.sc (.int .u64 q41)]), (AV.ptr o1 1 0 0, .pt 1 [nilS]), (AV.ptr o5 1 0 0, .pt 1 [z42])]) (x := z42) (ps := ps44) (A := Stroke) O38).1, (D2.oneX (l := [(AV.ptr o_ 1 0 0, .pt 3 [Sl.enc q39, iv q40, AV.sc (.int .u64 q41)]), (AV.ptr o1 1 0 0, .pt 1 [nilS]), (AV.ptr o5 1 0 0, .pt 1 [z42])]) (x := z42) (ps := ps44) (A := Stroke) O38).2]) (fun h51 O52 => ?_)
  replace O52 : Hold B h51 ([(AV.ptr o_ 1 0 0, .pt 3 [Sl.enc q39, iv q40, AV.sc (.int .u64 q41)]), (AV.ptr o1 1 0 0, .pt 1 [z42]), (AV.ptr o5 1 0 0, .pt 1 [z42])] ++ D2 (A := Stroke) z42 ps44) := O52
  refine sim_retL (resL_c (v := AV.agg [z42]) (O52.ld 1 rfl true 1 0) (resL_nil _)) ?_
  dsimp only [pack]
  have O53 : Hold B h51 ([(AV.ptr o_ 1 0 0, .pt 3 [Sl.enc q39, iv q40, AV.sc (.int .u64 q41)])] ++ D2 (A := Stroke) z42 ps44) := O52.selD [0] (by decide) rfl
  exact sim_ret ⟨_, _, rfl, hp45, O53⟩
noncomputable def ev_spec_l14Draw : Nat → Contract := envL [(n_spec_l00Src_one, .gen (denFn Try.prog ev_spec_l00Src_one n_spec_l00Src_one)), (n_spec_l00Src_pick, .gen (denFn Try.prog ev_spec_l00Src_pick n_spec_l00Src_pick)), (n_spec_l02DrawStroke, .gen (denFn Try.prog ev_spec_l02DrawStroke n_spec_l02DrawStroke)), (n_spec_l02Last, .pure (C1 (fun c : Int => enc c) tp_spec_l02Last))]
theorem eo_spec_l14Draw : EnvOK Try.prog ev_spec_l14Draw := (EconsG (gen_of_den eo_spec_l00Src_one mixed hb_spec_l00Src_one) (EconsG (gen_of_den eo_spec_l00Src_pick mixed hb_spec_l00Src_pick) (EconsG (gen_of_den eo_spec_l02DrawStroke mixed hb_spec_l02DrawStroke) (Econs tt_spec_l02Last E0))))
theorem tg_spec_l14Draw {B : Base} {h : Heap} {o_ : Nat} (s_ : l00Src) (most_ : Int) (O : Hold B h [(AV.ptr o_ 1 0 0, .pt 3 [Sl.enc s_.code, iv s_.pos, AV.sc (.int .u64 s_.seed)])]) : Sim (denFn Try.prog ev_spec_l14Draw n_spec_l14Draw [AV.ptr o_ 1 0 0, iv most_] h) (t_spec_l14Draw s_ most_) (fun c p => ∃ x1, ∃ ps1 : PS Stroke, p.1 = AV.agg [x1] ∧ pj ps1 = c.1.strokes ∧ Hold B p.2 ([(AV.ptr o_ 1 0 0, .pt 3 [Sl.enc c.2.code, iv c.2.pos, AV.sc (.int .u64 c.2.seed)])] ++ D2 (A := Stroke) x1 ps1)) := ts_spec_l14Draw ev_spec_l14Draw (by simp [ev_spec_l14Draw, envL]) (by simp [ev_spec_l14Draw, envL]) (by simp [ev_spec_l14Draw, envL]) (by simp [ev_spec_l14Draw, envL]) s_ most_  O

def t_spec_A2Ink (code_ : Sl UInt8) : Option Ink :=
  obind (t_spec_l00Src_one (⟨code_, 0, 0⟩ : l00Src) 3) fun c9 =>
  bif c9.1 then
    obind (t_spec_l14Draw c9.2 6) fun c16 =>
    some c16.1
  else
    obind (t_spec_l02Draw c9.2 5) fun c29 =>
    some c29.1

theorem ts_spec_A2Ink (env : Nat → Contract) (he_spec_l00From : env n_spec_l00From = .pure (C1 fromA (fun q : Sl UInt8 => some q))) (he_spec_l00Src_one : env n_spec_l00Src_one = .gen (denFn Try.prog ev_spec_l00Src_one n_spec_l00Src_one)) (he_spec_l02Draw : env n_spec_l02Draw = .gen (denFn Try.prog ev_spec_l02Draw n_spec_l02Draw)) (he_spec_l14Draw : env n_spec_l14Draw = .gen (denFn Try.prog ev_spec_l14Draw n_spec_l14Draw)) (code_ : Sl UInt8) : Sim (denFn Try.prog env n_spec_A2Ink [Sl.enc code_] []) (t_spec_A2Ink code_) fun c p => release p.2 depth p.1 = some ((fun c : Ink => AV.agg [rD c.strokes]) c) := by
  have O := Hold.nil []
  generalize hB : (⟨[], []⟩ : Base) = B at O
  clear hB
  rw [e_spec_A2Ink]
  unfold t_spec_A2Ink
  refine sim_box O (cs := [nilS]) (by first | rfl | simp) (fun o1 h2 O3 => ?_)
  replace O3 : Hold B h2 [(AV.ptr o1 1 0 0, .pt 1 [nilS])] := O3
  refine sim_src O3 he_spec_l00From (snapD_enc _ _) (by first | rfl | exact noRef_enc _) (fun o5 h6 O7 => ?_)
  replace O7 : Hold B h6 [(AV.ptr o1 1 0 0, .pt 1 [nilS]), (AV.ptr o5 1 0 0, .pt 3 [Sl.enc code_, iv 0, AV.sc (.int .u64 0)])] := O7
  refine sim_gen he_spec_l00Src_one (tg_spec_l00Src_one (⟨code_, 0, 0⟩ : l00Src) 3 (O7.start (i := 1) rfl rfl)) (fun c9 v10 h11 hq12 => ?_)
  obtain ⟨e_v10, O13⟩ := hq12
  dsimp only at e_v10
  subst v10
  have O14 : Hold B h11 [(AV.ptr o1 1 0 0, .pt 1 [nilS]), (AV.ptr o5 1 0 0, .pt 3 [Sl.enc c9.2.code, iv c9.2.pos, AV.sc (.int .u64 c9.2.seed)])] := O7.merge (i := 1) rfl rfl O13
  refine sim_cond (fun c15 => ?_) (fun c15 => ?_)
  · refine sim_gen he_spec_l14Draw (tg_spec_l14Draw c9.2 6 (O14.start (i := 1) rfl rfl)) (fun c16 v17 h18 hq19 => ?_)
    obtain ⟨x22, ps24, e_v17, hp25, O20⟩ := hq19
    dsimp only at e_v17
    subst v17
    have O21 : Hold B h18 ([(AV.ptr o1 1 0 0, .pt 1 [nilS]), (AV.ptr o5 1 0 0, .pt 3 [Sl.enc c16.2.code, iv c16.2.pos, AV.sc (.int .u64 c16.2.seed)])] ++ D2 (A := Stroke) x22 ps24) := O14.merge (i := 1) rfl rfl O20
    refine sim_store O21 0 (cs' := [x22]) rfl (by first | rfl | simp [(D2.oneX (l := [(AV.ptr o1 1 0 0, .pt 1 [nilS]), (AV.ptr o5 1 0 0, .pt 3 [Sl.enc c16.2.code, iv c16.2.pos, AV.sc (.int .u64 c16.2.seed)])]) (x := x22) (ps := ps24) (A := Stroke) O21).1, (D2.oneX (l := [(AV.ptr o1 1 0 0, .pt 1 [nilS]), (AV.ptr o5 1 0 0, .pt 3 [Sl.enc c16.2.code, iv c16.2.pos, AV.sc (.int .u64 c16.2.seed)])]) (x := x22) (ps := ps24) (A := Stroke) O21).2]) (by simp) (by first | rfl | simp [(D2.oneX (l := [(AV.ptr o1 1 0 0, .pt 1 [nilS]), (AV.ptr o5 1 0 0, .pt 3 [Sl.enc c16.2.code, iv c16.2.pos, AV.sc (.int .u64 c16.2.seed)])]) (x := x22) (ps := ps24) (A := Stroke) O21).1, (D2.oneX (l := [(AV.ptr o1 1 0 0, .pt 1 [nilS]), (AV.ptr o5 1 0 0, .pt 3 [Sl.enc c16.2.code, iv c16.2.pos, AV.sc (.int .u64 c16.2.seed)])]) (x := x22) (ps := ps24) (A := Stroke) O21).2]) (by first | rfl | simp [splice, (D2.oneX (l := [(AV.ptr o1 1 0 0, .pt 1 [nilS]), (AV.ptr o5 1 0 0, .pt 3 [Sl.enc c16.2.code, iv c16.2.pos, AV.sc (.int .u64 c16.2.seed)])]) (x := x22) (ps := ps24) (A := Stroke) O21).1, (D2.oneX (l := [(AV.ptr o1 1 0 0, .pt 1 [nilS]), (AV.ptr o5 1 0 0, .pt 3 [Sl.enc c16.2.code, iv c16.2.pos, AV.sc (.int .u64 c16.2.seed)])]) (x := x22) (ps := ps24) (A := Stroke) O21).2]) (fun h26 O27 => ?_)
    replace O27 : Hold B h26 ([(AV.ptr o1 1 0 0, .pt 1 [x22]), (AV.ptr o5 1 0 0, .pt 3 [Sl.enc c16.2.code, iv c16.2.pos, AV.sc (.int .u64 c16.2.seed)])] ++ D2 (A := Stroke) x22 ps24) := O27
    refine sim_retL (resL_c (v := AV.agg [x22]) (O27.ld 0 rfl true 1 0) (resL_nil _)) ?_
    dsimp only [pack]
    have O28 : Hold B h26 ([] ++ D2 (A := Stroke) x22 ps24) := O27.selD [] (by decide) rfl
    exact sim_ret (release_of (by simp only [ids_tup, ids_aggD, ids_agg, ids_iv, ids_bv, ids_sv, ids_bt, ids_nilS, ids_enc, D2.idsN (l := []) (x := x22) (ps := ps24) (A := Stroke) O28, List.map_append, List.map_nil, List.flatMap_cons, List.flatMap_nil, List.append_nil, List.nil_append]; simpa only [List.flatMap_cons, List.flatMap_nil, List.append_nil, List.nil_append] using O28.nd2) (by simp only [rel_tup, rel_aggD, rel_agg, rel_iv, rel_bv, rel_sv, rel_bt, rel_nilS, rel_enc, D2.relN (l := []) (x := x22) (ps := ps24) (A := Stroke) O28 hp25, omapc, omapn, obind_sm] <;> rfl))
  · refine sim_gen he_spec_l02Draw (tg_spec_l02Draw c9.2 5 (O14.start (i := 1) rfl rfl)) (fun c29 v30 h31 hq32 => ?_)
    obtain ⟨x35, ps37, e_v30, hp38, O33⟩ := hq32
    dsimp only at e_v30
    subst v30
    have O34 : Hold B h31 ([(AV.ptr o1 1 0 0, .pt 1 [nilS]), (AV.ptr o5 1 0 0, .pt 3 [Sl.enc c29.2.code, iv c29.2.pos, AV.sc (.int .u64 c29.2.seed)])] ++ D2 (A := Stroke) x35 ps37) := O14.merge (i := 1) rfl rfl O33
    refine sim_store O34 0 (cs' := [x35]) rfl (by first | rfl | simp [(D2.oneX (l := [(AV.ptr o1 1 0 0, .pt 1 [nilS]), (AV.ptr o5 1 0 0, .pt 3 [Sl.enc c29.2.code, iv c29.2.pos, AV.sc (.int .u64 c29.2.seed)])]) (x := x35) (ps := ps37) (A := Stroke) O34).1, (D2.oneX (l := [(AV.ptr o1 1 0 0, .pt 1 [nilS]), (AV.ptr o5 1 0 0, .pt 3 [Sl.enc c29.2.code, iv c29.2.pos, AV.sc (.int .u64 c29.2.seed)])]) (x := x35) (ps := ps37) (A := Stroke) O34).2]) (by simp) (by first | rfl | simp [(D2.oneX (l := [(AV.ptr o1 1 0 0, .pt 1 [nilS]), (AV.ptr o5 1 0 0, .pt 3 [Sl.enc c29.2.code, iv c29.2.pos, AV.sc (.int .u64 c29.2.seed)])]) (x := x35) (ps := ps37) (A := Stroke) O34).1, (D2.oneX (l := [(AV.ptr o1 1 0 0, .pt 1 [nilS]), (AV.ptr o5 1 0 0, .pt 3 [Sl.enc c29.2.code, iv c29.2.pos, AV.sc (.int .u64 c29.2.seed)])]) (x := x35) (ps := ps37) (A := Stroke) O34).2]) (by first | rfl | simp [splice, (D2.oneX (l := [(AV.ptr o1 1 0 0, .pt 1 [nilS]), (AV.ptr o5 1 0 0, .pt 3 [Sl.enc c29.2.code, iv c29.2.pos, AV.sc (.int .u64 c29.2.seed)])]) (x := x35) (ps := ps37) (A := Stroke) O34).1, (D2.oneX (l := [(AV.ptr o1 1 0 0, .pt 1 [nilS]), (AV.ptr o5 1 0 0, .pt 3 [Sl.enc c29.2.code, iv c29.2.pos, AV.sc (.int .u64 c29.2.seed)])]) (x := x35) (ps := ps37) (A := Stroke) O34).2]) (fun h39 O40 => ?_)
    replace O40 : Hold B h39 ([(AV.ptr o1 1 0 0, .pt 1 [x35]), (AV.ptr o5 1 0 0, .pt 3 [Sl.enc c29.2.code, iv c29.2.pos, AV.sc (.int .u64 c29.2.seed)])] ++ D2 (A := Stroke) x35 ps37) := O40
    refine sim_retL (resL_c (v := AV.agg [x35]) (O40.ld 0 rfl true 1 0) (resL_nil _)) ?_
    dsimp only [pack]
    have O41 : Hold B h39 ([] ++ D2 (A := Stroke) x35 ps37) := O40.selD [] (by decide) rfl
    exact sim_ret (release_of (by simp only [ids_tup, ids_aggD, ids_agg, ids_iv, ids_bv, ids_sv, ids_bt, ids_nilS, ids_enc, D2.idsN (l := []) (x := x35) (ps := ps37) (A := Stroke) O41, List.map_append, List.map_nil, List.flatMap_cons, List.flatMap_nil, List.append_nil, List.nil_append]; simpa only [List.flatMap_cons, List.flatMap_nil, List.append_nil, List.nil_append] using O41.nd2) (by simp only [rel_tup, rel_aggD, rel_agg, rel_iv, rel_bv, rel_sv, rel_bt, rel_nilS, rel_enc, D2.relN (l := []) (x := x35) (ps := ps37) (A := Stroke) O41 hp38, omapc, omapn, obind_sm] <;> rfl))
theorem tt_spec_A2Ink : PureOK Try.prog n_spec_A2Ink (C1 (fun c : Ink => AV.agg [rD c.strokes]) t_spec_A2Ink) := pureC1 (Econs tt_spec_l00From (EconsG (gen_of_den eo_spec_l00Src_one mixed hb_spec_l00Src_one) (EconsG (gen_of_den eo_spec_l02Draw mixed hb_spec_l02Draw) (EconsG (gen_of_den eo_spec_l14Draw mixed hb_spec_l14Draw) E0)))) mixed hb_spec_A2Ink fun code_ => ts_spec_A2Ink _ (by simp [envL]) (by simp [envL]) (by simp [envL]) (by simp [envL]) code_

def s0_impl_ValidInk (i_ : Ink) : Int → Option (Sum Int (Sum Unit Bool)) := fun w7 =>
  bif decide (w7 < (((i_.strokes.getD []).length : Nat) : Int)) then
    obind (getI (i_.strokes.getD []) w7) fun a19 =>
    obind (t_impl_ValidStroke a19) fun c29 =>
    obind (bif !c29 then some false else (some (decide (0 < w7)))) fun c31 =>
    obind (bif (!(!c29) && c31) then (obind (t_impl_firstOf a19) fun c35 => obind (getI (i_.strokes.getD []) (wr (w7 - 1))) fun a36 => obind (t_impl_lastOf a36) fun c40 => some (decide (c35.t ≤ c40.t))) else some false) fun c41 =>
    obind (bif !c29 then some false else (some (bif c31 then c41 else false))) fun c54 =>
    bif (bif !c29 then true else c54) then
      some (.inr (.inr false))
    else
      some (.inl (wr (w7 + 1)))
  else
    some (.inr (.inl ()))
def t_impl_ValidInk (i_ : Ink) : Option Bool :=
  obind (loopT (s0_impl_ValidInk i_) 0) fun qq60 => match qq60 with
  | (.inl _) =>
      some (decide ((((i_.strokes.getD []).length : Nat) : Int) ≤ 16))
  | (.inr q15) =>
      some q15

theorem tl0_impl_ValidInk (env : Nat → Contract) {B : Base} (he_impl_ValidStroke : env n_impl_ValidStroke = .pure (C1 (fun c : Bool => enc c) t_impl_ValidStroke)) (he_impl_firstOf : env n_impl_firstOf = .pure (C1 (fun c : Point => enc c) t_impl_firstOf)) (he_impl_lastOf : env n_impl_lastOf = .pure (C1 (fun c : Point => enc c) t_impl_lastOf)) (i_ : Ink) (o1 : Nat)  {st : Int} {tm : TM} {h : Heap} (R : (fun (st : Int) tm h5 => match st with | w7 => tm = [AV.agg [Sl.enc i_.strokes], AV.ptr o1 1 0 0, AV.top, AV.top, AV.top, AV.ptr o1 1 0 0, Sl.enc i_.strokes, iv (((i_.strokes.getD []).length : Nat) : Int), iv w7, AV.top, AV.top, AV.top, AV.top, AV.top, AV.top, AV.top, AV.top, AV.top, AV.top, AV.top, AV.top, AV.top, AV.top, AV.top, AV.top, AV.top, AV.top, AV.top, AV.top, AV.top, AV.top, AV.top, AV.top, AV.top, AV.top, und, und, und, und] ∧ Hold B h5 [(AV.ptr o1 1 0 0, .pt 1 [Sl.enc i_.strokes])]) st tm h) : Sim (loopP hm0_impl_ValidInk xm0_impl_ValidInk (lb0_impl_ValidInk env) tm h) (loopT (s0_impl_ValidInk i_) st) (fun (q : Sum Unit Bool) (r : Res) => match q with | .inl _ => ∃ (z10 : AV) (z11 : AV) (z12 : AV) (h8 : Heap), r = (.exit 0, [AV.agg [Sl.enc i_.strokes], AV.ptr o1 1 0 0, z10, z11, z12, AV.ptr o1 1 0 0, Sl.enc i_.strokes, iv (((i_.strokes.getD []).length : Nat) : Int), AV.top, AV.top, AV.top, AV.top, AV.top, AV.top, AV.top, AV.top, AV.top, AV.top, AV.top, AV.top, AV.top, AV.top, AV.top, AV.top, AV.top, AV.top, AV.top, AV.top, AV.top, AV.top, AV.top, AV.top, AV.top, AV.top, AV.top, und, und, und, und], h8) ∧ Hold B h8 [(AV.ptr o1 1 0 0, .pt 1 [Sl.enc i_.strokes])] | .inr q15 => ∃ (q16 : Int) (z17 : AV) (h13 : Heap), r = (.ret, [AV.agg [Sl.enc i_.strokes], AV.ptr o1 1 0 0, bv q15, iv q16, z17, AV.ptr o1 1 0 0, Sl.enc i_.strokes, iv (((i_.strokes.getD []).length : Nat) : Int), AV.top, AV.top, AV.top, AV.top, AV.top, AV.top, AV.top, AV.top, AV.top, AV.top, AV.top, AV.top, AV.top, AV.top, AV.top, AV.top, AV.top, AV.top, AV.top, AV.top, AV.top, AV.top, AV.top, AV.top, AV.top, AV.top, AV.top, und, und, und, und], h13) ∧ Hold B h13 [(AV.ptr o1 1 0 0, .pt 1 [Sl.enc i_.strokes])]) := by
  refine loop_sim (Rel := fun (st : Int) tm h5 => match st with | w7 => tm = [AV.agg [Sl.enc i_.strokes], AV.ptr o1 1 0 0, AV.top, AV.top, AV.top, AV.ptr o1 1 0 0, Sl.enc i_.strokes, iv (((i_.strokes.getD []).length : Nat) : Int), iv w7, AV.top, AV.top, AV.top, AV.top, AV.top, AV.top, AV.top, AV.top, AV.top, AV.top, AV.top, AV.top, AV.top, AV.top, AV.top, AV.top, AV.top, AV.top, AV.top, AV.top, AV.top, AV.top, AV.top, AV.top, AV.top, AV.top, und, und, und, und] ∧ Hold B h5 [(AV.ptr o1 1 0 0, .pt 1 [Sl.enc i_.strokes])]) (fun w7 tm h5 R => ?_) R
  obtain ⟨rfl, O6⟩ := R
  rw [e_lb0_impl_ValidInk]
  unfold s0_impl_ValidInk
  dsimp only
  refine sim_let (v := bv (decide (w7 < (((i_.strokes.getD []).length : Nat) : Int)))) (aBin_lss _ _) ?_
  refine sim_cond (fun c18 => ?_) (fun c18 => ?_)
  · refine sim_get (Tab.enc h5 i_.strokes) (fun m20 a19 hi21 hm22 => ?_)
    refine sim_let (v := AV.agg [Sl.enc a19.points]) ((Tab.enc h5 i_.strokes).ld hm22 true 1 0) ?_
    refine sim_box O6 (cs := [nilS]) (by first | rfl | simp) (fun o23 h24 O25 => ?_)
    replace O25 : Hold B h24 [(AV.ptr o1 1 0 0, .pt 1 [Sl.enc i_.strokes]), (AV.ptr o23 1 0 0, .pt 1 [nilS])] := O25
    refine sim_store O25 1 (cs' := [Sl.enc a19.points]) rfl (by first | rfl | simp) (by simp) (by first | rfl | simp) (by first | rfl | simp [splice]) (fun h27 O28 => ?_)
    replace O28 : Hold B h27 [(AV.ptr o1 1 0 0, .pt 1 [Sl.enc i_.strokes]), (AV.ptr o23 1 0 0, .pt 1 [Sl.enc a19.points])] := O28
    refine sim_let (v := AV.agg [Sl.enc a19.points]) (O28.ld 1 rfl true 1 0) ?_
    refine sim_callQ1 he_impl_ValidStroke (snapD_nr _ a19 rfl) (fun c29 => ?_)
    refine sim_let2 (hand_plain (by rfl) _ _) ?_
    refine sim_let (v := bv (!c29)) (aUn_not _) ?_
    refine sim_g3F (e := bv) (fun hb30 => ?_) (fun y32 y33 c31 => ?_)
    · refine sim_o0 ?_
      refine sim_o1 ?_
      refine sim_let (v := bv (decide (0 < w7))) (aBin_gtr _ _) ?_
      refine sim_o0 ?_
      exact sim_ret rfl
    · simp only [gv_FT]
      refine sim_g12T (e := bv) (fun hb34 => ?_) (fun y42 y43 y44 y45 y46 y47 y48 y49 y50 y51 y52 c41 => ?_)
      · refine sim_o1 ?_
        refine sim_let (v := AV.agg [Sl.enc a19.points]) (O28.ld 1 rfl true 1 0) ?_
        refine sim_o0 ?_
        refine sim_o2 ?_
        refine sim_callQ1 he_impl_firstOf (snapD_nr _ a19 rfl) (fun c35 => ?_)
        refine sim_let2 (hand_plain (by rfl) _ _) ?_
        refine sim_o0 ?_
        refine sim_o1 ?_
        refine sim_let (v := iv c35.t) rfl ?_
        refine sim_o0 ?_
        refine sim_o1 ?_
        refine sim_let (v := AV.ptr o1 1 0 0) rfl ?_
        refine sim_o0 ?_
        refine sim_o1 ?_
        refine sim_let (v := Sl.enc i_.strokes) (O28.ld 0 rfl false 1 0) ?_
        refine sim_o0 ?_
        refine sim_o0 ?_
        refine sim_o1 ?_
        refine sim_let (v := iv (wr (w7 - 1))) (aBin_sub _ _) ?_
        refine sim_o0 ?_
        refine sim_o1 ?_
        refine sim_get (Tab.enc h27 i_.strokes) (fun m37 a36 hi38 hm39 => ?_)
        refine sim_o0 ?_
        refine sim_o1 ?_
        refine sim_let (v := AV.agg [Sl.enc a36.points]) ((Tab.enc h27 i_.strokes).ld hm39 true 1 0) ?_
        refine sim_o0 ?_
        refine sim_o2 ?_
        refine sim_callQ1 he_impl_lastOf (snapD_nr _ a36 rfl) (fun c40 => ?_)
        refine sim_let2 (hand_plain (by rfl) _ _) ?_
        refine sim_o0 ?_
        refine sim_o1 ?_
        refine sim_let (v := iv c40.t) rfl ?_
        refine sim_o0 ?_
        refine sim_let (v := bv (decide (c35.t ≤ c40.t))) (aBin_leq _ _) ?_
        exact sim_ret rfl
      · refine sim_guardF (e := bv) (fun hb53 => ?_) (fun c54 => ?_)
        · simp only [hb53, cond_true, cond_false, Bool.not_true, Bool.not_false, Bool.true_and, Bool.and_true, Bool.false_and, Bool.not_not]
          refine sim_let (v := bv (bif c31 then c41 else false)) (pick_b _ _ _) ?_
          exact sim_ret rfl
        · refine sim_let (v := bv (bif !c29 then true else c54)) (pick_b' _ _ _) ?_
          refine sim_cond (fun c55 => ?_) (fun c55 => ?_)
          · have O56 : Hold B h27 [(AV.ptr o1 1 0 0, .pt 1 [Sl.enc i_.strokes])] := O28.sel [0] (by decide) rfl
            exact sim_ret ⟨nofun, _, _, _, rfl, O56⟩
          · refine sim_let (v := iv (wr (w7 + 1))) (aBin_add _ _) ?_
            have O57 : Hold B h27 [(AV.ptr o1 1 0 0, .pt 1 [Sl.enc i_.strokes])] := O28.sel [0] (by decide) rfl
            exact sim_ret ⟨rfl, rfl, O57⟩
  · exact sim_ret ⟨nofun, _, _, _, _, rfl, O6⟩
theorem ts_impl_ValidInk (env : Nat → Contract) (he_impl_ValidStroke : env n_impl_ValidStroke = .pure (C1 (fun c : Bool => enc c) t_impl_ValidStroke)) (he_impl_firstOf : env n_impl_firstOf = .pure (C1 (fun c : Point => enc c) t_impl_firstOf)) (he_impl_lastOf : env n_impl_lastOf = .pure (C1 (fun c : Point => enc c) t_impl_lastOf)) (i_ : Ink) : Sim (denFn Try.prog env n_impl_ValidInk [AV.agg [Sl.enc i_.strokes]] []) (t_impl_ValidInk i_) fun c p => release p.2 depth p.1 = some ((fun c : Bool => enc c) c) := by
  have O := Hold.nil []
  generalize hB : (⟨[], []⟩ : Base) = B at O
  clear hB
  rw [e_impl_ValidInk]
  unfold t_impl_ValidInk
  refine sim_box O (cs := [Sl.enc i_.strokes]) (by first | rfl | simp) (fun o1 h2 O3 => ?_)
  replace O3 : Hold B h2 [(AV.ptr o1 1 0 0, .pt 1 [Sl.enc i_.strokes])] := O3
  refine sim_let (v := AV.ptr o1 1 0 0) rfl ?_
  refine sim_let (v := Sl.enc i_.strokes) (O3.ld 0 rfl false 1 0) ?_
  refine sim_let (v := iv (((i_.strokes.getD []).length : Nat) : Int)) (Tab.enc h2 i_.strokes).len ?_
  refine sim_bind ((tl0_impl_ValidInk env he_impl_ValidStroke he_impl_firstOf he_impl_lastOf i_ o1) ⟨rfl, O3⟩) (fun qq60 r hq => ?_)
  rcases qq60 with _ | q15
  · obtain ⟨z10, z11, z12, h8, rfl, O9⟩ := hq
    rw [e_lk0x0_impl_ValidInk]
    refine sim_let (v := AV.ptr o1 1 0 0) rfl ?_
    refine sim_let (v := Sl.enc i_.strokes) (O9.ld 0 rfl false 1 0) ?_
    refine sim_let (v := iv (((i_.strokes.getD []).length : Nat) : Int)) (Tab.enc h8 i_.strokes).len ?_
    refine sim_let (v := bv (decide ((((i_.strokes.getD []).length : Nat) : Int) ≤ 16))) (aBin_leq _ _) ?_
    exact sim_ret (release_plain (by rfl) _)
  · obtain ⟨q16, z17, h13, rfl, O14⟩ := hq
    rw [e_lk0r_impl_ValidInk]
    exact sim_ret (release_plain (by rfl) _)
theorem tt_impl_ValidInk : PureOK Try.prog n_impl_ValidInk (C1 (fun c : Bool => enc c) t_impl_ValidInk) := pureC1 (Econs tt_impl_ValidStroke (Econs tt_impl_firstOf (Econs tt_impl_lastOf E0))) mixed hb_impl_ValidInk fun i_ => ts_impl_ValidInk _ (by simp [envL]) (by simp [envL]) (by simp [envL]) i_

def s0_impl_boxOfStroke (s_ : Stroke) : (Int × Int × Int × Int × Int) → Option (Sum (Int × Int × Int × Int × Int) (Int × Int × Int × Int)) := fun (w22, w23, w24, w25, w28) =>
  bif decide (w28 < (((s_.points.getD []).length : Nat) : Int)) then
    obind (getI (s_.points.getD []) w28) fun a39 =>
    obind (some (joinBox (⟨w22, w23, w24, w25⟩ : Box) (⟨a39.x, a39.y, a39.x, a39.y⟩ : Box))) fun c49 =>
    some (.inl (c49.x1, c49.y1, c49.x2, c49.y2, wr (w28 + 1)))
  else
    some (.inr (w22, w23, w24, w25))
def t_impl_boxOfStroke (s_ : Stroke) : Option Box :=
  obind (t_impl_firstOf s_) fun c9 =>
  obind (loopT (s0_impl_boxOfStroke s_) (c9.x, c9.y, c9.x, c9.y, 0)) fun (q31, q32, q33, q34) =>
  some (⟨q31, q32, q33, q34⟩ : Box)

theorem tl0_impl_boxOfStroke (env : Nat → Contract) {B : Base} (he_impl_firstOf : env n_impl_firstOf = .pure (C1 (fun c : Point => enc c) t_impl_firstOf)) (he_impl_joinBoxes : env n_impl_joinBoxes = .pure (T2 joinBox)) (s_ : Stroke) (o1 : Nat) (o5 : Nat) (c9 : Point) (o10 : Nat) (o16 : Nat)  {st : Int × Int × Int × Int × Int} {tm : TM} {h : Heap} (R : (fun (st : Int × Int × Int × Int × Int) tm h26 => match st with | (w22, w23, w24, w25, w28) => tm = [AV.agg [Sl.enc s_.points], AV.ptr o1 1 0 0, AV.ptr o5 1 0 0, AV.ptr o10 1 0 0, AV.ptr o16 1 0 0, und, AV.top, AV.agg [Sl.enc s_.points], AV.agg [iv c9.x, iv c9.y, iv c9.t], AV.ptr o10 1 0 0, iv c9.x, AV.ptr o10 1 0 1, iv c9.y, AV.ptr o10 1 0 0, iv c9.x, AV.ptr o10 1 0 1, iv c9.y, AV.agg [iv c9.x, iv c9.y, iv c9.x, iv c9.y], AV.ptr o1 1 0 0, Sl.enc s_.points, iv (((s_.points.getD []).length : Nat) : Int), iv w28, AV.top, AV.top, AV.top, AV.top, AV.top, AV.top, AV.top, AV.top, AV.top, AV.top, AV.top, AV.top, AV.top, AV.top, AV.top, und] ∧ Hold B h26 [(AV.ptr o1 1 0 0, .pt 1 [Sl.enc s_.points]), (AV.ptr o5 1 0 0, .pt 4 [iv 0, iv 0, iv 0, iv 0]), (AV.ptr o10 1 0 0, .pt 3 [iv c9.x, iv c9.y, iv c9.t]), (AV.ptr o16 1 0 0, .pt 4 [iv w22, iv w23, iv w24, iv w25])]) st tm h) : Sim (loopP hm0_impl_boxOfStroke xm0_impl_boxOfStroke (lb0_impl_boxOfStroke env) tm h) (loopT (s0_impl_boxOfStroke s_) st) (fun (q : Int × Int × Int × Int) (r : Res) => match q with | (q31, q32, q33, q34) => ∃ (z35 : AV) (h29 : Heap), r = (.exit 0, [AV.agg [Sl.enc s_.points], AV.ptr o1 1 0 0, AV.ptr o5 1 0 0, AV.ptr o10 1 0 0, AV.ptr o16 1 0 0, und, z35, AV.agg [Sl.enc s_.points], AV.agg [iv c9.x, iv c9.y, iv c9.t], AV.ptr o10 1 0 0, iv c9.x, AV.ptr o10 1 0 1, iv c9.y, AV.ptr o10 1 0 0, iv c9.x, AV.ptr o10 1 0 1, iv c9.y, AV.agg [iv c9.x, iv c9.y, iv c9.x, iv c9.y], AV.ptr o1 1 0 0, Sl.enc s_.points, iv (((s_.points.getD []).length : Nat) : Int), AV.top, AV.top, AV.top, AV.top, AV.top, AV.top, AV.top, AV.top, AV.top, AV.top, AV.top, AV.top, AV.top, AV.top, AV.top, AV.top, und], h29) ∧ Hold B h29 [(AV.ptr o1 1 0 0, .pt 1 [Sl.enc s_.points]), (AV.ptr o5 1 0 0, .pt 4 [iv 0, iv 0, iv 0, iv 0]), (AV.ptr o10 1 0 0, .pt 3 [iv c9.x, iv c9.y, iv c9.t]), (AV.ptr o16 1 0 0, .pt 4 [iv q31, iv q32, iv q33, iv q34])]) := by
  refine loop_sim (Rel := fun (st : Int × Int × Int × Int × Int) tm h26 => match st with | (w22, w23, w24, w25, w28) => tm = [AV.agg [Sl.enc s_.points], AV.ptr o1 1 0 0, AV.ptr o5 1 0 0, AV.ptr o10 1 0 0, AV.ptr o16 1 0 0, und, AV.top, AV.agg [Sl.enc s_.points], AV.agg [iv c9.x, iv c9.y, iv c9.t], AV.ptr o10 1 0 0, iv c9.x, AV.ptr o10 1 0 1, iv c9.y, AV.ptr o10 1 0 0, iv c9.x, AV.ptr o10 1 0 1, iv c9.y, AV.agg [iv c9.x, iv c9.y, iv c9.x, iv c9.y], AV.ptr o1 1 0 0, Sl.enc s_.points, iv (((s_.points.getD []).length : Nat) : Int), iv w28, AV.top, AV.top, AV.top, AV.top, AV.top, AV.top, AV.top, AV.top, AV.top, AV.top, AV.top, AV.top, AV.top, AV.top, AV.top, und] ∧ Hold B h26 [(AV.ptr o1 1 0 0, .pt 1 [Sl.enc s_.points]), (AV.ptr o5 1 0 0, .pt 4 [iv 0, iv 0, iv 0, iv 0]), (AV.ptr o10 1 0 0, .pt 3 [iv c9.x, iv c9.y, iv c9.t]), (AV.ptr o16 1 0 0, .pt 4 [iv w22, iv w23, iv w24, iv w25])]) (fun st tm h26 R => ?_) R
  obtain ⟨w22, w23, w24, w25, w28⟩ := st
  obtain ⟨rfl, O27⟩ := R
  rw [e_lb0_impl_boxOfStroke]
  unfold s0_impl_boxOfStroke
  dsimp only
  refine sim_let (v := bv (decide (w28 < (((s_.points.getD []).length : Nat) : Int)))) (aBin_lss _ _) ?_
  refine sim_cond (fun c38 => ?_) (fun c38 => ?_)
  · refine sim_get (Tab.enc h26 s_.points) (fun m40 a39 hi41 hm42 => ?_)
    refine sim_let (v := AV.agg [iv a39.x, iv a39.y, iv a39.t]) ((Tab.enc h26 s_.points).ld hm42 true 3 0) ?_
    refine sim_box O27 (cs := [iv 0, iv 0, iv 0]) (by first | rfl | simp) (fun o43 h44 O45 => ?_)
    replace O45 : Hold B h44 [(AV.ptr o1 1 0 0, .pt 1 [Sl.enc s_.points]), (AV.ptr o5 1 0 0, .pt 4 [iv 0, iv 0, iv 0, iv 0]), (AV.ptr o10 1 0 0, .pt 3 [iv c9.x, iv c9.y, iv c9.t]), (AV.ptr o16 1 0 0, .pt 4 [iv w22, iv w23, iv w24, iv w25]), (AV.ptr o43 1 0 0, .pt 3 [iv 0, iv 0, iv 0])] := O45
    refine sim_store O45 4 (cs' := [iv a39.x, iv a39.y, iv a39.t]) rfl (by first | rfl | simp) (by simp) (by first | rfl | simp) (by first | rfl | simp [splice]) (fun h47 O48 => ?_)
    replace O48 : Hold B h47 [(AV.ptr o1 1 0 0, .pt 1 [Sl.enc s_.points]), (AV.ptr o5 1 0 0, .pt 4 [iv 0, iv 0, iv 0, iv 0]), (AV.ptr o10 1 0 0, .pt 3 [iv c9.x, iv c9.y, iv c9.t]), (AV.ptr o16 1 0 0, .pt 4 [iv w22, iv w23, iv w24, iv w25]), (AV.ptr o43 1 0 0, .pt 3 [iv a39.x, iv a39.y, iv a39.t])] := O48
    refine sim_let (v := AV.agg [iv w22, iv w23, iv w24, iv w25]) (O48.ld 3 rfl true 4 0) ?_
    refine sim_let (v := AV.ptr o43 1 0 0) rfl ?_
    refine sim_let (v := iv a39.x) (O48.ld 4 rfl false 1 0) ?_
    refine sim_let (v := AV.ptr o43 1 0 1) rfl ?_
    refine sim_let (v := iv a39.y) (O48.ld 4 rfl false 1 1) ?_
    refine sim_let (v := AV.ptr o43 1 0 0) rfl ?_
    refine sim_let (v := iv a39.x) (O48.ld 4 rfl false 1 0) ?_
    refine sim_let (v := AV.ptr o43 1 0 1) rfl ?_
    refine sim_let (v := iv a39.y) (O48.ld 4 rfl false 1 1) ?_
    refine sim_let (v := AV.agg [iv a39.x, iv a39.y, iv a39.x, iv a39.y]) (by first | rfl | simp [aBuild, aFill, splice]) ?_
    refine sim_callV2 (t := joinBox) he_impl_joinBoxes (snapD_nr _ (⟨w22, w23, w24, w25⟩ : Box) rfl) (snapD_nr _ (⟨a39.x, a39.y, a39.x, a39.y⟩ : Box) rfl) (fun c49 => ?_)
    refine sim_store O48 3 (cs' := [iv c49.x1, iv c49.y1, iv c49.x2, iv c49.y2]) rfl (by first | rfl | simp) (by simp) (by first | rfl | simp) (by first | rfl | simp [splice]) (fun h50 O51 => ?_)
    replace O51 : Hold B h50 [(AV.ptr o1 1 0 0, .pt 1 [Sl.enc s_.points]), (AV.ptr o5 1 0 0, .pt 4 [iv 0, iv 0, iv 0, iv 0]), (AV.ptr o10 1 0 0, .pt 3 [iv c9.x, iv c9.y, iv c9.t]), (AV.ptr o16 1 0 0, .pt 4 [iv c49.x1, iv c49.y1, iv c49.x2, iv c49.y2]), (AV.ptr o43 1 0 0, .pt 3 [iv a39.x, iv a39.y, iv a39.t])] := O51
    refine sim_let (v := iv (wr (w28 + 1))) (aBin_add _ _) ?_
    have O52 : Hold B h50 [(AV.ptr o1 1 0 0, .pt 1 [Sl.enc s_.points]), (AV.ptr o5 1 0 0, .pt 4 [iv 0, iv 0, iv 0, iv 0]), (AV.ptr o10 1 0 0, .pt 3 [iv c9.x, iv c9.y, iv c9.t]), (AV.ptr o16 1 0 0, .pt 4 [iv c49.x1, iv c49.y1, iv c49.x2, iv c49.y2])] := O51.sel [0, 1, 2, 3] (by decide) rfl
    exact sim_ret ⟨rfl, rfl, O52⟩
  · exact sim_ret ⟨nofun, _, _, rfl, O27⟩
theorem ts_impl_boxOfStroke (env : Nat → Contract) (he_impl_firstOf : env n_impl_firstOf = .pure (C1 (fun c : Point => enc c) t_impl_firstOf)) (he_impl_joinBoxes : env n_impl_joinBoxes = .pure (T2 joinBox)) (s_ : Stroke) : Sim (denFn Try.prog env n_impl_boxOfStroke [AV.agg [Sl.enc s_.points]] []) (t_impl_boxOfStroke s_) fun c p => release p.2 depth p.1 = some ((fun c : Box => enc c) c) := by
  have O := Hold.nil []
  generalize hB : (⟨[], []⟩ : Base) = B at O
  clear hB
  rw [e_impl_boxOfStroke]
  unfold t_impl_boxOfStroke
  refine sim_box O (cs := [Sl.enc s_.points]) (by first | rfl | simp) (fun o1 h2 O3 => ?_)
  replace O3 : Hold B h2 [(AV.ptr o1 1 0 0, .pt 1 [Sl.enc s_.points])] := O3
  refine sim_box O3 (cs := [iv 0, iv 0, iv 0, iv 0]) (by first | rfl | simp) (fun o5 h6 O7 => ?_)
  replace O7 : Hold B h6 [(AV.ptr o1 1 0 0, .pt 1 [Sl.enc s_.points]), (AV.ptr o5 1 0 0, .pt 4 [iv 0, iv 0, iv 0, iv 0])] := O7
  refine sim_let (v := AV.agg [Sl.enc s_.points]) (O7.ld 0 rfl true 1 0) ?_
  refine sim_call1 he_impl_firstOf (snapD_nr _ s_ rfl) (fun c9 => ?_)
  refine sim_let2 (hand_plain (by rfl) _ _) ?_
  refine sim_box O7 (cs := [iv 0, iv 0, iv 0]) (by first | rfl | simp) (fun o10 h11 O12 => ?_)
  replace O12 : Hold B h11 [(AV.ptr o1 1 0 0, .pt 1 [Sl.enc s_.points]), (AV.ptr o5 1 0 0, .pt 4 [iv 0, iv 0, iv 0, iv 0]), (AV.ptr o10 1 0 0, .pt 3 [iv 0, iv 0, iv 0])] := O12
  refine sim_store O12 2 (cs' := [iv c9.x, iv c9.y, iv c9.t]) rfl (by first | rfl | simp) (by simp) (by first | rfl | simp) (by first | rfl | simp [splice]) (fun h14 O15 => ?_)
  replace O15 : Hold B h14 [(AV.ptr o1 1 0 0, .pt 1 [Sl.enc s_.points]), (AV.ptr o5 1 0 0, .pt 4 [iv 0, iv 0, iv 0, iv 0]), (AV.ptr o10 1 0 0, .pt 3 [iv c9.x, iv c9.y, iv c9.t])] := O15
  refine sim_let (v := AV.ptr o10 1 0 0) rfl ?_
  refine sim_let (v := iv c9.x) (O15.ld 2 rfl false 1 0) ?_
  refine sim_let (v := AV.ptr o10 1 0 1) rfl ?_
  refine sim_let (v := iv c9.y) (O15.ld 2 rfl false 1 1) ?_
  refine sim_let (v := AV.ptr o10 1 0 0) rfl ?_
  refine sim_let (v := iv c9.x) (O15.ld 2 rfl false 1 0) ?_
  refine sim_let (v := AV.ptr o10 1 0 1) rfl ?_
  refine sim_let (v := iv c9.y) (O15.ld 2 rfl false 1 1) ?_
  refine sim_let (v := AV.agg [iv c9.x, iv c9.y, iv c9.x, iv c9.y]) (by first | rfl | simp [aBuild, aFill, splice]) ?_
  refine sim_box O15 (cs := [iv 0, iv 0, iv 0, iv 0]) (by first | rfl | simp) (fun o16 h17 O18 => ?_)
  replace O18 : Hold B h17 [(AV.ptr o1 1 0 0, .pt 1 [Sl.enc s_.points]), (AV.ptr o5 1 0 0, .pt 4 [iv 0, iv 0, iv 0, iv 0]), (AV.ptr o10 1 0 0, .pt 3 [iv c9.x, iv c9.y, iv c9.t]), (AV.ptr o16 1 0 0, .pt 4 [iv 0, iv 0, iv 0, iv 0])] := O18
  refine sim_store O18 3 (cs' := [iv c9.x, iv c9.y, iv c9.x, iv c9.y]) rfl (by first | rfl | simp) (by simp) (by first | rfl | simp) (by first | rfl | simp [splice]) (fun h20 O21 => ?_)
  replace O21 : Hold B h20 [(AV.ptr o1 1 0 0, .pt 1 [Sl.enc s_.points]), (AV.ptr o5 1 0 0, .pt 4 [iv 0, iv 0, iv 0, iv 0]), (AV.ptr o10 1 0 0, .pt 3 [iv c9.x, iv c9.y, iv c9.t]), (AV.ptr o16 1 0 0, .pt 4 [iv c9.x, iv c9.y, iv c9.x, iv c9.y])] := O21
  refine sim_let (v := AV.ptr o1 1 0 0) rfl ?_
  refine sim_let (v := Sl.enc s_.points) (O21.ld 0 rfl false 1 0) ?_
  refine sim_let (v := iv (((s_.points.getD []).length : Nat) : Int)) (Tab.enc h20 s_.points).len ?_
  refine sim_bind ((tl0_impl_boxOfStroke env he_impl_firstOf he_impl_joinBoxes s_ o1 o5 c9 o10 o16) ⟨rfl, O21⟩) (fun qq55 r hq => ?_)
  obtain ⟨q31, q32, q33, q34⟩ := qq55
  obtain ⟨z35, h29, rfl, O30⟩ := hq
  rw [e_lk0x0_impl_boxOfStroke]
  refine sim_let (v := AV.agg [iv q31, iv q32, iv q33, iv q34]) (O30.ld 3 rfl true 4 0) ?_
  refine sim_store O30 1 (cs' := [iv q31, iv q32, iv q33, iv q34]) rfl (by first | rfl | simp) (by simp) (by first | rfl | simp) (by first | rfl | simp [splice]) (fun h36 O37 => ?_)
  replace O37 : Hold B h36 [(AV.ptr o1 1 0 0, .pt 1 [Sl.enc s_.points]), (AV.ptr o5 1 0 0, .pt 4 [iv q31, iv q32, iv q33, iv q34]), (AV.ptr o10 1 0 0, .pt 3 [iv c9.x, iv c9.y, iv c9.t]), (AV.ptr o16 1 0 0, .pt 4 [iv q31, iv q32, iv q33, iv q34])] := O37
  refine sim_retL (resL_c (v := AV.agg [iv q31, iv q32, iv q33, iv q34]) (O37.ld 1 rfl true 4 0) (resL_nil _)) ?_
  dsimp only [pack]
  exact sim_ret (release_plain (by rfl) _)
theorem tt_impl_boxOfStroke : PureOK Try.prog n_impl_boxOfStroke (C1 (fun c : Box => enc c) t_impl_boxOfStroke) := pureC1 (Econs tt_impl_firstOf (Econs ok_impl_joinBoxes E0)) mixed hb_impl_boxOfStroke fun s_ => ts_impl_boxOfStroke _ (by simp [envL]) (by simp [envL]) s_

def s0_impl_boxOfInk (i_ : Ink) : (Int × Int × Int × Int × Int) → Option (Sum (Int × Int × Int × Int × Int) (Int × Int × Int × Int)) := fun (w20, w21, w22, w23, w26) =>
  bif decide (w26 < (((i_.strokes.getD []).length : Nat) : Int)) then
    obind (getI (i_.strokes.getD []) w26) fun a37 =>
    obind (t_impl_boxOfStroke a37) fun c47 =>
    obind (some (joinBox (⟨w20, w21, w22, w23⟩ : Box) c47)) fun c48 =>
    some (.inl (c48.x1, c48.y1, c48.x2, c48.y2, wr (w26 + 1)))
  else
    some (.inr (w20, w21, w22, w23))
def t_impl_boxOfInk (i_ : Ink) : Option Box :=
  obind (getI (i_.strokes.getD []) 0) fun a9 =>
  obind (t_impl_boxOfStroke a9) fun c13 =>
  obind (loopT (s0_impl_boxOfInk i_) (c13.x1, c13.y1, c13.x2, c13.y2, 0)) fun (q29, q30, q31, q32) =>
  some (⟨q29, q30, q31, q32⟩ : Box)

theorem tl0_impl_boxOfInk (env : Nat → Contract) {B : Base} (he_impl_boxOfStroke : env n_impl_boxOfStroke = .pure (C1 (fun c : Box => enc c) t_impl_boxOfStroke)) (he_impl_joinBoxes : env n_impl_joinBoxes = .pure (T2 joinBox)) (i_ : Ink) (o1 : Nat) (o5 : Nat) (a9 : Stroke) (m10 : Nat) (c13 : Box) (o14 : Nat)  {st : Int × Int × Int × Int × Int} {tm : TM} {h : Heap} (R : (fun (st : Int × Int × Int × Int × Int) tm h24 => match st with | (w20, w21, w22, w23, w26) => tm = [AV.agg [Sl.enc i_.strokes], AV.ptr o1 1 0 0, AV.ptr o5 1 0 0, AV.ptr o14 1 0 0, und, AV.top, AV.ptr o1 1 0 0, Sl.enc i_.strokes, elp (Sl.enc i_.strokes) m10 0, AV.agg [Sl.enc a9.points], AV.agg [iv c13.x1, iv c13.y1, iv c13.x2, iv c13.y2], AV.ptr o1 1 0 0, Sl.enc i_.strokes, iv (((i_.strokes.getD []).length : Nat) : Int), iv w26, AV.top, AV.top, AV.top, AV.top, AV.top, AV.top, AV.top, AV.top, und] ∧ Hold B h24 [(AV.ptr o1 1 0 0, .pt 1 [Sl.enc i_.strokes]), (AV.ptr o5 1 0 0, .pt 4 [iv 0, iv 0, iv 0, iv 0]), (AV.ptr o14 1 0 0, .pt 4 [iv w20, iv w21, iv w22, iv w23])]) st tm h) : Sim (loopP hm0_impl_boxOfInk xm0_impl_boxOfInk (lb0_impl_boxOfInk env) tm h) (loopT (s0_impl_boxOfInk i_) st) (fun (q : Int × Int × Int × Int) (r : Res) => match q with | (q29, q30, q31, q32) => ∃ (z33 : AV) (h27 : Heap), r = (.exit 0, [AV.agg [Sl.enc i_.strokes], AV.ptr o1 1 0 0, AV.ptr o5 1 0 0, AV.ptr o14 1 0 0, und, z33, AV.ptr o1 1 0 0, Sl.enc i_.strokes, elp (Sl.enc i_.strokes) m10 0, AV.agg [Sl.enc a9.points], AV.agg [iv c13.x1, iv c13.y1, iv c13.x2, iv c13.y2], AV.ptr o1 1 0 0, Sl.enc i_.strokes, iv (((i_.strokes.getD []).length : Nat) : Int), AV.top, AV.top, AV.top, AV.top, AV.top, AV.top, AV.top, AV.top, AV.top, und], h27) ∧ Hold B h27 [(AV.ptr o1 1 0 0, .pt 1 [Sl.enc i_.strokes]), (AV.ptr o5 1 0 0, .pt 4 [iv 0, iv 0, iv 0, iv 0]), (AV.ptr o14 1 0 0, .pt 4 [iv q29, iv q30, iv q31, iv q32])]) := by
  refine loop_sim (Rel := fun (st : Int × Int × Int × Int × Int) tm h24 => match st with | (w20, w21, w22, w23, w26) => tm = [AV.agg [Sl.enc i_.strokes], AV.ptr o1 1 0 0, AV.ptr o5 1 0 0, AV.ptr o14 1 0 0, und, AV.top, AV.ptr o1 1 0 0, Sl.enc i_.strokes, elp (Sl.enc i_.strokes) m10 0, AV.agg [Sl.enc a9.points], AV.agg [iv c13.x1, iv c13.y1, iv c13.x2, iv c13.y2], AV.ptr o1 1 0 0, Sl.enc i_.strokes, iv (((i_.strokes.getD []).length : Nat) : Int), iv w26, AV.top, AV.top, AV.top, AV.top, AV.top, AV.top, AV.top, AV.top, und] ∧ Hold B h24 [(AV.ptr o1 1 0 0, .pt 1 [Sl.enc i_.strokes]), (AV.ptr o5 1 0 0, .pt 4 [iv 0, iv 0, iv 0, iv 0]), (AV.ptr o14 1 0 0, .pt 4 [iv w20, iv w21, iv w22, iv w23])]) (fun st tm h24 R => ?_) R
  obtain ⟨w20, w21, w22, w23, w26⟩ := st
  obtain ⟨rfl, O25⟩ := R
  rw [e_lb0_impl_boxOfInk]
  unfold s0_impl_boxOfInk
  dsimp only
  refine sim_let (v := bv (decide (w26 < (((i_.strokes.getD []).length : Nat) : Int)))) (aBin_lss _ _) ?_
  refine sim_cond (fun c36 => ?_) (fun c36 => ?_)
  · refine sim_get (Tab.enc h24 i_.strokes) (fun m38 a37 hi39 hm40 => ?_)
    refine sim_let (v := AV.agg [Sl.enc a37.points]) ((Tab.enc h24 i_.strokes).ld hm40 true 1 0) ?_
    refine sim_box O25 (cs := [nilS]) (by first | rfl | simp) (fun o41 h42 O43 => ?_)
    replace O43 : Hold B h42 [(AV.ptr o1 1 0 0, .pt 1 [Sl.enc i_.strokes]), (AV.ptr o5 1 0 0, .pt 4 [iv 0, iv 0, iv 0, iv 0]), (AV.ptr o14 1 0 0, .pt 4 [iv w20, iv w21, iv w22, iv w23]), (AV.ptr o41 1 0 0, .pt 1 [nilS])] := O43
    refine sim_store O43 3 (cs' := [Sl.enc a37.points]) rfl (by first | rfl | simp) (by simp) (by first | rfl | simp) (by first | rfl | simp [splice]) (fun h45 O46 => ?_)
    replace O46 : Hold B h45 [(AV.ptr o1 1 0 0, .pt 1 [Sl.enc i_.strokes]), (AV.ptr o5 1 0 0, .pt 4 [iv 0, iv 0, iv 0, iv 0]), (AV.ptr o14 1 0 0, .pt 4 [iv w20, iv w21, iv w22, iv w23]), (AV.ptr o41 1 0 0, .pt 1 [Sl.enc a37.points])] := O46
    refine sim_let (v := AV.agg [iv w20, iv w21, iv w22, iv w23]) (O46.ld 2 rfl true 4 0) ?_
    refine sim_let (v := AV.agg [Sl.enc a37.points]) (O46.ld 3 rfl true 1 0) ?_
    refine sim_callQ1 he_impl_boxOfStroke (snapD_nr _ a37 rfl) (fun c47 => ?_)
    refine sim_let2 (hand_plain (by rfl) _ _) ?_
    refine sim_callVQ2 (t := joinBox) he_impl_joinBoxes (snapD_nr _ (⟨w20, w21, w22, w23⟩ : Box) rfl) (snapD_nr _ c47 rfl) (fun c48 => ?_)
    refine sim_store O46 2 (cs' := [iv c48.x1, iv c48.y1, iv c48.x2, iv c48.y2]) rfl (by first | rfl | simp) (by simp) (by first | rfl | simp) (by first | rfl | simp [splice]) (fun h49 O50 => ?_)
    replace O50 : Hold B h49 [(AV.ptr o1 1 0 0, .pt 1 [Sl.enc i_.strokes]), (AV.ptr o5 1 0 0, .pt 4 [iv 0, iv 0, iv 0, iv 0]), (AV.ptr o14 1 0 0, .pt 4 [iv c48.x1, iv c48.y1, iv c48.x2, iv c48.y2]), (AV.ptr o41 1 0 0, .pt 1 [Sl.enc a37.points])] := O50
    refine sim_let (v := iv (wr (w26 + 1))) (aBin_add _ _) ?_
    have O51 : Hold B h49 [(AV.ptr o1 1 0 0, .pt 1 [Sl.enc i_.strokes]), (AV.ptr o5 1 0 0, .pt 4 [iv 0, iv 0, iv 0, iv 0]), (AV.ptr o14 1 0 0, .pt 4 [iv c48.x1, iv c48.y1, iv c48.x2, iv c48.y2])] := O50.sel [0, 1, 2] (by decide) rfl
    exact sim_ret ⟨rfl, rfl, O51⟩
  · exact sim_ret ⟨nofun, _, _, rfl, O25⟩
theorem ts_impl_boxOfInk (env : Nat → Contract) (he_impl_boxOfStroke : env n_impl_boxOfStroke = .pure (C1 (fun c : Box => enc c) t_impl_boxOfStroke)) (he_impl_joinBoxes : env n_impl_joinBoxes = .pure (T2 joinBox)) (i_ : Ink) : Sim (denFn Try.prog env n_impl_boxOfInk [AV.agg [Sl.enc i_.strokes]] []) (t_impl_boxOfInk i_) fun c p => release p.2 depth p.1 = some ((fun c : Box => enc c) c) := by
  have O := Hold.nil []
  generalize hB : (⟨[], []⟩ : Base) = B at O
  clear hB
  rw [e_impl_boxOfInk]
  unfold t_impl_boxOfInk
  refine sim_box O (cs := [Sl.enc i_.strokes]) (by first | rfl | simp) (fun o1 h2 O3 => ?_)
  replace O3 : Hold B h2 [(AV.ptr o1 1 0 0, .pt 1 [Sl.enc i_.strokes])] := O3
  refine sim_box O3 (cs := [iv 0, iv 0, iv 0, iv 0]) (by first | rfl | simp) (fun o5 h6 O7 => ?_)
  replace O7 : Hold B h6 [(AV.ptr o1 1 0 0, .pt 1 [Sl.enc i_.strokes]), (AV.ptr o5 1 0 0, .pt 4 [iv 0, iv 0, iv 0, iv 0])] := O7
  refine sim_let (v := AV.ptr o1 1 0 0) rfl ?_
  refine sim_let (v := Sl.enc i_.strokes) (O7.ld 0 rfl false 1 0) ?_
  refine sim_get (Tab.enc h6 i_.strokes) (fun m10 a9 hi11 hm12 => ?_)
  refine sim_let (v := AV.agg [Sl.enc a9.points]) ((Tab.enc h6 i_.strokes).ld hm12 true 1 0) ?_
  refine sim_call1 he_impl_boxOfStroke (snapD_nr _ a9 rfl) (fun c13 => ?_)
  refine sim_let2 (hand_plain (by rfl) _ _) ?_
  refine sim_box O7 (cs := [iv 0, iv 0, iv 0, iv 0]) (by first | rfl | simp) (fun o14 h15 O16 => ?_)
  replace O16 : Hold B h15 [(AV.ptr o1 1 0 0, .pt 1 [Sl.enc i_.strokes]), (AV.ptr o5 1 0 0, .pt 4 [iv 0, iv 0, iv 0, iv 0]), (AV.ptr o14 1 0 0, .pt 4 [iv 0, iv 0, iv 0, iv 0])] := O16
  refine sim_store O16 2 (cs' := [iv c13.x1, iv c13.y1, iv c13.x2, iv c13.y2]) rfl (by first | rfl | simp) (by simp) (by first | rfl | simp) (by first | rfl | simp [splice]) (fun h18 O19 => ?_)
  replace O19 : Hold B h18 [(AV.ptr o1 1 0 0, .pt 1 [Sl.enc i_.strokes]), (AV.ptr o5 1 0 0, .pt 4 [iv 0, iv 0, iv 0, iv 0]), (AV.ptr o14 1 0 0, .pt 4 [iv c13.x1, iv c13.y1, iv c13.x2, iv c13.y2])] := O19
  refine sim_let (v := AV.ptr o1 1 0 0) rfl ?_
  refine sim_let (v := Sl.enc i_.strokes) (O19.ld 0 rfl false 1 0) ?_
  refine sim_let (v := iv (((i_.strokes.getD []).length : Nat) : Int)) (Tab.enc h18 i_.strokes).len ?_
  refine sim_bind ((tl0_impl_boxOfInk env he_impl_boxOfStroke he_impl_joinBoxes i_ o1 o5 a9 m10 c13 o14) ⟨rfl, O19⟩) (fun qq54 r hq => ?_)
  obtain ⟨q29, q30, q31, q32⟩ := qq54
  obtain ⟨z33, h27, rfl, O28⟩ := hq
  rw [e_lk0x0_impl_boxOfInk]
  refine sim_let (v := AV.agg [iv q29, iv q30, iv q31, iv q32]) (O28.ld 2 rfl true 4 0) ?_
  refine sim_store O28 1 (cs' := [iv q29, iv q30, iv q31, iv q32]) rfl (by first | rfl | simp) (by simp) (by first | rfl | simp) (by first | rfl | simp [splice]) (fun h34 O35 => ?_)
  replace O35 : Hold B h34 [(AV.ptr o1 1 0 0, .pt 1 [Sl.enc i_.strokes]), (AV.ptr o5 1 0 0, .pt 4 [iv q29, iv q30, iv q31, iv q32]), (AV.ptr o14 1 0 0, .pt 4 [iv q29, iv q30, iv q31, iv q32])] := O35
  refine sim_retL (resL_c (v := AV.agg [iv q29, iv q30, iv q31, iv q32]) (O35.ld 1 rfl true 4 0) (resL_nil _)) ?_
  dsimp only [pack]
  exact sim_ret (release_plain (by rfl) _)
theorem tt_impl_boxOfInk : PureOK Try.prog n_impl_boxOfInk (C1 (fun c : Box => enc c) t_impl_boxOfInk) := pureC1 (Econs tt_impl_boxOfStroke (Econs ok_impl_joinBoxes E0)) mixed hb_impl_boxOfInk fun i_ => ts_impl_boxOfInk _ (by simp [envL]) (by simp [envL]) i_

def t_impl_BoxOfInk (i_ : Ink) : Option (Box × Int) :=
  obind (t_impl_ValidInk i_) fun c9 =>
  bif !c9 then
    some ((⟨0, 0, 0, 0⟩ : Box), 1)
  else
    bif decide ((((i_.strokes.getD []).length : Nat) : Int) = 0) then
      some ((⟨0, 0, 0, 0⟩ : Box), 6)
    else
      obind (t_impl_boxOfInk i_) fun c16 =>
      some (c16, 0)

theorem ts_impl_BoxOfInk (env : Nat → Contract) (he_impl_ValidInk : env n_impl_ValidInk = .pure (C1 (fun c : Bool => enc c) t_impl_ValidInk)) (he_impl_boxOfInk : env n_impl_boxOfInk = .pure (C1 (fun c : Box => enc c) t_impl_boxOfInk)) (i_ : Ink) : Sim (denFn Try.prog env n_impl_BoxOfInk [AV.agg [Sl.enc i_.strokes]] []) (t_impl_BoxOfInk i_) fun c p => release p.2 depth p.1 = some ((fun c : Box × Int => AV.tup [enc c.1, enc c.2]) c) := by
  have O := Hold.nil []
  generalize hB : (⟨[], []⟩ : Base) = B at O
  clear hB
  rw [e_impl_BoxOfInk]
  unfold t_impl_BoxOfInk
  refine sim_box O (cs := [Sl.enc i_.strokes]) (by first | rfl | simp) (fun o1 h2 O3 => ?_)
  replace O3 : Hold B h2 [(AV.ptr o1 1 0 0, .pt 1 [Sl.enc i_.strokes])] := O3
  refine sim_box O3 (cs := [iv 0, iv 0, iv 0, iv 0]) (by first | rfl | simp) (fun o5 h6 O7 => ?_)
  replace O7 : Hold B h6 [(AV.ptr o1 1 0 0, .pt 1 [Sl.enc i_.strokes]), (AV.ptr o5 1 0 0, .pt 4 [iv 0, iv 0, iv 0, iv 0])] := O7
  refine sim_let (v := AV.agg [Sl.enc i_.strokes]) (O7.ld 0 rfl true 1 0) ?_
  refine sim_call1 he_impl_ValidInk (snapD_nr _ i_ rfl) (fun c9 => ?_)
  refine sim_let2 (hand_plain (by rfl) _ _) ?_
  refine sim_let (v := bv (!c9)) (aUn_not _) ?_
  refine sim_cond (fun c10 => ?_) (fun c10 => ?_)
  · refine sim_let (v := AV.agg [iv 0, iv 0, iv 0, iv 0]) (by first | rfl | simp [aBuild, aFill, splice]) ?_
    refine sim_store O7 1 (cs' := [iv 0, iv 0, iv 0, iv 0]) rfl (by first | rfl | simp) (by simp) (by first | rfl | simp) (by first | rfl | simp [splice]) (fun h11 O12 => ?_)
    replace O12 : Hold B h11 [(AV.ptr o1 1 0 0, .pt 1 [Sl.enc i_.strokes]), (AV.ptr o5 1 0 0, .pt 4 [iv 0, iv 0, iv 0, iv 0])] := O12
    refine sim_retL (resL_c (v := AV.agg [iv 0, iv 0, iv 0, iv 0]) (O12.ld 1 rfl true 4 0) (resL_v (v := iv 1) (resL_nil _))) ?_
    dsimp only [pack]
    exact sim_ret (release_plain (by rfl) _)
  · refine sim_let (v := AV.ptr o1 1 0 0) rfl ?_
    refine sim_let (v := Sl.enc i_.strokes) (O7.ld 0 rfl false 1 0) ?_
    refine sim_let (v := iv (((i_.strokes.getD []).length : Nat) : Int)) (Tab.enc h6 i_.strokes).len ?_
    refine sim_let (v := bv (decide ((((i_.strokes.getD []).length : Nat) : Int) = 0))) (aCmp_eq _ _) ?_
    refine sim_cond (fun c13 => ?_) (fun c13 => ?_)
    · refine sim_let (v := AV.agg [iv 0, iv 0, iv 0, iv 0]) (by first | rfl | simp [aBuild, aFill, splice]) ?_
      refine sim_store O7 1 (cs' := [iv 0, iv 0, iv 0, iv 0]) rfl (by first | rfl | simp) (by simp) (by first | rfl | simp) (by first | rfl | simp [splice]) (fun h14 O15 => ?_)
      replace O15 : Hold B h14 [(AV.ptr o1 1 0 0, .pt 1 [Sl.enc i_.strokes]), (AV.ptr o5 1 0 0, .pt 4 [iv 0, iv 0, iv 0, iv 0])] := O15
      refine sim_retL (resL_c (v := AV.agg [iv 0, iv 0, iv 0, iv 0]) (O15.ld 1 rfl true 4 0) (resL_v (v := iv 6) (resL_nil _))) ?_
      dsimp only [pack]
      exact sim_ret (release_plain (by rfl) _)
    · refine sim_let (v := AV.agg [Sl.enc i_.strokes]) (O7.ld 0 rfl true 1 0) ?_
      refine sim_call1 he_impl_boxOfInk (snapD_nr _ i_ rfl) (fun c16 => ?_)
      refine sim_let2 (hand_plain (by rfl) _ _) ?_
      refine sim_store O7 1 (cs' := [iv c16.x1, iv c16.y1, iv c16.x2, iv c16.y2]) rfl (by first | rfl | simp) (by simp) (by first | rfl | simp) (by first | rfl | simp [splice]) (fun h17 O18 => ?_)
      replace O18 : Hold B h17 [(AV.ptr o1 1 0 0, .pt 1 [Sl.enc i_.strokes]), (AV.ptr o5 1 0 0, .pt 4 [iv c16.x1, iv c16.y1, iv c16.x2, iv c16.y2])] := O18
      refine sim_retL (resL_c (v := AV.agg [iv c16.x1, iv c16.y1, iv c16.x2, iv c16.y2]) (O18.ld 1 rfl true 4 0) (resL_v (v := iv 0) (resL_nil _))) ?_
      dsimp only [pack]
      exact sim_ret (release_plain (by rfl) _)
theorem tt_impl_BoxOfInk : PureOK Try.prog n_impl_BoxOfInk (C1 (fun c : Box × Int => AV.tup [enc c.1, enc c.2]) t_impl_BoxOfInk) := pureC1 (Econs tt_impl_ValidInk (Econs tt_impl_boxOfInk E0)) mixed hb_impl_BoxOfInk fun i_ => ts_impl_BoxOfInk _ (by simp [envL]) (by simp [envL]) i_

def t_impl_BoxOfStroke (s_ : Stroke) : Option (Box × Int) :=
  obind (t_impl_ValidStroke s_) fun c9 =>
  bif !c9 then
    some ((⟨0, 0, 0, 0⟩ : Box), 1)
  else
    obind (t_impl_boxOfStroke s_) fun c13 =>
    some (c13, 0)

theorem ts_impl_BoxOfStroke (env : Nat → Contract) (he_impl_ValidStroke : env n_impl_ValidStroke = .pure (C1 (fun c : Bool => enc c) t_impl_ValidStroke)) (he_impl_boxOfStroke : env n_impl_boxOfStroke = .pure (C1 (fun c : Box => enc c) t_impl_boxOfStroke)) (s_ : Stroke) : Sim (denFn Try.prog env n_impl_BoxOfStroke [AV.agg [Sl.enc s_.points]] []) (t_impl_BoxOfStroke s_) fun c p => release p.2 depth p.1 = some ((fun c : Box × Int => AV.tup [enc c.1, enc c.2]) c) := by
  have O := Hold.nil []
  generalize hB : (⟨[], []⟩ : Base) = B at O
  clear hB
  rw [e_impl_BoxOfStroke]
  unfold t_impl_BoxOfStroke
  refine sim_box O (cs := [Sl.enc s_.points]) (by first | rfl | simp) (fun o1 h2 O3 => ?_)
  replace O3 : Hold B h2 [(AV.ptr o1 1 0 0, .pt 1 [Sl.enc s_.points])] := O3
  refine sim_box O3 (cs := [iv 0, iv 0, iv 0, iv 0]) (by first | rfl | simp) (fun o5 h6 O7 => ?_)
  replace O7 : Hold B h6 [(AV.ptr o1 1 0 0, .pt 1 [Sl.enc s_.points]), (AV.ptr o5 1 0 0, .pt 4 [iv 0, iv 0, iv 0, iv 0])] := O7
  refine sim_let (v := AV.agg [Sl.enc s_.points]) (O7.ld 0 rfl true 1 0) ?_
  refine sim_call1 he_impl_ValidStroke (snapD_nr _ s_ rfl) (fun c9 => ?_)
  refine sim_let2 (hand_plain (by rfl) _ _) ?_
  refine sim_let (v := bv (!c9)) (aUn_not _) ?_
  refine sim_cond (fun c10 => ?_) (fun c10 => ?_)
  · refine sim_let (v := AV.agg [iv 0, iv 0, iv 0, iv 0]) (by first | rfl | simp [aBuild, aFill, splice]) ?_
    refine sim_store O7 1 (cs' := [iv 0, iv 0, iv 0, iv 0]) rfl (by first | rfl | simp) (by simp) (by first | rfl | simp) (by first | rfl | simp [splice]) (fun h11 O12 => ?_)
    replace O12 : Hold B h11 [(AV.ptr o1 1 0 0, .pt 1 [Sl.enc s_.points]), (AV.ptr o5 1 0 0, .pt 4 [iv 0, iv 0, iv 0, iv 0])] := O12
    refine sim_retL (resL_c (v := AV.agg [iv 0, iv 0, iv 0, iv 0]) (O12.ld 1 rfl true 4 0) (resL_v (v := iv 1) (resL_nil _))) ?_
    dsimp only [pack]
    exact sim_ret (release_plain (by rfl) _)
  · refine sim_let (v := AV.agg [Sl.enc s_.points]) (O7.ld 0 rfl true 1 0) ?_
    refine sim_call1 he_impl_boxOfStroke (snapD_nr _ s_ rfl) (fun c13 => ?_)
    refine sim_let2 (hand_plain (by rfl) _ _) ?_
    refine sim_store O7 1 (cs' := [iv c13.x1, iv c13.y1, iv c13.x2, iv c13.y2]) rfl (by first | rfl | simp) (by simp) (by first | rfl | simp) (by first | rfl | simp [splice]) (fun h14 O15 => ?_)
    replace O15 : Hold B h14 [(AV.ptr o1 1 0 0, .pt 1 [Sl.enc s_.points]), (AV.ptr o5 1 0 0, .pt 4 [iv c13.x1, iv c13.y1, iv c13.x2, iv c13.y2])] := O15
    refine sim_retL (resL_c (v := AV.agg [iv c13.x1, iv c13.y1, iv c13.x2, iv c13.y2]) (O15.ld 1 rfl true 4 0) (resL_v (v := iv 0) (resL_nil _))) ?_
    dsimp only [pack]
    exact sim_ret (release_plain (by rfl) _)
theorem tt_impl_BoxOfStroke : PureOK Try.prog n_impl_BoxOfStroke (C1 (fun c : Box × Int => AV.tup [enc c.1, enc c.2]) t_impl_BoxOfStroke) := pureC1 (Econs tt_impl_ValidStroke (Econs tt_impl_boxOfStroke E0)) mixed hb_impl_BoxOfStroke fun s_ => ts_impl_BoxOfStroke _ (by simp [envL]) (by simp [envL]) s_

def t_impl_JoinBoxes (a_ : Box) (b_ : Box) : Option (Box × Int) :=
  obind (some (validBox a_)) fun c13 =>
  obind (bif !c13 then some false else (obind (some (validBox b_)) fun c15 => some (!c15))) fun c16 =>
  bif (bif !c13 then true else c16) then
    some ((⟨0, 0, 0, 0⟩ : Box), 1)
  else
    obind (some (joinBox a_ b_)) fun c20 =>
    some (c20, 0)

theorem ts_impl_JoinBoxes (env : Nat → Contract) (he_impl_ValidBox : env n_impl_ValidBox = .pure (T1 validBox)) (he_impl_joinBoxes : env n_impl_joinBoxes = .pure (T2 joinBox)) (a_ : Box) (b_ : Box) : Sim (denFn Try.prog env n_impl_JoinBoxes [AV.agg [iv a_.x1, iv a_.y1, iv a_.x2, iv a_.y2], AV.agg [iv b_.x1, iv b_.y1, iv b_.x2, iv b_.y2]] []) (t_impl_JoinBoxes a_ b_) fun c p => release p.2 depth p.1 = some ((fun c : Box × Int => AV.tup [enc c.1, enc c.2]) c) := by
  have O := Hold.nil []
  generalize hB : (⟨[], []⟩ : Base) = B at O
  clear hB
  rw [e_impl_JoinBoxes]
  unfold t_impl_JoinBoxes
  refine sim_box O (cs := [iv a_.x1, iv a_.y1, iv a_.x2, iv a_.y2]) (by first | rfl | simp) (fun o1 h2 O3 => ?_)
  replace O3 : Hold B h2 [(AV.ptr o1 1 0 0, .pt 4 [iv a_.x1, iv a_.y1, iv a_.x2, iv a_.y2])] := O3
  refine sim_box O3 (cs := [iv b_.x1, iv b_.y1, iv b_.x2, iv b_.y2]) (by first | rfl | simp) (fun o5 h6 O7 => ?_)
  replace O7 : Hold B h6 [(AV.ptr o1 1 0 0, .pt 4 [iv a_.x1, iv a_.y1, iv a_.x2, iv a_.y2]), (AV.ptr o5 1 0 0, .pt 4 [iv b_.x1, iv b_.y1, iv b_.x2, iv b_.y2])] := O7
  refine sim_box O7 (cs := [iv 0, iv 0, iv 0, iv 0]) (by first | rfl | simp) (fun o9 h10 O11 => ?_)
  replace O11 : Hold B h10 [(AV.ptr o1 1 0 0, .pt 4 [iv a_.x1, iv a_.y1, iv a_.x2, iv a_.y2]), (AV.ptr o5 1 0 0, .pt 4 [iv b_.x1, iv b_.y1, iv b_.x2, iv b_.y2]), (AV.ptr o9 1 0 0, .pt 4 [iv 0, iv 0, iv 0, iv 0])] := O11
  refine sim_let (v := AV.agg [iv a_.x1, iv a_.y1, iv a_.x2, iv a_.y2]) (O11.ld 0 rfl true 4 0) ?_
  refine sim_callV1 (t := validBox) he_impl_ValidBox (snapD_nr _ a_ rfl) (fun c13 => ?_)
  refine sim_let (v := bv (!c13)) (aUn_not _) ?_
  refine sim_guardF (e := bv) (fun hb14 => ?_) (fun c16 => ?_)
  · refine sim_let (v := AV.agg [iv b_.x1, iv b_.y1, iv b_.x2, iv b_.y2]) (O11.ld 1 rfl true 4 0) ?_
    refine sim_callV1 (t := validBox) he_impl_ValidBox (snapD_nr _ b_ rfl) (fun c15 => ?_)
    refine sim_let (v := bv (!c15)) (aUn_not _) ?_
    exact sim_ret rfl
  · refine sim_let (v := bv (bif !c13 then true else c16)) (pick_b' _ _ _) ?_
    refine sim_cond (fun c17 => ?_) (fun c17 => ?_)
    · refine sim_let (v := AV.agg [iv 0, iv 0, iv 0, iv 0]) (by first | rfl | simp [aBuild, aFill, splice]) ?_
      refine sim_store O11 2 (cs' := [iv 0, iv 0, iv 0, iv 0]) rfl (by first | rfl | simp) (by simp) (by first | rfl | simp) (by first | rfl | simp [splice]) (fun h18 O19 => ?_)
      replace O19 : Hold B h18 [(AV.ptr o1 1 0 0, .pt 4 [iv a_.x1, iv a_.y1, iv a_.x2, iv a_.y2]), (AV.ptr o5 1 0 0, .pt 4 [iv b_.x1, iv b_.y1, iv b_.x2, iv b_.y2]), (AV.ptr o9 1 0 0, .pt 4 [iv 0, iv 0, iv 0, iv 0])] := O19
      refine sim_retL (resL_c (v := AV.agg [iv 0, iv 0, iv 0, iv 0]) (O19.ld 2 rfl true 4 0) (resL_v (v := iv 1) (resL_nil _))) ?_
      dsimp only [pack]
      exact sim_ret (release_plain (by rfl) _)
    · refine sim_let (v := AV.agg [iv a_.x1, iv a_.y1, iv a_.x2, iv a_.y2]) (O11.ld 0 rfl true 4 0) ?_
      refine sim_let (v := AV.agg [iv b_.x1, iv b_.y1, iv b_.x2, iv b_.y2]) (O11.ld 1 rfl true 4 0) ?_
      refine sim_callV2 (t := joinBox) he_impl_joinBoxes (snapD_nr _ a_ rfl) (snapD_nr _ b_ rfl) (fun c20 => ?_)
      refine sim_store O11 2 (cs' := [iv c20.x1, iv c20.y1, iv c20.x2, iv c20.y2]) rfl (by first | rfl | simp) (by simp) (by first | rfl | simp) (by first | rfl | simp [splice]) (fun h21 O22 => ?_)
      replace O22 : Hold B h21 [(AV.ptr o1 1 0 0, .pt 4 [iv a_.x1, iv a_.y1, iv a_.x2, iv a_.y2]), (AV.ptr o5 1 0 0, .pt 4 [iv b_.x1, iv b_.y1, iv b_.x2, iv b_.y2]), (AV.ptr o9 1 0 0, .pt 4 [iv c20.x1, iv c20.y1, iv c20.x2, iv c20.y2])] := O22
      refine sim_retL (resL_c (v := AV.agg [iv c20.x1, iv c20.y1, iv c20.x2, iv c20.y2]) (O22.ld 2 rfl true 4 0) (resL_v (v := iv 0) (resL_nil _))) ?_
      dsimp only [pack]
      exact sim_ret (release_plain (by rfl) _)
theorem tt_impl_JoinBoxes : PureOK Try.prog n_impl_JoinBoxes (C2 (fun c : Box × Int => AV.tup [enc c.1, enc c.2]) t_impl_JoinBoxes) := pureC2 (Econs ok_impl_ValidBox (Econs ok_impl_joinBoxes E0)) mixed hb_impl_JoinBoxes fun a_ b_ => ts_impl_JoinBoxes _ (by simp [envL]) (by simp [envL]) a_ b_

def s0_laws_FnBoxes (c3 : Ink) : (Int × Int × Int × Int × Int) → Option (Sum (Int × Int × Int × Int × Int) (Sum (Int × Int × Int × Int) Bool)) := fun (w37, w38, w39, w40, w43) =>
  bif decide (w43 < (((c3.strokes.getD []).length : Nat) : Int)) then
    obind (getI (c3.strokes.getD []) w43) fun a76 =>
    obind (t_impl_BoxOfStroke a76) fun c82 =>
    obind (t_impl_JoinBoxes (⟨w37, w38, w39, w40⟩ : Box) c82.1) fun c89 =>
    obind (bif !decide (c82.2 = 0) then some false else (some (!decide (c89.2 = 0)))) fun c97 =>
    bif (bif !decide (c82.2 = 0) then true else c97) then
      some (.inr (.inr false))
    else
      some (.inl (c89.1.x1, c89.1.y1, c89.1.x2, c89.1.y2, wr (w43 + 1)))
  else
    some (.inr (.inl (w37, w38, w39, w40)))
def t_laws_FnBoxes (code_ : Sl UInt8) : Option Bool :=
  obind (t_laws_a2Long code_ (none : Sl UInt8)) fun c1 =>
  bif c1 then
    some true
  else
    obind (t_spec_A2Ink code_) fun c3 =>
    bif decide ((((c3.strokes.getD []).length : Nat) : Int) = 0) then
      some true
    else
      obind (t_impl_BoxOfInk c3) fun c17 =>
      obind (getI (c3.strokes.getD []) 0) fun a24 =>
      obind (t_impl_BoxOfStroke a24) fun c30 =>
      obind (loopT (s0_laws_FnBoxes c3) (c30.1.x1, c30.1.y1, c30.1.x2, c30.1.y2, 1)) fun qq105 => match qq105 with
      | (.inl (q46, q47, q48, q49)) =>
          obind (bif decide (c17.2 = 0) then (some (decide (c30.2 = 0))) else some false) fun c57 =>
          obind (bif (bif decide (c17.2 = 0) then c57 else false) then (some (decide ((⟨q46, q47, q48, q49⟩ : Box) = c17.1))) else some false) fun c59 =>
          obind (bif (bif (bif decide (c17.2 = 0) then c57 else false) then c59 else false) then (obind (some (validBox c17.1)) fun c61 => some c61) else some false) fun c62 =>
          some (bif (bif (bif decide (c17.2 = 0) then c57 else false) then c59 else false) then c62 else false)
      | (.inr q69) =>
          some q69

theorem tl0_laws_FnBoxes (env : Nat → Contract) {B : Base} (he_impl_BoxOfInk : env n_impl_BoxOfInk = .pure (C1 (fun c : Box × Int => AV.tup [enc c.1, enc c.2]) t_impl_BoxOfInk)) (he_impl_BoxOfStroke : env n_impl_BoxOfStroke = .pure (C1 (fun c : Box × Int => AV.tup [enc c.1, enc c.2]) t_impl_BoxOfStroke)) (he_impl_JoinBoxes : env n_impl_JoinBoxes = .pure (C2 (fun c : Box × Int => AV.tup [enc c.1, enc c.2]) t_impl_JoinBoxes)) (he_impl_ValidBox : env n_impl_ValidBox = .pure (T1 validBox)) (he_laws_a2Long : env n_laws_a2Long = .pure (C2 (fun c : Bool => enc c) t_laws_a2Long)) (he_spec_A2Ink : env n_spec_A2Ink = .pure (C1 (fun c : Ink => AV.agg [rD c.strokes]) t_spec_A2Ink)) (code_ : Sl UInt8) (c1 : Bool) (c3 : Ink) (x5 : AV) (ps8 : PS Stroke) (hp9 : pj ps8 = c3.strokes) (o10 : Nat) (c17 : Box × Int) (o18 : Nat) (m25 : Nat) (x28 : AV) (c30 : Box × Int) (o31 : Nat)  {st : Int × Int × Int × Int × Int} {tm : TM} {h : Heap} (R : (fun (st : Int × Int × Int × Int × Int) tm h41 => match st with | (w37, w38, w39, w40, w43) => tm = ((Sl.enc code_) :: und :: AV.top :: (AV.ptr o10 1 0 0) :: (AV.ptr o18 1 0 0) :: (iv c17.2) :: (AV.ptr o31 1 0 0) :: (iv c30.2) :: (iv w43) :: AV.top :: AV.top :: AV.top :: AV.top :: (Sl.enc code_) :: (bv c1) :: (Sl.enc code_) :: (AV.agg [x5]) :: (AV.ptr o10 1 0 0) :: x5 :: (iv (((c3.strokes.getD []).length : Nat) : Int)) :: (bv (decide ((((c3.strokes.getD []).length : Nat) : Int) = 0))) :: (AV.tup [AV.agg [iv c17.1.x1, iv c17.1.y1, iv c17.1.x2, iv c17.1.y2], iv c17.2]) :: (AV.agg [x5]) :: (AV.tup [AV.agg [iv c17.1.x1, iv c17.1.y1, iv c17.1.x2, iv c17.1.y2], iv c17.2]) :: (AV.agg [iv c17.1.x1, iv c17.1.y1, iv c17.1.x2, iv c17.1.y2]) :: (iv c17.2) :: (AV.tup [AV.agg [iv c30.1.x1, iv c30.1.y1, iv c30.1.x2, iv c30.1.y2], iv c30.2]) :: (AV.ptr o10 1 0 0) :: x5 :: (elp x5 m25 0) :: (AV.agg [x28]) :: (AV.tup [AV.agg [iv c30.1.x1, iv c30.1.y1, iv c30.1.x2, iv c30.1.y2], iv c30.2]) :: (AV.agg [iv c30.1.x1, iv c30.1.y1, iv c30.1.x2, iv c30.1.y2]) :: (iv c30.2) :: AV.top :: AV.top :: AV.top :: AV.top :: AV.top :: AV.top :: AV.top :: AV.top :: AV.top :: AV.top :: AV.top :: AV.top :: AV.top :: AV.top :: AV.top :: AV.top :: AV.top :: AV.top :: AV.top :: AV.top :: AV.top :: AV.top :: AV.top :: AV.top :: AV.top :: AV.top :: AV.top :: AV.top :: AV.top :: und :: und :: und :: und :: und :: und :: und :: und :: und :: und :: und :: und :: und :: und :: und :: []) ∧ Hold B h41 ([(AV.ptr o10 1 0 0, .pt 1 [x5]), (AV.ptr o18 1 0 0, .pt 4 [iv c17.1.x1, iv c17.1.y1, iv c17.1.x2, iv c17.1.y2]), (AV.ptr o31 1 0 0, .pt 4 [iv w37, iv w38, iv w39, iv w40])] ++ D2 (A := Stroke) x5 ps8)) st tm h) : Sim (loopP hm0_laws_FnBoxes xm0_laws_FnBoxes (lb0_laws_FnBoxes env) tm h) (loopT (s0_laws_FnBoxes c3) st) (fun (q : Sum (Int × Int × Int × Int) Bool) (r : Res) => match q with | .inl (q46, q47, q48, q49) => ∃ (q51 : Int) (z50 : AV) (z52 : AV) (z53 : AV) (z54 : AV) (z55 : AV) (h44 : Heap), r = (.exit 0, ((Sl.enc code_) :: und :: z50 :: (AV.ptr o10 1 0 0) :: (AV.ptr o18 1 0 0) :: (iv c17.2) :: (AV.ptr o31 1 0 0) :: (iv c30.2) :: (iv q51) :: z52 :: z53 :: z54 :: z55 :: (Sl.enc code_) :: (bv c1) :: (Sl.enc code_) :: (AV.agg [x5]) :: (AV.ptr o10 1 0 0) :: x5 :: (iv (((c3.strokes.getD []).length : Nat) : Int)) :: (bv (decide ((((c3.strokes.getD []).length : Nat) : Int) = 0))) :: (AV.tup [AV.agg [iv c17.1.x1, iv c17.1.y1, iv c17.1.x2, iv c17.1.y2], iv c17.2]) :: (AV.agg [x5]) :: (AV.tup [AV.agg [iv c17.1.x1, iv c17.1.y1, iv c17.1.x2, iv c17.1.y2], iv c17.2]) :: (AV.agg [iv c17.1.x1, iv c17.1.y1, iv c17.1.x2, iv c17.1.y2]) :: (iv c17.2) :: (AV.tup [AV.agg [iv c30.1.x1, iv c30.1.y1, iv c30.1.x2, iv c30.1.y2], iv c30.2]) :: (AV.ptr o10 1 0 0) :: x5 :: (elp x5 m25 0) :: (AV.agg [x28]) :: (AV.tup [AV.agg [iv c30.1.x1, iv c30.1.y1, iv c30.1.x2, iv c30.1.y2], iv c30.2]) :: (AV.agg [iv c30.1.x1, iv c30.1.y1, iv c30.1.x2, iv c30.1.y2]) :: (iv c30.2) :: AV.top :: AV.top :: AV.top :: AV.top :: AV.top :: AV.top :: AV.top :: AV.top :: AV.top :: AV.top :: AV.top :: AV.top :: AV.top :: AV.top :: AV.top :: AV.top :: AV.top :: AV.top :: AV.top :: AV.top :: AV.top :: AV.top :: AV.top :: AV.top :: AV.top :: AV.top :: AV.top :: AV.top :: AV.top :: und :: und :: und :: und :: und :: und :: und :: und :: und :: und :: und :: und :: und :: und :: und :: []), h44) ∧ Hold B h44 ([(AV.ptr o10 1 0 0, .pt 1 [x5]), (AV.ptr o18 1 0 0, .pt 4 [iv c17.1.x1, iv c17.1.y1, iv c17.1.x2, iv c17.1.y2]), (AV.ptr o31 1 0 0, .pt 4 [iv q46, iv q47, iv q48, iv q49])] ++ D2 (A := Stroke) x5 ps8) | .inr q69 => ∃ (q65 : Int) (q66 : Int) (q67 : Int) (q68 : Int) (q70 : Int) (q72 : Int) (q74 : Int) (z71 : AV) (z73 : AV) (h63 : Heap), r = (.ret, ((Sl.enc code_) :: und :: (bv q69) :: (AV.ptr o10 1 0 0) :: (AV.ptr o18 1 0 0) :: (iv c17.2) :: (AV.ptr o31 1 0 0) :: (iv c30.2) :: (iv q70) :: z71 :: (iv q72) :: z73 :: (iv q74) :: (Sl.enc code_) :: (bv c1) :: (Sl.enc code_) :: (AV.agg [x5]) :: (AV.ptr o10 1 0 0) :: x5 :: (iv (((c3.strokes.getD []).length : Nat) : Int)) :: (bv (decide ((((c3.strokes.getD []).length : Nat) : Int) = 0))) :: (AV.tup [AV.agg [iv c17.1.x1, iv c17.1.y1, iv c17.1.x2, iv c17.1.y2], iv c17.2]) :: (AV.agg [x5]) :: (AV.tup [AV.agg [iv c17.1.x1, iv c17.1.y1, iv c17.1.x2, iv c17.1.y2], iv c17.2]) :: (AV.agg [iv c17.1.x1, iv c17.1.y1, iv c17.1.x2, iv c17.1.y2]) :: (iv c17.2) :: (AV.tup [AV.agg [iv c30.1.x1, iv c30.1.y1, iv c30.1.x2, iv c30.1.y2], iv c30.2]) :: (AV.ptr o10 1 0 0) :: x5 :: (elp x5 m25 0) :: (AV.agg [x28]) :: (AV.tup [AV.agg [iv c30.1.x1, iv c30.1.y1, iv c30.1.x2, iv c30.1.y2], iv c30.2]) :: (AV.agg [iv c30.1.x1, iv c30.1.y1, iv c30.1.x2, iv c30.1.y2]) :: (iv c30.2) :: AV.top :: AV.top :: AV.top :: AV.top :: AV.top :: AV.top :: AV.top :: AV.top :: AV.top :: AV.top :: AV.top :: AV.top :: AV.top :: AV.top :: AV.top :: AV.top :: AV.top :: AV.top :: AV.top :: AV.top :: AV.top :: AV.top :: AV.top :: AV.top :: AV.top :: AV.top :: AV.top :: AV.top :: AV.top :: und :: und :: und :: und :: und :: und :: und :: und :: und :: und :: und :: und :: und :: und :: und :: []), h63) ∧ Hold B h63 ([(AV.ptr o10 1 0 0, .pt 1 [x5]), (AV.ptr o18 1 0 0, .pt 4 [iv c17.1.x1, iv c17.1.y1, iv c17.1.x2, iv c17.1.y2]), (AV.ptr o31 1 0 0, .pt 4 [iv q65, iv q66, iv q67, iv q68])] ++ D2 (A := Stroke) x5 ps8)) := by
  refine loop_sim (Rel := fun (st : Int × Int × Int × Int × Int) tm h41 => match st with | (w37, w38, w39, w40, w43) => tm = ((Sl.enc code_) :: und :: AV.top :: (AV.ptr o10 1 0 0) :: (AV.ptr o18 1 0 0) :: (iv c17.2) :: (AV.ptr o31 1 0 0) :: (iv c30.2) :: (iv w43) :: AV.top :: AV.top :: AV.top :: AV.top :: (Sl.enc code_) :: (bv c1) :: (Sl.enc code_) :: (AV.agg [x5]) :: (AV.ptr o10 1 0 0) :: x5 :: (iv (((c3.strokes.getD []).length : Nat) : Int)) :: (bv (decide ((((c3.strokes.getD []).length : Nat) : Int) = 0))) :: (AV.tup [AV.agg [iv c17.1.x1, iv c17.1.y1, iv c17.1.x2, iv c17.1.y2], iv c17.2]) :: (AV.agg [x5]) :: (AV.tup [AV.agg [iv c17.1.x1, iv c17.1.y1, iv c17.1.x2, iv c17.1.y2], iv c17.2]) :: (AV.agg [iv c17.1.x1, iv c17.1.y1, iv c17.1.x2, iv c17.1.y2]) :: (iv c17.2) :: (AV.tup [AV.agg [iv c30.1.x1, iv c30.1.y1, iv c30.1.x2, iv c30.1.y2], iv c30.2]) :: (AV.ptr o10 1 0 0) :: x5 :: (elp x5 m25 0) :: (AV.agg [x28]) :: (AV.tup [AV.agg [iv c30.1.x1, iv c30.1.y1, iv c30.1.x2, iv c30.1.y2], iv c30.2]) :: (AV.agg [iv c30.1.x1, iv c30.1.y1, iv c30.1.x2, iv c30.1.y2]) :: (iv c30.2) :: AV.top :: AV.top :: AV.top :: AV.top :: AV.top :: AV.top :: AV.top :: AV.top :: AV.top :: AV.top :: AV.top :: AV.top :: AV.top :: AV.top :: AV.top :: AV.top :: AV.top :: AV.top :: AV.top :: AV.top :: AV.top :: AV.top :: AV.top :: AV.top :: AV.top :: AV.top :: AV.top :: AV.top :: AV.top :: und :: und :: und :: und :: und :: und :: und :: und :: und :: und :: und :: und :: und :: und :: und :: []) ∧ Hold B h41 ([(AV.ptr o10 1 0 0, .pt 1 [x5]), (AV.ptr o18 1 0 0, .pt 4 [iv c17.1.x1, iv c17.1.y1, iv c17.1.x2, iv c17.1.y2]), (AV.ptr o31 1 0 0, .pt 4 [iv w37, iv w38, iv w39, iv w40])] ++ D2 (A := Stroke) x5 ps8)) (fun st tm h41 R => ?_) R
  obtain ⟨w37, w38, w39, w40, w43⟩ := st
  obtain ⟨rfl, O42⟩ := R
  rw [e_lb0_laws_FnBoxes]
  unfold s0_laws_FnBoxes
  dsimp only
  refine sim_let (v := AV.ptr o10 1 0 0) rfl ?_
  refine sim_let (v := x5) (O42.ld 0 rfl false 1 0) ?_
  refine sim_let (v := iv (((c3.strokes.getD []).length : Nat) : Int)) (D2.lenS (l := [(AV.ptr o10 1 0 0, .pt 1 [x5]), (AV.ptr o18 1 0 0, .pt 4 [iv c17.1.x1, iv c17.1.y1, iv c17.1.x2, iv c17.1.y2]), (AV.ptr o31 1 0 0, .pt 4 [iv w37, iv w38, iv w39, iv w40])]) (x := x5) (ps := ps8) (A := Stroke) O42 hp9) ?_
  refine sim_let (v := bv (decide (w43 < (((c3.strokes.getD []).length : Nat) : Int)))) (aBin_lss _ _) ?_
  refine sim_cond (fun c75 => ?_) (fun c75 => ?_)
  · refine sim_let (v := AV.ptr o10 1 0 0) rfl ?_
    refine sim_let (v := x5) (O42.ld 0 rfl false 1 0) ?_
    refine sim_getN (l := [(AV.ptr o10 1 0 0, .pt 1 [x5]), (AV.ptr o18 1 0 0, .pt 4 [iv c17.1.x1, iv c17.1.y1, iv c17.1.x2, iv c17.1.y2]), (AV.ptr o31 1 0 0, .pt 4 [iv w37, iv w38, iv w39, iv w40])]) (x := x5) (ps := ps8) (A := Stroke) O42 hp9 (fun m77 a76 x80 hi78 hm79 hg81 => ?_)
    refine sim_let (v := AV.agg [x80]) (D2.ld (l := [(AV.ptr o10 1 0 0, .pt 1 [x5]), (AV.ptr o18 1 0 0, .pt 4 [iv c17.1.x1, iv c17.1.y1, iv c17.1.x2, iv c17.1.y2]), (AV.ptr o31 1 0 0, .pt 4 [iv w37, iv w38, iv w39, iv w40])]) (x := x5) (ps := ps8) (A := Stroke) O42 hm79 true 1 0) ?_
    refine sim_call1 he_impl_BoxOfStroke (snapD_own h41 a76 rfl (by simp [omap, O42.snap7 (A := Point) (s := a76.points) _ (D2.at hm79)])) (fun c82 => ?_)
    refine sim_let2 (hand_plain (by rfl) _ _) ?_
    refine sim_let (v := AV.agg [iv c82.1.x1, iv c82.1.y1, iv c82.1.x2, iv c82.1.y2]) rfl ?_
    refine sim_let (v := iv c82.2) rfl ?_
    refine sim_box O42 (cs := [iv 0, iv 0, iv 0, iv 0]) (by first | rfl | simp) (fun o83 h84 O85 => ?_)
    replace O85 : Hold B h84 ([(AV.ptr o10 1 0 0, .pt 1 [x5]), (AV.ptr o18 1 0 0, .pt 4 [iv c17.1.x1, iv c17.1.y1, iv c17.1.x2, iv c17.1.y2]), (AV.ptr o31 1 0 0, .pt 4 [iv w37, iv w38, iv w39, iv w40]), (AV.ptr o83 1 0 0, .pt 4 [iv 0, iv 0, iv 0, iv 0])] ++ D2 (A := Stroke) x5 ps8) := Hold.rot O85
    refine sim_store O85 3 (cs' := [iv c82.1.x1, iv c82.1.y1, iv c82.1.x2, iv c82.1.y2]) rfl (by first | rfl | simp) (by simp) (by first | rfl | simp) (by first | rfl | simp [splice]) (fun h87 O88 => ?_)
    replace O88 : Hold B h87 ([(AV.ptr o10 1 0 0, .pt 1 [x5]), (AV.ptr o18 1 0 0, .pt 4 [iv c17.1.x1, iv c17.1.y1, iv c17.1.x2, iv c17.1.y2]), (AV.ptr o31 1 0 0, .pt 4 [iv w37, iv w38, iv w39, iv w40]), (AV.ptr o83 1 0 0, .pt 4 [iv c82.1.x1, iv c82.1.y1, iv c82.1.x2, iv c82.1.y2])] ++ D2 (A := Stroke) x5 ps8) := O88
    refine sim_let (v := AV.agg [iv w37, iv w38, iv w39, iv w40]) (O88.ld 2 rfl true 4 0) ?_
    refine sim_let (v := AV.agg [iv c82.1.x1, iv c82.1.y1, iv c82.1.x2, iv c82.1.y2]) (O88.ld 3 rfl true 4 0) ?_
    refine sim_call2 he_impl_JoinBoxes (snapD_nr _ (⟨w37, w38, w39, w40⟩ : Box) rfl) (snapD_nr _ c82.1 rfl) (fun c89 => ?_)
    refine sim_let2 (hand_plain (by rfl) _ _) ?_
    refine sim_let (v := AV.agg [iv c89.1.x1, iv c89.1.y1, iv c89.1.x2, iv c89.1.y2]) rfl ?_
    refine sim_let (v := iv c89.2) rfl ?_
    refine sim_box O88 (cs := [iv 0, iv 0, iv 0, iv 0]) (by first | rfl | simp) (fun o90 h91 O92 => ?_)
    replace O92 : Hold B h91 ([(AV.ptr o10 1 0 0, .pt 1 [x5]), (AV.ptr o18 1 0 0, .pt 4 [iv c17.1.x1, iv c17.1.y1, iv c17.1.x2, iv c17.1.y2]), (AV.ptr o31 1 0 0, .pt 4 [iv w37, iv w38, iv w39, iv w40]), (AV.ptr o83 1 0 0, .pt 4 [iv c82.1.x1, iv c82.1.y1, iv c82.1.x2, iv c82.1.y2]), (AV.ptr o90 1 0 0, .pt 4 [iv 0, iv 0, iv 0, iv 0])] ++ D2 (A := Stroke) x5 ps8) := Hold.rot O92
    refine sim_store O92 4 (cs' := [iv c89.1.x1, iv c89.1.y1, iv c89.1.x2, iv c89.1.y2]) rfl (by first | rfl | simp) (by simp) (by first | rfl | simp) (by first | rfl | simp [splice]) (fun h94 O95 => ?_)
    replace O95 : Hold B h94 ([(AV.ptr o10 1 0 0, .pt 1 [x5]), (AV.ptr o18 1 0 0, .pt 4 [iv c17.1.x1, iv c17.1.y1, iv c17.1.x2, iv c17.1.y2]), (AV.ptr o31 1 0 0, .pt 4 [iv w37, iv w38, iv w39, iv w40]), (AV.ptr o83 1 0 0, .pt 4 [iv c82.1.x1, iv c82.1.y1, iv c82.1.x2, iv c82.1.y2]), (AV.ptr o90 1 0 0, .pt 4 [iv c89.1.x1, iv c89.1.y1, iv c89.1.x2, iv c89.1.y2])] ++ D2 (A := Stroke) x5 ps8) := O95
    refine sim_let (v := bv (!decide (c82.2 = 0))) (aCmp_ne _ _) ?_
    refine sim_guardF (e := bv) (fun hb96 => ?_) (fun c97 => ?_)
    · refine sim_let (v := bv (!decide (c89.2 = 0))) (aCmp_ne _ _) ?_
      exact sim_ret rfl
    · refine sim_let (v := bv (bif !decide (c82.2 = 0) then true else c97)) (pick_b' _ _ _) ?_
      refine sim_cond (fun c98 => ?_) (fun c98 => ?_)
      · have O99 : Hold B h94 ([(AV.ptr o10 1 0 0, .pt 1 [x5]), (AV.ptr o18 1 0 0, .pt 4 [iv c17.1.x1, iv c17.1.y1, iv c17.1.x2, iv c17.1.y2]), (AV.ptr o31 1 0 0, .pt 4 [iv w37, iv w38, iv w39, iv w40])] ++ D2 (A := Stroke) x5 ps8) := O95.selD [0, 1, 2] (by decide) rfl
        exact sim_ret ⟨nofun, _, _, _, _, _, _, _, _, _, _, rfl, O99⟩
      · refine sim_let (v := AV.agg [iv c89.1.x1, iv c89.1.y1, iv c89.1.x2, iv c89.1.y2]) (O95.ld 4 rfl true 4 0) ?_
        refine sim_store O95 2 (cs' := [iv c89.1.x1, iv c89.1.y1, iv c89.1.x2, iv c89.1.y2]) rfl (by first | rfl | simp) (by simp) (by first | rfl | simp) (by first | rfl | simp [splice]) (fun h100 O101 => ?_)
        replace O101 : Hold B h100 ([(AV.ptr o10 1 0 0, .pt 1 [x5]), (AV.ptr o18 1 0 0, .pt 4 [iv c17.1.x1, iv c17.1.y1, iv c17.1.x2, iv c17.1.y2]), (AV.ptr o31 1 0 0, .pt 4 [iv c89.1.x1, iv c89.1.y1, iv c89.1.x2, iv c89.1.y2]), (AV.ptr o83 1 0 0, .pt 4 [iv c82.1.x1, iv c82.1.y1, iv c82.1.x2, iv c82.1.y2]), (AV.ptr o90 1 0 0, .pt 4 [iv c89.1.x1, iv c89.1.y1, iv c89.1.x2, iv c89.1.y2])] ++ D2 (A := Stroke) x5 ps8) := O101
        refine sim_let (v := iv (wr (w43 + 1))) (aBin_add _ _) ?_
        have O102 : Hold B h100 ([(AV.ptr o10 1 0 0, .pt 1 [x5]), (AV.ptr o18 1 0 0, .pt 4 [iv c17.1.x1, iv c17.1.y1, iv c17.1.x2, iv c17.1.y2]), (AV.ptr o31 1 0 0, .pt 4 [iv c89.1.x1, iv c89.1.y1, iv c89.1.x2, iv c89.1.y2])] ++ D2 (A := Stroke) x5 ps8) := O101.selD [0, 1, 2] (by decide) rfl
        exact sim_ret ⟨rfl, rfl, O102⟩
  · exact sim_ret ⟨nofun, _, _, _, _, _, _, _, rfl, O42⟩
theorem ts_laws_FnBoxes (env : Nat → Contract) (he_impl_BoxOfInk : env n_impl_BoxOfInk = .pure (C1 (fun c : Box × Int => AV.tup [enc c.1, enc c.2]) t_impl_BoxOfInk)) (he_impl_BoxOfStroke : env n_impl_BoxOfStroke = .pure (C1 (fun c : Box × Int => AV.tup [enc c.1, enc c.2]) t_impl_BoxOfStroke)) (he_impl_JoinBoxes : env n_impl_JoinBoxes = .pure (C2 (fun c : Box × Int => AV.tup [enc c.1, enc c.2]) t_impl_JoinBoxes)) (he_impl_ValidBox : env n_impl_ValidBox = .pure (T1 validBox)) (he_laws_a2Long : env n_laws_a2Long = .pure (C2 (fun c : Bool => enc c) t_laws_a2Long)) (he_spec_A2Ink : env n_spec_A2Ink = .pure (C1 (fun c : Ink => AV.agg [rD c.strokes]) t_spec_A2Ink)) (code_ : Sl UInt8) : Sim (denFn Try.prog env n_laws_FnBoxes [Sl.enc code_] []) (t_laws_FnBoxes code_) fun c p => release p.2 depth p.1 = some ((fun c : Bool => enc c) c) := by
  have O := Hold.nil []
  generalize hB : (⟨[], []⟩ : Base) = B at O
  clear hB
  rw [e_laws_FnBoxes]
  unfold t_laws_FnBoxes
  refine sim_call2 he_laws_a2Long (snapD_enc _ _) (snapD_nil _) (fun c1 => ?_)
  refine sim_let2 (hand_plain (by rfl) _ _) ?_
  refine sim_cond (fun c2 => ?_) (fun c2 => ?_)
  · exact sim_ret (release_plain (by rfl) _)
  · refine sim_call1 he_spec_A2Ink (snapD_enc _ _) (fun c3 => ?_)
    refine sim_handNC (l := []) (A := Stroke) 5 O (s := c3.strokes) (fun z1 => AV.agg [z1]) (by intro b; simp only [mat_tup, mat_aggD, mat_agg, matLc, matLn, mat_iv, mat_bv, mat_sv, mat_bt, mat_nilS, List.append_nil, List.nil_append]) (fun hn => by have hn : noF 7 (rD c3.strokes) = true := hn; simp only [noF_tup, noF_aggD, noF_agg, noF_iv, noF_bv, noF_sv, noF_bt, noF_nilS, hn, List.all_cons, List.all_nil, Bool.and_self]) (fun x5 ps8 h6 hp9 O7 => ?_)
    refine sim_box O7 (cs := [nilS]) (by first | rfl | simp) (fun o10 h11 O12 => ?_)
    replace O12 : Hold B h11 ([(AV.ptr o10 1 0 0, .pt 1 [nilS])] ++ D2 (A := Stroke) x5 ps8) := Hold.rot O12
    refine sim_store O12 0 (cs' := [x5]) rfl (by first | rfl | simp [(D2.oneX (l := [(AV.ptr o10 1 0 0, .pt 1 [nilS])]) (x := x5) (ps := ps8) (A := Stroke) O12).1, (D2.oneX (l := [(AV.ptr o10 1 0 0, .pt 1 [nilS])]) (x := x5) (ps := ps8) (A := Stroke) O12).2]) (by simp) (by first | rfl | simp [(D2.oneX (l := [(AV.ptr o10 1 0 0, .pt 1 [nilS])]) (x := x5) (ps := ps8) (A := Stroke) O12).1, (D2.oneX (l := [(AV.ptr o10 1 0 0, .pt 1 [nilS])]) (x := x5) (ps := ps8) (A := Stroke) O12).2]) (by first | rfl | simp [splice, (D2.oneX (l := [(AV.ptr o10 1 0 0, .pt 1 [nilS])]) (x := x5) (ps := ps8) (A := Stroke) O12).1, (D2.oneX (l := [(AV.ptr o10 1 0 0, .pt 1 [nilS])]) (x := x5) (ps := ps8) (A := Stroke) O12).2]) (fun h14 O15 => ?_)
    replace O15 : Hold B h14 ([(AV.ptr o10 1 0 0, .pt 1 [x5])] ++ D2 (A := Stroke) x5 ps8) := O15
    refine sim_let (v := AV.ptr o10 1 0 0) rfl ?_
    refine sim_let (v := x5) (O15.ld 0 rfl false 1 0) ?_
    refine sim_let (v := iv (((c3.strokes.getD []).length : Nat) : Int)) (D2.lenS (l := [(AV.ptr o10 1 0 0, .pt 1 [x5])]) (x := x5) (ps := ps8) (A := Stroke) O15 hp9) ?_
    refine sim_let (v := bv (decide ((((c3.strokes.getD []).length : Nat) : Int) = 0))) (aCmp_eq _ _) ?_
    refine sim_cond (fun c16 => ?_) (fun c16 => ?_)
    · exact sim_ret (release_plain (by rfl) _)
    · refine sim_let (v := AV.agg [x5]) (O15.ld 0 rfl true 1 0) ?_
      refine sim_call1 he_impl_BoxOfInk (snapD_own h14 c3 rfl (by simp [omap, (D2.snapD (l := [(AV.ptr o10 1 0 0, .pt 1 [x5])]) (x := x5) (ps := ps8) (A := Stroke) O15 hp9).1])) (fun c17 => ?_)
      refine sim_let2 (hand_plain (by rfl) _ _) ?_
      refine sim_let (v := AV.agg [iv c17.1.x1, iv c17.1.y1, iv c17.1.x2, iv c17.1.y2]) rfl ?_
      refine sim_let (v := iv c17.2) rfl ?_
      refine sim_box O15 (cs := [iv 0, iv 0, iv 0, iv 0]) (by first | rfl | simp) (fun o18 h19 O20 => ?_)
      replace O20 : Hold B h19 ([(AV.ptr o10 1 0 0, .pt 1 [x5]), (AV.ptr o18 1 0 0, .pt 4 [iv 0, iv 0, iv 0, iv 0])] ++ D2 (A := Stroke) x5 ps8) := Hold.rot O20
      refine sim_store O20 1 (cs' := [iv c17.1.x1, iv c17.1.y1, iv c17.1.x2, iv c17.1.y2]) rfl (by first | rfl | simp) (by simp) (by first | rfl | simp) (by first | rfl | simp [splice]) (fun h22 O23 => ?_)
      replace O23 : Hold B h22 ([(AV.ptr o10 1 0 0, .pt 1 [x5]), (AV.ptr o18 1 0 0, .pt 4 [iv c17.1.x1, iv c17.1.y1, iv c17.1.x2, iv c17.1.y2])] ++ D2 (A := Stroke) x5 ps8) := O23
      refine sim_let (v := AV.ptr o10 1 0 0) rfl ?_
      refine sim_let (v := x5) (O23.ld 0 rfl false 1 0) ?_
      refine sim_getN (l := [(AV.ptr o10 1 0 0, .pt 1 [x5]), (AV.ptr o18 1 0 0, .pt 4 [iv c17.1.x1, iv c17.1.y1, iv c17.1.x2, iv c17.1.y2])]) (x := x5) (ps := ps8) (A := Stroke) O23 hp9 (fun m25 a24 x28 hi26 hm27 hg29 => ?_)
      refine sim_let (v := AV.agg [x28]) (D2.ld (l := [(AV.ptr o10 1 0 0, .pt 1 [x5]), (AV.ptr o18 1 0 0, .pt 4 [iv c17.1.x1, iv c17.1.y1, iv c17.1.x2, iv c17.1.y2])]) (x := x5) (ps := ps8) (A := Stroke) O23 hm27 true 1 0) ?_
      refine sim_call1 he_impl_BoxOfStroke (snapD_own h22 a24 rfl (by simp [omap, O23.snap7 (A := Point) (s := a24.points) _ (D2.at hm27)])) (fun c30 => ?_)
      refine sim_let2 (hand_plain (by rfl) _ _) ?_
      refine sim_let (v := AV.agg [iv c30.1.x1, iv c30.1.y1, iv c30.1.x2, iv c30.1.y2]) rfl ?_
      refine sim_let (v := iv c30.2) rfl ?_
      refine sim_box O23 (cs := [iv 0, iv 0, iv 0, iv 0]) (by first | rfl | simp) (fun o31 h32 O33 => ?_)
      replace O33 : Hold B h32 ([(AV.ptr o10 1 0 0, .pt 1 [x5]), (AV.ptr o18 1 0 0, .pt 4 [iv c17.1.x1, iv c17.1.y1, iv c17.1.x2, iv c17.1.y2]), (AV.ptr o31 1 0 0, .pt 4 [iv 0, iv 0, iv 0, iv 0])] ++ D2 (A := Stroke) x5 ps8) := Hold.rot O33
      refine sim_store O33 2 (cs' := [iv c30.1.x1, iv c30.1.y1, iv c30.1.x2, iv c30.1.y2]) rfl (by first | rfl | simp) (by simp) (by first | rfl | simp) (by first | rfl | simp [splice]) (fun h35 O36 => ?_)
      replace O36 : Hold B h35 ([(AV.ptr o10 1 0 0, .pt 1 [x5]), (AV.ptr o18 1 0 0, .pt 4 [iv c17.1.x1, iv c17.1.y1, iv c17.1.x2, iv c17.1.y2]), (AV.ptr o31 1 0 0, .pt 4 [iv c30.1.x1, iv c30.1.y1, iv c30.1.x2, iv c30.1.y2])] ++ D2 (A := Stroke) x5 ps8) := O36
      refine sim_bind ((tl0_laws_FnBoxes env he_impl_BoxOfInk he_impl_BoxOfStroke he_impl_JoinBoxes he_impl_ValidBox he_laws_a2Long he_spec_A2Ink code_ c1 c3 x5 ps8 hp9 o10 c17 o18 m25 x28 c30 o31) ⟨rfl, O36⟩) (fun qq105 r hq => ?_)
      rcases qq105 with ⟨q46, q47, q48, q49⟩ | q69
      · obtain ⟨q51, z50, z52, z53, z54, z55, h44, rfl, O45⟩ := hq
        rw [e_lk0x0_laws_FnBoxes]
        refine sim_let (v := bv (decide (c17.2 = 0))) (aCmp_eq _ _) ?_
        refine sim_guardT (e := bv) (fun hb56 => ?_) (fun c57 => ?_)
        · refine sim_let (v := bv (decide (c30.2 = 0))) (aCmp_eq _ _) ?_
          exact sim_ret rfl
        · refine sim_let (v := bv (bif decide (c17.2 = 0) then c57 else false)) (pick_b _ _ _) ?_
          refine sim_guardT (e := bv) (fun hb58 => ?_) (fun c59 => ?_)
          · refine sim_let (v := AV.agg [iv q46, iv q47, iv q48, iv q49]) (O45.ld 2 rfl true 4 0) ?_
            refine sim_let (v := AV.agg [iv c17.1.x1, iv c17.1.y1, iv c17.1.x2, iv c17.1.y2]) (O45.ld 1 rfl true 4 0) ?_
            refine sim_let (v := bv (decide ((⟨q46, q47, q48, q49⟩ : Box) = c17.1))) (aCmp_box (⟨q46, q47, q48, q49⟩ : Box) c17.1).1 ?_
            exact sim_ret rfl
          · refine sim_let (v := bv (bif (bif decide (c17.2 = 0) then c57 else false) then c59 else false)) (pick_b _ _ _) ?_
            refine sim_guardT (e := bv) (fun hb60 => ?_) (fun c62 => ?_)
            · refine sim_let (v := AV.agg [iv c17.1.x1, iv c17.1.y1, iv c17.1.x2, iv c17.1.y2]) (O45.ld 1 rfl true 4 0) ?_
              refine sim_callV1 (t := validBox) he_impl_ValidBox (snapD_nr _ c17.1 rfl) (fun c61 => ?_)
              exact sim_ret rfl
            · refine sim_let (v := bv (bif (bif (bif decide (c17.2 = 0) then c57 else false) then c59 else false) then c62 else false)) (pick_b _ _ _) ?_
              exact sim_ret (release_plain (by rfl) _)
      · obtain ⟨q65, q66, q67, q68, q70, q72, q74, z71, z73, h63, rfl, O64⟩ := hq
        rw [e_lk0r_laws_FnBoxes]
        exact sim_ret (release_plain (by rfl) _)
theorem tt_laws_FnBoxes : PureOK Try.prog n_laws_FnBoxes (C1 (fun c : Bool => enc c) t_laws_FnBoxes) := pureC1 (Econs tt_impl_BoxOfInk (Econs tt_impl_BoxOfStroke (Econs tt_impl_JoinBoxes (Econs ok_impl_ValidBox (Econs tt_laws_a2Long (Econs tt_spec_A2Ink E0)))))) mixed hb_laws_FnBoxes fun code_ => ts_laws_FnBoxes _ (by simp [envL]) (by simp [envL]) (by simp [envL]) (by simp [envL]) (by simp [envL]) (by simp [envL]) code_

/-- The source has been read up to `k` at most. -/
structure SK (s : l00Src) (k : Int) : Prop where
  lo : 0 ≤ s.pos
  hi : s.pos ≤ k

theorem SK.mono {s : l00Src} {k k' : Int} (h : SK s k) (hk : k ≤ k') : SK s k' := ⟨h.lo, by have := h.hi; omega⟩

theorem and255 (a : Int) : 0 ≤ wr (IntKind.u64.wrap ((BitVec.ofInt 64 a &&& BitVec.ofInt 64 255).toNat : Nat)) ∧ wr (IntKind.u64.wrap ((BitVec.ofInt 64 a &&& BitVec.ofInt 64 255).toNat : Nat)) ≤ 255 := by
  have h1 : (BitVec.ofInt 64 a &&& BitVec.ofInt 64 255).toNat ≤ 255 := by
    rw [BitVec.toNat_and]
    have : (BitVec.ofInt 64 255).toNat = 255 := by decide
    rw [this]
    exact Nat.and_le_right
  generalize (BitVec.ofInt 64 a &&& BitVec.ofInt 64 255).toNat = r at h1
  have h2 : IntKind.u64.wrap (r : Int) = r := by
    simp only [IntKind.wrap, IntKind.bits, IntKind.signed]
    simp only [Bool.false_and, Bool.false_eq_true, if_false]
    omega
  rw [h2, wr_id (by omega) (by omega)]
  omega

theorem getI_in {A : Type} {l : List A} {i : Int} (h0 : 0 ≤ i) (h1 : i < (l.length : Nat)) : ∃ a, getI l i = some a ∧ l[i.toNat]? = some a := by
  obtain ⟨m, rfl⟩ := Int.eq_ofNat_of_zero_le h0
  have h2 : m < l.length := by omega
  exact ⟨l[m], getI_nat (List.getElem?_eq_getElem h2), by simp [h2]⟩

theorem remI_pos {a b : Int} (ha : 0 ≤ a) (hb : 0 < b) : ∃ r, remI a b = some r ∧ 0 ≤ r ∧ r < b := by
  refine ⟨a.tmod b, ?_, Int.tmod_nonneg b ha, Int.tmod_lt_of_pos a hb⟩
  have : ¬ b = 0 := by omega
  simp [remI, this]

theorem dr_next {s : l00Src} {k : Int} (h : SK s k) (hk : k ≤ 1000000000000) : ∃ r s', t_spec_l00Src_next s = some (r, s') ∧ SK s' (k + 1) ∧ 0 ≤ r ∧ r ≤ 255 := by
  obtain ⟨h1, h2⟩ := h
  have w : wr (s.pos + 1) = s.pos + 1 := wr_id (by omega) (by omega)
  have b1 := fun a => (and255 a).1
  have b2 := fun a => (and255 a).2
  unfold t_spec_l00Src_next
  rw [w]
  by_cases c : s.pos < ((s.code.getD []).length : Nat)
  · obtain ⟨a, ha, _⟩ := getI_in h1 c
    have c2 : s.pos + 1 ≤ ((s.code.getD []).length : Nat) := by omega
    have := a.toNat_lt
    simp only [c, decide_true, cond_true, ha, obind_sm, c2]
    exact ⟨_, _, rfl, ⟨by simp only; omega, by simp only; omega⟩, by omega, by omega⟩
  · have c2 : ¬ s.pos + 1 ≤ ((s.code.getD []).length : Nat) := by omega
    simp only [c, decide_false, cond_false, c2]
    exact ⟨_, _, rfl, ⟨by simp only; omega, by simp only; omega⟩, b1 _, b2 _⟩

theorem dr_pick {s : l00Src} {k : Int} (h : SK s k) (hk : k ≤ 100000000000) {n : Int} (hn : n ≤ 60000) : ∃ r s', t_spec_l00Src_pick s n = some (r, s') ∧ SK s' (k + 2) ∧ 0 ≤ r ∧ (1 ≤ n → r < n) ∧ (n ≤ 1 → r = 0) := by
  unfold t_spec_l00Src_pick
  by_cases c : n ≤ 1
  · simp only [c, decide_true, cond_true]
    exact ⟨0, _, rfl, ⟨h.lo, by have := h.hi; simp only; omega⟩, by omega, fun _ => by omega, fun _ => rfl⟩
  · obtain ⟨r1, s1, e1, k1, p1, q1⟩ := dr_next h (by omega)
    simp only [c, decide_false, cond_false]
    have e1' : t_spec_l00Src_next ⟨s.code, s.pos, s.seed⟩ = some (r1, s1) := e1
    rw [e1', obind_sm]
    by_cases c2 : 200 < n
    · obtain ⟨r2, s2, e2, k2, p2, q2⟩ := dr_next k1 (by omega)
      have e2' : t_spec_l00Src_next ⟨s1.code, s1.pos, s1.seed⟩ = some (r2, s2) := e2
      have w1 : wr (r1 * 256) = r1 * 256 := wr_id (by omega) (by omega)
      have w2 : wr (r1 * 256 + r2) = r1 * 256 + r2 := wr_id (by omega) (by omega)
      obtain ⟨q, e3, p3, q3⟩ := remI_pos (a := r1 * 256 + r2) (b := n) (by omega) (by omega)
      simp only [c2, decide_true, cond_true, e2', obind_sm, w1, w2, e3]
      exact ⟨_, _, rfl, ⟨k2.lo, by have := k2.hi; simp only; omega⟩, p3, fun _ => q3, fun h => False.elim h⟩
    · obtain ⟨q, e3, p3, q3⟩ := remI_pos (a := r1) (b := n) (by omega) (by omega)
      simp only [c2, decide_false, cond_false, e3, obind_sm]
      exact ⟨_, _, rfl, ⟨k1.lo, by have := k1.hi; simp only; omega⟩, p3, fun _ => q3, fun h => False.elim h⟩

theorem dr_one {s : l00Src} {k : Int} (h : SK s k) (hk : k ≤ 100000000000) {n : Int} (hn : n ≤ 60000) : ∃ b s', t_spec_l00Src_one s n = some (b, s') ∧ SK s' (k + 2) := by
  obtain ⟨r, s', e, k', _⟩ := dr_pick h hk hn
  have e' : t_spec_l00Src_pick ⟨s.code, s.pos, s.seed⟩ n = some (r, s') := e
  unfold t_spec_l00Src_one
  simp only [e', obind_sm]
  exact ⟨_, _, rfl, k'⟩

theorem wr_succ {k n : Nat} (h : k < n) (hn : n ≤ 4294967296) : wr ((k : Int) + 1) = ((k + 1 : Nat) : Int) := by
  rw [wr_id (by omega) (by omega)]
  omega

theorem get_lt {A : Type} {l : List A} {k : Nat} {a : A} (h : l[k]? = some a) : k < l.length := (List.getElem?_eq_some_iff.1 h).1

/-- A point that is one; the points of a stroke that is one. -/
structure PtV (p : Point) : Prop where
  x0 : 0 ≤ p.x
  x1 : p.x ≤ 4095
  y0 : 0 ≤ p.y
  y1 : p.y ≤ 4095
  t0 : 0 ≤ p.t
  t1 : p.t ≤ 3600000

structure StV (l : List Point) : Prop where
  pts : ∀ p ∈ l, PtV p
  inc : ∀ (k : Nat) p q, l[k]? = some p → l[k + 1]? = some q → p.t < q.t
  n1 : 1 ≤ l.length
  n2 : l.length ≤ 60

/-- Points of a bounded size. -/
structure PtB (p : Point) : Prop where
  x0 : -10000000 ≤ p.x
  x1 : p.x ≤ 10000000
  y0 : -10000000 ≤ p.y
  y1 : p.y ≤ 10000000
  t0 : -10000000 ≤ p.t
  t1 : p.t ≤ 10000000

structure StB (s : Stroke) : Prop where
  n : (s.points.getD []).length ≤ 100
  pts : ∀ p ∈ s.points.getD [], PtB p

theorem PtV.b {p : Point} (h : PtV p) : PtB p := by
  obtain ⟨h1, h2, h3, h4, h5, h6⟩ := h
  exact ⟨by omega, by omega, by omega, by omega, by omega, by omega⟩

theorem StV.b {l : List Point} (h : StV l) : StB ⟨some l⟩ := ⟨Nat.le_trans h.n2 (by omega), fun p hp => (h.pts p hp).b⟩

theorem appS_cons {A : Type} (s : Sl A) (a : A) (l : List A) : appS s (a :: l) = some (s.getD [] ++ a :: l) := by cases s <;> rfl

theorem appO_one {A : Type} (s : Sl A) (a : A) (h : (s.getD []).length ≤ 1000000) : appO s [a] = some (some (s.getD [] ++ [a])) := by
  rw [appO_some (by simp; omega), appS_cons]

theorem inc_app {l : List Point} {p : Point} (h : ∀ (k : Nat) p q, l[k]? = some p → l[k + 1]? = some q → p.t < q.t) (hp : ∀ q ∈ l, q.t < p.t) : ∀ (k : Nat) a b, (l ++ [p])[k]? = some a → (l ++ [p])[k + 1]? = some b → a.t < b.t := by
  intro k a b h1 h2
  have hk := get_lt h2
  simp only [List.length_append, List.length_cons, List.length_nil] at hk
  rw [List.getElem?_append_left (by omega)] at h1
  by_cases c : k + 1 < l.length
  · rw [List.getElem?_append_left c] at h2
    exact h k a b h1 h2
  · have e : k + 1 = l.length := by omega
    rw [e, List.getElem?_append_right (Nat.le_refl _), Nat.sub_self] at h2
    simp at h2
    subst h2
    exact hp a (List.mem_of_getElem? h1)

theorem cl_4095 (x : Int) : 0 ≤ max (0 : Int) (min 4095 x) ∧ max (0 : Int) (min 4095 x) ≤ 4095 := by omega

/-- What the drawing of a stroke keeps. -/
structure StI (s : Sl Point) (i : Nat) (t0 t : Int) : Prop where
  len : (s.getD []).length = i
  som : 0 < i → ∃ l, s = .some l
  pts : ∀ p ∈ s.getD [], PtV p ∧ t0 ≤ p.t ∧ p.t < t
  inc : ∀ (k : Nat) p q, (s.getD [])[k]? = some p → (s.getD [])[k + 1]? = some q → p.t < q.t

theorem StI.step {s : Sl Point} {i : Nat} {t0 t t' x y : Int} (h : StI s i t0 t) (hx : 0 ≤ x ∧ x ≤ 4095) (hy : 0 ≤ y ∧ y ≤ 4095) (ht : t0 ≤ t) (h0 : 0 ≤ t0) (h1 : t ≤ 3600000) (ht' : t < t') : StI (some (s.getD [] ++ [⟨x, y, t⟩])) (i + 1) t0 t' := by
  refine ⟨by simp [h.len], fun _ => ⟨_, rfl⟩, fun p hp => ?_, inc_app h.inc fun q hq => (h.pts q hq).2.2⟩
  rcases List.mem_append.1 hp with hp | hp
  · have := h.pts p hp
    exact ⟨this.1, this.2.1, by omega⟩
  · simp only [List.mem_singleton] at hp
    subst hp
    exact ⟨⟨hx.1, hx.2, hy.1, hy.2, by simp only; omega, by simp only; omega⟩, ht, ht'⟩

theorem dr_stroke {s : l00Src} {k : Int} (h : SK s k) (hk : k ≤ 1000000000) {time x y : Int} (t0 : 0 ≤ time) (t1 : time ≤ 3000000) (hx : 0 ≤ x ∧ x ≤ 4095) (hy : 0 ≤ y ∧ y ≤ 4095) :
    ∃ l s', t_spec_l02DrawStroke s time x y = some (⟨some l⟩, s') ∧ SK s' (k + 1000) ∧ StV l ∧ l.length ≤ 10 ∧ ∀ p ∈ l, time ≤ p.t ∧ p.t ≤ time + 300 := by
  obtain ⟨r1, s1, e1, k1, p1, q1, _⟩ := dr_pick h (by omega) (n := 60) (by omega)
  obtain ⟨r2, s2, e2, k2, p2, q2, _⟩ := dr_pick k1 (by omega) (n := 60) (by omega)
  obtain ⟨r3, s3, e3, k3, p3, q3, _⟩ := dr_pick k2 (by omega) (n := 10) (by omega)
  have q1' := q1 (by omega)
  have q2' := q2 (by omega)
  have q3' := q3 (by omega)
  have w1 : wr (1 + r3) = 1 + r3 := wr_id (by omega) (by omega)
  have w2 : wr (r1 - 20) = r1 - 20 := wr_id (by omega) (by omega)
  have w3 : wr (r2 - 30) = r2 - 30 := wr_id (by omega) (by omega)
  obtain ⟨N, hN⟩ := Int.eq_ofNat_of_zero_le (a := 1 + r3) (by omega)
  unfold t_spec_l02DrawStroke
  simp only [e1, e2, e3, obind_sm, w1, w2, w3]
  obtain ⟨⟨c1, c2, c3, c4⟩, f1, f2, f3⟩ := loopT_ex (step := s0_spec_l02DrawStroke) (fun i (t : (Sl UInt8) × Int × Int × (Sl Point) × Int × Int × Int × Int × Int × Int) => SK ⟨t.1, t.2.1, t.2.2.1⟩ (k + 6 + 12 * i) ∧ StI t.2.2.2.1 i time t.2.2.2.2.1 ∧ (time ≤ t.2.2.2.2.1 ∧ t.2.2.2.2.1 ≤ time + 20 * i) ∧
      (0 ≤ t.2.2.2.2.2.1 ∧ t.2.2.2.2.2.1 ≤ 4095) ∧ (0 ≤ t.2.2.2.2.2.2.1 ∧ t.2.2.2.2.2.2.1 ≤ 4095) ∧ (-100 ≤ t.2.2.2.2.2.2.2.1 ∧ t.2.2.2.2.2.2.2.1 ≤ 100) ∧ (-100 ≤ t.2.2.2.2.2.2.2.2.1 ∧ t.2.2.2.2.2.2.2.2.1 ≤ 100) ∧ t.2.2.2.2.2.2.2.2.2 = N - (i : Int))
    N (fun r => SK ⟨r.1, r.2.1, r.2.2.1⟩ (k + 6 + 12 * N) ∧ StI r.2.2.2 N time (time + 20 * N + 1))
    (fun i ⟨v1, v2, v3, v4, v5, v6, v7, v8, v9, v10⟩ hi ⟨g1, g2, g3, g4, g5, g6, g7, g8⟩ => by
      simp only at g1 g2 g3 g4 g5 g6 g7 g8
      obtain ⟨r4, s4, e4, k4, p4, q4, _⟩ := dr_pick g1 (by omega) (n := 20) (by omega)
      obtain ⟨r5, s5, e5, k5, p5, q5, _⟩ := dr_pick k4 (by omega) (n := 9) (by omega)
      obtain ⟨r6, s6, e6, k6, p6, q6, _⟩ := dr_pick k5 (by omega) (n := 9) (by omega)
      obtain ⟨b7, s7, e7, k7⟩ := dr_one k6 (by omega) (n := 3) (by omega)
      have q4' := q4 (by omega)
      have q5' := q5 (by omega)
      have q6' := q6 (by omega)
      have a0 := appO_one v4 (⟨v6, v7, v5⟩ : Point) (by rw [g2.len]; omega)
      have a0' : appS v4 [(⟨v6, v7, v5⟩ : Point)] = some (v4.getD [] ++ [⟨v6, v7, v5⟩]) := appS_cons _ _ _
      have a1 : wr (v6 + v8) = v6 + v8 := wr_id (by omega) (by omega)
      have a2 : wr (v6 + v8 + r5) = v6 + v8 + r5 := wr_id (by omega) (by omega)
      have a3 : wr (v6 + v8 + r5 - 4) = v6 + v8 + r5 - 4 := wr_id (by omega) (by omega)
      have a4 : wr (v7 + v9) = v7 + v9 := wr_id (by omega) (by omega)
      have a5 : wr (v7 + v9 + r6) = v7 + v9 + r6 := wr_id (by omega) (by omega)
      have a6 : wr (v7 + v9 + r6 - 4) = v7 + v9 + r6 - 4 := wr_id (by omega) (by omega)
      have a7 : wr (1 + r4) = 1 + r4 := wr_id (by omega) (by omega)
      have a8 : wr (v5 + (1 + r4)) = v5 + (1 + r4) := wr_id (by omega) (by omega)
      have a9 : wr (v10 - 1) = v10 - 1 := wr_id (by omega) (by omega)
      have c : 0 < v10 := by omega
      have st := g2.step (x := v6) (y := v7) (t' := v5 + (1 + r4)) g4 g5 (by omega) (by omega) (by omega) (by omega)
      cases b7 with
      | true =>
        obtain ⟨r8, s8, e8, k8, p8, q8, _⟩ := dr_pick k7 (by omega) (n := 80) (by omega)
        obtain ⟨r9, s9, e9, k9, p9, q9, _⟩ := dr_pick k8 (by omega) (n := 80) (by omega)
        have q8' := q8 (by omega)
        have q9' := q9 (by omega)
        have b1 : wr (r8 - 40) = r8 - 40 := wr_id (by omega) (by omega)
        have b2 : wr (r9 - 40) = r9 - 40 := wr_id (by omega) (by omega)
        have e : s0_spec_l02DrawStroke (v1, v2, v3, v4, v5, v6, v7, v8, v9, v10) = some (.inl (s9.code, s9.pos, s9.seed, some (v4.getD [] ++ [⟨v6, v7, v5⟩]), v5 + (1 + r4), max 0 (min 4095 (v6 + v8 + r5 - 4)), max 0 (min 4095 (v7 + v9 + r6 - 4)), r8 - 40, r9 - 40, v10 - 1)) := by
          unfold s0_spec_l02DrawStroke
          simp only [c, decide_true, cond_true, e4, e5, e6, e7, e8, e9, obind_sm, a0, a0', a1, a2, a3, a4, a5, a6, a7, a8, a9, b1, b2]
        exact .inl ⟨_, e, k9.mono (by omega), st, ⟨by simp only; omega, by simp only; omega⟩, cl_4095 _, cl_4095 _, ⟨by simp only; omega, by simp only; omega⟩, ⟨by simp only; omega, by simp only; omega⟩, by simp only; omega⟩
      | false =>
        have e : s0_spec_l02DrawStroke (v1, v2, v3, v4, v5, v6, v7, v8, v9, v10) = some (.inl (s7.code, s7.pos, s7.seed, some (v4.getD [] ++ [⟨v6, v7, v5⟩]), v5 + (1 + r4), max 0 (min 4095 (v6 + v8 + r5 - 4)), max 0 (min 4095 (v7 + v9 + r6 - 4)), v8, v9, v10 - 1)) := by
          unfold s0_spec_l02DrawStroke
          simp only [c, decide_true, cond_true, cond_false, e4, e5, e6, e7, obind_sm, a0, a0', a1, a2, a3, a4, a5, a6, a7, a8, a9]
        exact .inl ⟨_, e, k7.mono (by omega), st, ⟨by simp only; omega, by simp only; omega⟩, cl_4095 _, cl_4095 _, g6, g7, by simp only; omega⟩)
    (fun ⟨v1, v2, v3, v4, v5, v6, v7, v8, v9, v10⟩ ⟨g1, g2, g3, g4, g5, g6, g7, g8⟩ => by
      simp only at g1 g2 g3 g8
      have c : ¬ 0 < v10 := by omega
      have e : s0_spec_l02DrawStroke (v1, v2, v3, v4, v5, v6, v7, v8, v9, v10) = some (.inr (v1, v2, v3, v4)) := by
        unfold s0_spec_l02DrawStroke
        simp only [c, decide_false, cond_false]
      refine ⟨_, e, g1, g2.len, g2.som, fun p hp => ?_, g2.inc⟩
      have := g2.pts p hp
      exact ⟨this.1, this.2.1, by omega⟩)
    (s := (s3.code, s3.pos, s3.seed, none, time, x, y, r1 - 20, r2 - 30, 1 + r3)) ⟨k3.mono (by omega), ⟨rfl, fun h => by omega, fun p hp => (by cases hp), fun k p q h1 _ => (by simp at h1)⟩, ⟨by simp only; omega, by simp only; omega⟩, hx, hy, ⟨by simp only; omega, by simp only; omega⟩, ⟨by simp only; omega, by simp only; omega⟩, by simp only; omega⟩
  simp only at f2 f3
  obtain ⟨l, rfl⟩ := f3.som (by omega)
  have hl : l.length = N := f3.len
  rw [f1]
  refine ⟨l, _, rfl, f2.mono (by omega), ⟨fun p hp => (f3.pts p hp).1, f3.inc, by omega, by omega⟩, by omega, fun p hp => ?_⟩
  have := f3.pts p hp
  omega

theorem last_ok {l : List Point} (h : StV l) : ∃ p, t_spec_l02Last ⟨some l⟩ = some p.t ∧ l[l.length - 1]? = some p ∧ p ∈ l ∧ ∀ q ∈ l, q.t ≤ p.t := by
  have h1 := h.n1
  have h2 := h.n2
  obtain ⟨p, hp⟩ : ∃ p, l[l.length - 1]? = some p := ⟨l[l.length - 1], List.getElem?_eq_getElem (by omega)⟩
  have w : wr (((l.length : Nat) : Int) - 1) = ((l.length - 1 : Nat) : Int) := by rw [wr_id (by omega) (by omega)]; omega
  refine ⟨p, ?_, hp, List.mem_of_getElem? hp, fun q hq => ?_⟩
  · unfold t_spec_l02Last
    simp only [Option.getD_some, w, getI_nat hp, obind_sm]
  · obtain ⟨k, hk⟩ := List.mem_iff_getElem?.1 hq
    have key : ∀ (d k : Nat) (a b : Point), l[k]? = some a → l[k + d]? = some b → a.t ≤ b.t := by
      intro d
      induction d with
      | zero => intro k a b h1 h2; rw [Nat.add_zero, h1] at h2; cases h2; exact Int.le_refl _
      | succ d ih =>
        intro k a b h1 h2
        have hlt := get_lt h2
        obtain ⟨m, hm⟩ : ∃ m, l[k + d]? = some m := ⟨l[k + d], List.getElem?_eq_getElem (by omega)⟩
        have := ih k a m h1 hm
        have := h.inc (k + d) m b hm (by rw [Nat.add_assoc]; exact h2)
        omega
    have hk2 := get_lt hk
    exact key (l.length - 1 - k) k q p hk (by rw [← hp]; congr 1; omega)

/-- Ink that is one. -/
structure InkV (L : List Stroke) : Prop where
  st : ∀ s ∈ L, ∃ l, s = ⟨some l⟩ ∧ StV l
  inc : ∀ (k : Nat) l l', L[k]? = some ⟨some l⟩ → L[k + 1]? = some ⟨some l'⟩ → ∀ p ∈ l, ∀ q ∈ l', p.t < q.t
  n : L.length ≤ 16

/-- What the drawing of ink keeps. -/
structure InkI (s : Sl Stroke) (i : Nat) (t : Int) : Prop where
  len : (s.getD []).length = i
  som : 0 < i → ∃ l, s = .some l
  st : ∀ x ∈ s.getD [], ∃ l, x = ⟨some l⟩ ∧ StV l ∧ ∀ p ∈ l, p.t < t
  inc : ∀ (k : Nat) l l', (s.getD [])[k]? = some ⟨some l⟩ → (s.getD [])[k + 1]? = some ⟨some l'⟩ → ∀ p ∈ l, ∀ q ∈ l', p.t < q.t

theorem InkI.step {s : Sl Stroke} {i : Nat} {t t' : Int} {l : List Point} (h : InkI s i t) (hl : StV l) (h0 : ∀ p ∈ l, t ≤ p.t ∧ p.t < t') (ht : t ≤ t') : InkI (some (s.getD [] ++ [⟨some l⟩])) (i + 1) t' := by
  refine ⟨by simp [h.len], fun _ => ⟨_, rfl⟩, fun x hx => ?_, ?_⟩
  · rcases List.mem_append.1 hx with hx | hx
    · obtain ⟨l', e, h1, h2⟩ := h.st x hx
      exact ⟨l', e, h1, fun p hp => Int.lt_of_lt_of_le (h2 p hp) ht⟩
    · simp only [List.mem_singleton] at hx
      exact ⟨l, hx, hl, fun p hp => (h0 p hp).2⟩
  · intro k a b h1 h2
    simp only [Option.getD_some] at h1 h2
    have hk := get_lt h2
    simp only [List.length_append, List.length_cons, List.length_nil] at hk
    rw [List.getElem?_append_left (by omega)] at h1
    by_cases c : k + 1 < (s.getD []).length
    · rw [List.getElem?_append_left c] at h2
      exact h.inc k a b h1 h2
    · have e : k + 1 = (s.getD []).length := by omega
      rw [e, List.getElem?_append_right (Nat.le_refl _), Nat.sub_self] at h2
      simp only [List.getElem?_cons_zero, Option.some.injEq, Stroke.mk.injEq] at h2
      subst h2
      intro p hp q hq
      obtain ⟨l', e', _, h3⟩ := h.st _ (List.mem_of_getElem? h1)
      simp only [Stroke.mk.injEq, Option.some.injEq] at e'
      subst e'
      exact Int.lt_of_lt_of_le (h3 p hp) (h0 q hq).1

theorem dr_ink {s : l00Src} {k : Int} (h : SK s k) (hk : k ≤ 100000000) {most : Int} (h1 : 0 ≤ most) (h2 : most ≤ 10) : ∃ L s', t_spec_l02Draw s most = some (⟨L⟩, s') ∧ SK s' (k + 20000) ∧ InkV (L.getD []) ∧ (L.getD []).length ≤ most := by
  obtain ⟨r1, s1, e1, k1, p1, q1, _⟩ := dr_pick h (by omega) (n := 100) (by omega)
  obtain ⟨r2, s2, e2, k2, p2, q2, _⟩ := dr_pick k1 (by omega) (n := 200) (by omega)
  obtain ⟨r3, s3, e3, k3, p3, q3, _⟩ := dr_pick k2 (by omega) (n := most + 1) (by omega)
  have q1' := q1 (by omega)
  have q2' := q2 (by omega)
  have q3' := q3 (by omega)
  have w0 : wr (most + 1) = most + 1 := wr_id (by omega) (by omega)
  have w1 : wr (100 + r2) = 100 + r2 := wr_id (by omega) (by omega)
  obtain ⟨N, hN⟩ := Int.eq_ofNat_of_zero_le (a := r3) (by omega)
  unfold t_spec_l02Draw
  simp only [e1, e2, w0, e3, obind_sm, w1]
  obtain ⟨⟨c1, c2, c3, c4⟩, f1, f2, f3⟩ := loopT_ex (step := s0_spec_l02Draw) (fun i (t : (Sl UInt8) × Int × Int × (Sl Stroke) × Int × Int × Int) => SK ⟨t.1, t.2.1, t.2.2.1⟩ (k + 6 + 1100 * i) ∧ InkI t.2.2.2.1 i t.2.2.2.2.1 ∧ (0 ≤ t.2.2.2.2.1 ∧ t.2.2.2.2.1 ≤ 100 + 600 * i) ∧
      (0 ≤ t.2.2.2.2.2.1 ∧ t.2.2.2.2.2.1 ≤ 300 + 200 * i) ∧ t.2.2.2.2.2.2 = N - (i : Int))
    N (fun r => SK ⟨r.1, r.2.1, r.2.2.1⟩ (k + 6 + 1100 * N) ∧ ∃ t, InkI r.2.2.2 N t)
    (fun i ⟨v1, v2, v3, v4, v5, v6, v7⟩ hi ⟨g1, g2, g3, g4, g5⟩ => by
      simp only at g1 g2 g3 g4 g5
      obtain ⟨r4, s4, e4, k4, p4, q4, _⟩ := dr_pick g1 (by omega) (n := 200) (by omega)
      have q4' := q4 (by omega)
      have a1 : wr (300 + r4) = 300 + r4 := wr_id (by omega) (by omega)
      obtain ⟨l, s5, e5, k5, sv, _, st⟩ := dr_stroke k4 (by omega) (time := v5) (x := v6) (y := 300 + r4) (by omega) (by omega) (by omega) (by omega)
      obtain ⟨p, e6, _, pm, pl⟩ := last_ok sv
      obtain ⟨r7, s7, e7, k7, p7, q7, _⟩ := dr_pick k5 (by omega) (n := 200) (by omega)
      obtain ⟨r8, s8, e8, k8, p8, q8, _⟩ := dr_pick k7 (by omega) (n := 200) (by omega)
      have q7' := q7 (by omega)
      have q8' := q8 (by omega)
      have pt := st p pm
      have a0 := appO_one v4 (⟨some l⟩ : Stroke) (by rw [g2.len]; omega)
      have a0' : appS v4 [(⟨some l⟩ : Stroke)] = some (v4.getD [] ++ [⟨some l⟩]) := appS_cons _ _ _
      have a2 : wr (p.t + 1) = p.t + 1 := wr_id (by omega) (by omega)
      have a3 : wr (p.t + 1 + r7) = p.t + 1 + r7 := wr_id (by omega) (by omega)
      have a4 : wr (v6 + r8) = v6 + r8 := wr_id (by omega) (by omega)
      have a5 : wr (v7 - 1) = v7 - 1 := wr_id (by omega) (by omega)
      have c : 0 < v7 := by omega
      have e : s0_spec_l02Draw (v1, v2, v3, v4, v5, v6, v7) = some (.inl (s8.code, s8.pos, s8.seed, some (v4.getD [] ++ [⟨some l⟩]), p.t + 1 + r7, v6 + r8, v7 - 1)) := by
        unfold s0_spec_l02Draw
        simp only [c, decide_true, cond_true, e4, a1, e5, e6, e7, e8, obind_sm, a0, a0', a2, a3, a4, a5]
      have nx := g2.step (t' := p.t + 1 + r7) sv (fun q hq => ⟨(st q hq).1, by have := pl q hq; omega⟩) (by omega)
      exact .inl ⟨_, e, k8.mono (by omega), nx, ⟨by simp only; omega, by simp only; omega⟩, ⟨by simp only; omega, by simp only; omega⟩, by simp only; omega⟩)
    (fun ⟨v1, v2, v3, v4, v5, v6, v7⟩ ⟨g1, g2, g3, g4, g5⟩ => by
      simp only at g1 g2 g5
      have c : ¬ 0 < v7 := by omega
      have e : s0_spec_l02Draw (v1, v2, v3, v4, v5, v6, v7) = some (.inr (v1, v2, v3, v4)) := by
        unfold s0_spec_l02Draw
        simp only [c, decide_false, cond_false]
      exact ⟨_, e, g1, v5, g2⟩)
    (s := (s3.code, s3.pos, s3.seed, none, r1, 100 + r2, r3)) ⟨k3.mono (by omega), ⟨rfl, fun h => by omega, fun p hp => (by cases hp), fun k p q h1 _ => (by simp at h1)⟩, ⟨by simp only; omega, by simp only; omega⟩, ⟨by simp only; omega, by simp only; omega⟩, by simp only; omega⟩
  simp only at f2 f3
  obtain ⟨t, f3⟩ := f3
  rw [f1]
  refine ⟨c4, _, rfl, f2.mono (by omega), ⟨fun x hx => ?_, f3.inc, by rw [f3.len]; omega⟩, by rw [f3.len]; omega⟩
  obtain ⟨l, e, h1, _⟩ := f3.st x hx
  exact ⟨l, e, h1⟩

theorem InkV.b {L : List Stroke} (h : InkV L) : ∀ x ∈ L, StB x := fun x hx => by
  obtain ⟨l, rfl, hl⟩ := h.st x hx
  exact hl.b

def vP (p : Point) : Bool := within p.x 0 4095 && within p.y 0 4095 && within p.t 0 3600000

def fV (l : List Point) (k : Nat) (a : Point) : Option Bool := bif (!vP a || (decide (0 < k) && decide (a.t ≤ (l.getD (k - 1) ⟨0, 0, 0⟩).t))) then some false else none

/-- The points are those of a stroke that is one. -/
def vS (l : List Point) : Bool := match firstL (fV l) l 0 with
  | none => decide (1 ≤ l.length) && decide (l.length ≤ 60)
  | some r => r

theorem validPoint_vP (p : Point) : t_impl_validPoint p = some (vP p) := by
  unfold t_impl_validPoint vP
  simp only [obind_sm]
  cases within p.x 0 4095 <;> cases within p.y 0 4095 <;> cases within p.t 0 3600000 <;> rfl

theorem vP_iff {p : Point} : vP p = true ↔ PtV p := by
  unfold vP within
  simp only [Bool.and_eq_true, decide_eq_true_eq]
  constructor
  · rintro ⟨⟨⟨h1, h2⟩, h3, h4⟩, h5, h6⟩
    exact ⟨h1, h2, h3, h4, h5, h6⟩
  · rintro ⟨h1, h2, h3, h4, h5, h6⟩
    exact ⟨⟨⟨h1, h2⟩, h3, h4⟩, h5, h6⟩

theorem prev_get {A : Type} {l : List A} {k : Nat} {d : A} (hk : k < l.length) (h0 : 0 < k) (hl : l.length ≤ 4294967296) : getI l (wr ((k : Int) - 1)) = some (l.getD (k - 1) d) := by
  have w : wr ((k : Int) - 1) = ((k - 1 : Nat) : Int) := by rw [wr_id (by omega) (by omega)]; omega
  rw [w]
  apply getI_nat
  rw [List.getD_eq_getElem?_getD, List.getElem?_eq_getElem (by omega)]
  rfl

theorem validStroke_vS (s : Stroke) (hl : (s.points.getD []).length ≤ 4294967296) : t_impl_ValidStroke s = some (vS (s.points.getD [])) := by
  obtain ⟨l, hL⟩ : ∃ l, s.points.getD [] = l := ⟨_, rfl⟩
  rw [hL] at hl ⊢
  have lp := loopT_first (step := s0_impl_ValidStroke s) l (fV l) (.inl ()) .inr
    (fun k a ha => by
      have hk := get_lt ha
      have c : (k : Int) < (l.length : Nat) := by omega
      have ws := wr_succ hk hl
      unfold s0_impl_ValidStroke fV
      simp only [hL, c, decide_true, cond_true, getI_nat ha, obind_sm, validPoint_vP, ws]
      by_cases k0 : k = 0
      · have D1 : decide ((0 : Int) < (k : Int)) = false := decide_eq_false (by omega)
        have D2 : decide (0 < k) = false := decide_eq_false (by omega)
        rw [D1, D2]
        cases vP a <;> rfl
      · have D1 : decide ((0 : Int) < (k : Int)) = true := decide_eq_true (by omega)
        have D2 : decide (0 < k) = true := decide_eq_true (by omega)
        rw [D1, D2, prev_get (d := ⟨0, 0, 0⟩) hk (by omega) hl]
        simp only [obind_sm]
        cases vP a <;> cases decide (a.t ≤ (l.getD (k - 1) ⟨0, 0, 0⟩).t) <;> rfl)
    (by
      unfold s0_impl_ValidStroke
      simp only [hL, Int.lt_irrefl, decide_false, cond_false])
  have d1 : decide ((1 : Int) ≤ ((l.length : Nat) : Int)) = decide (1 ≤ l.length) := decide_eq_decide.2 (by omega)
  have d2 : decide (((l.length : Nat) : Int) ≤ 60) = decide (l.length ≤ 60) := decide_eq_decide.2 (by omega)
  unfold t_impl_ValidStroke vS
  rw [lp]
  cases firstL (fV l) l 0 with
  | none =>
    simp only [obind_sm, hL, d1, d2]
    cases decide (1 ≤ l.length) <;> cases decide (l.length ≤ 60) <;> rfl
  | some r => rfl

theorem firstL_no {A R : Type} {f : Nat → A → Option R} : ∀ {l : List A} {k : Nat}, firstL f l k = none → ∀ i a, l[i]? = some a → f (k + i) a = none
  | [], _, _, i, a, ha => by simp at ha
  | b :: l, k, h, i, a, ha => by
    unfold firstL at h
    cases e : f k b with
    | some r => rw [e] at h; cases h
    | none =>
      rw [e] at h
      cases i with
      | zero =>
        simp only [List.getElem?_cons_zero, Option.some.injEq] at ha
        subst ha
        exact e
      | succ i =>
        have := firstL_no h i a (by simpa using ha)
        rw [← this]
        congr 1
        omega

theorem firstL_so {A R : Type} {f : Nat → A → Option R} : ∀ {l : List A} {k : Nat} {r : R}, firstL f l k = some r → ∃ i a, f i a = some r
  | [], _, _, h => by cases h
  | b :: l, k, r, h => by
    unfold firstL at h
    cases e : f k b with
    | some r' => rw [e] at h; cases h; exact ⟨k, b, e⟩
    | none => rw [e] at h; exact firstL_so h

theorem vS_iff {l : List Point} : vS l = true ↔ StV l := by
  unfold vS
  constructor
  · intro h
    cases e : firstL (fV l) l 0 with
    | some r =>
      rw [e] at h
      simp only at h
      subst h
      obtain ⟨i, a, hf⟩ := firstL_so e
      unfold fV at hf
      cases h2 : (!vP a || (decide (0 < i) && decide (a.t ≤ (l.getD (i - 1) ⟨0, 0, 0⟩).t))) <;> rw [h2] at hf <;> cases hf
    | none =>
      rw [e] at h
      simp only [Bool.and_eq_true, decide_eq_true_eq] at h
      have no := firstL_no e
      have no' : ∀ i a, l[i]? = some a → vP a = true ∧ (0 < i → (l.getD (i - 1) ⟨0, 0, 0⟩).t < a.t) := fun i a ha => by
        have h1 := no i a ha
        rw [Nat.zero_add] at h1
        unfold fV at h1
        cases h2 : (!vP a || (decide (0 < i) && decide (a.t ≤ (l.getD (i - 1) ⟨0, 0, 0⟩).t))) with
        | true => rw [h2] at h1; cases h1
        | false =>
          simp only [Bool.or_eq_false_iff, Bool.not_eq_false', Bool.and_eq_false_iff, decide_eq_false_iff_not] at h2
          exact ⟨h2.1, fun h3 => by rcases h2.2 with h4 | h4 <;> omega⟩
      refine ⟨fun p hp => ?_, fun k p q h1 h2 => ?_, h.1, h.2⟩
      · obtain ⟨i, hi⟩ := List.mem_iff_getElem?.1 hp
        exact vP_iff.1 (no' i p hi).1
      · have h3 := (no' (k + 1) q h2).2 (by omega)
        rw [Nat.add_sub_cancel, List.getD_eq_getElem?_getD, h1] at h3
        exact h3
  · intro h
    have e : firstL (fV l) l 0 = none := firstL_none fun i a ha => by
      rw [Nat.zero_add]
      unfold fV
      have h1 := vP_iff.2 (h.pts a (List.mem_of_getElem? ha))
      have h2 : (decide (0 < i) && decide (a.t ≤ (l.getD (i - 1) ⟨0, 0, 0⟩).t)) = false := by
        by_cases c : 0 < i
        · obtain ⟨p, hp⟩ : ∃ p, l[i - 1]? = some p := ⟨l[i - 1]'(by have := get_lt ha; omega), List.getElem?_eq_getElem _⟩
          have h3 := h.inc (i - 1) p a hp (by rw [Nat.sub_add_cancel c]; exact ha)
          rw [List.getD_eq_getElem?_getD, hp]
          have : ¬ a.t ≤ p.t := by omega
          simp [this]
        · simp [c]
      rw [h1, h2]
      rfl
    rw [e]
    have h1 := h.n1
    have h2 := h.n2
    simp [h1, h2]

theorem StB.le {s : Stroke} (h : StB s) : (s.points.getD []).length ≤ 4294967296 := Nat.le_trans h.n (by omega)

def pt (l : List Point) (i : Nat) : Point := l.getD i ⟨0, 0, 0⟩

theorem get_pt {l : List Point} {i : Nat} (h : i < l.length) : getI l ((i : Nat) : Int) = some (pt l i) := by
  apply getI_nat
  unfold pt
  rw [List.getD_eq_getElem?_getD, List.getElem?_eq_getElem h]
  rfl

/-- One pair lies ahead of another. -/
def Pre (p q i j : Nat) : Prop := (i = p + 1 ∧ j = q + 1) ∨ (i = p + 1 ∧ j = q) ∨ (i = p ∧ j = q + 1)

/-- A path's cost, from the first pair on. -/
inductive Pth (C : Nat → Nat → Int) (R : Nat → Nat → Prop) : Nat → Nat → Int → Prop
  | start : R 0 0 → Pth C R 0 0 (C 0 0)
  | step {p q i j : Nat} {c : Int} : Pth C R p q c → Pre p q i j → R i j → Pth C R i j (c + C i j)

/-- The least cost of the paths to a pair, `B` where there is none. -/
def Opt (B : Int) (C : Nat → Nat → Int) (R : Nat → Nat → Prop) (i j : Nat) (v : Int) : Prop :=
  (v = B ∧ ∀ c, ¬ Pth C R i j c) ∨ (v < B ∧ Pth C R i j v ∧ ∀ c, Pth C R i j c → v ≤ c)

theorem Opt.le {B : Int} {C : Nat → Nat → Int} {R : Nat → Nat → Prop} {i j : Nat} {v : Int} (h : Opt B C R i j v) : v ≤ B := by
  rcases h with ⟨h, _⟩ | ⟨h, _⟩ <;> omega

theorem Pth.mono {C D : Nat → Nat → Int} {R S : Nat → Nat → Prop} {i j : Nat} {c : Int} (h : Pth C R i j c) (hR : ∀ p q, p ≤ i → q ≤ j → R p q → S p q) (hC : ∀ p q, p ≤ i → q ≤ j → C p q = D p q) : Pth D S i j c := by
  induction h with
  | start h =>
    rw [hC 0 0 (Nat.le_refl _) (Nat.le_refl _)]
    exact .start (hR 0 0 (Nat.le_refl _) (Nat.le_refl _) h)
  | @step p q i j c h1 h2 h3 ih =>
    have hle : p ≤ i ∧ q ≤ j := by rcases h2 with h | h | h <;> omega
    rw [hC i j (Nat.le_refl _) (Nat.le_refl _)]
    exact .step (ih (fun a b h4 h5 => hR a b (by omega) (by omega)) (fun a b h4 h5 => hC a b (by omega) (by omega))) h2 (hR i j (Nat.le_refl _) (Nat.le_refl _) h3)

def fAt (l : List Feat) (i : Nat) : Feat := l.getD i ⟨0, 0, 0⟩

def siz (x : Int) : Int := if x < 0 then -x else x

def fcost (a b : Feat) : Int := siz (a.x - b.x) + siz (a.y - b.y) + 16 * min (siz (a.d - b.d)) (8 - siz (a.d - b.d))

/-- A table's entry. -/
def Val (T : List (Sl Int)) (p q : Nat) (v : Int) : Prop := ∃ row, T[p]? = some (some row) ∧ row[q]? = some v

abbrev far : Int := 1099511627776

abbrev elC (a b : List Feat) : Nat → Nat → Int := fun i j => fcost (fAt a i) (fAt b j)

abbrev elR (band : Int) : Nat → Nat → Prop := fun i j => siz ((i : Int) - (j : Int)) ≤ band

/-- The table's rows ahead of `i`, and `j` entries of row `i`, are the least costs. -/
structure Tbl (a b : List Feat) (band : Int) (i j : Nat) (T : List (Sl Int)) : Prop where
  len : T.length = a.length
  val : ∀ p q, q < b.length → (p < i ∨ p = i ∧ q < j) → ∃ v, Val T p q v ∧ Opt far (elC a b) (elR band) p q v

theorem Val.set {T : List (Sl Int)} {i j p q : Nat} {row : List Int} {v w : Int} (hr : T[i]? = some (some row)) (hj : j < row.length) :
    Val (T.set i (some (row.set j w))) p q v ↔ (p = i ∧ q = j ∧ v = w) ∨ (¬ (p = i ∧ q = j) ∧ Val T p q v) := by
  have hi := get_lt hr
  unfold Val
  constructor
  · rintro ⟨r, h1, h2⟩
    by_cases c : i = p
    · subst c
      rw [List.getElem?_set_self hi] at h1
      cases h1
      by_cases d : j = q
      · subst d
        rw [List.getElem?_set_self hj] at h2
        cases h2
        exact .inl ⟨rfl, rfl, rfl⟩
      · rw [List.getElem?_set_ne d] at h2
        exact .inr ⟨fun h => d h.2.symm, row, hr, h2⟩
    · rw [List.getElem?_set_ne c] at h1
      exact .inr ⟨fun h => c h.1.symm, r, h1, h2⟩
  · rintro (⟨rfl, rfl, rfl⟩ | ⟨hne, r, h1, h2⟩)
    · exact ⟨_, List.getElem?_set_self hi, List.getElem?_set_self hj⟩
    · by_cases c : i = p
      · subst c
        rw [hr] at h1
        cases h1
        have d : j ≠ q := fun h => hne ⟨rfl, h.symm⟩
        exact ⟨_, List.getElem?_set_self hi, by rw [List.getElem?_set_ne d]; exact h2⟩
      · exact ⟨r, by rw [List.getElem?_set_ne c]; exact h1, h2⟩

theorem Tbl.step {a b : List Feat} {band : Int} {i j : Nat} {T : List (Sl Int)} {row : List Int} {v : Int} (h : Tbl a b band i j T) (hr : T[i]? = some (some row)) (hj : j < row.length) (ho : Opt far (elC a b) (elR band) i j v) : Tbl a b band i (j + 1) (T.set i (some (row.set j v))) := by
  refine ⟨by simp [h.len], fun p q hq hpq => ?_⟩
  by_cases e : p = i ∧ q = j
  · obtain ⟨rfl, rfl⟩ := e
    exact ⟨v, (Val.set hr hj).2 (.inl ⟨rfl, rfl, rfl⟩), ho⟩
  · obtain ⟨w, h1, h2⟩ := h.val p q hq (by omega)
    exact ⟨w, (Val.set hr hj).2 (.inr ⟨e, h1⟩), h2⟩

/-- A path through rows from the first one on, from any column `f`. -/
def PF (C : Nat → Nat → Int) (f i j : Nat) (c : Int) : Prop := f ≤ j ∧ Pth (fun p q => C p (q + f)) (fun _ _ => True) i (j - f) c

theorem PF.start {C : Nat → Nat → Int} (j : Nat) : PF C j 0 j (C 0 j) := by
  refine ⟨Nat.le_refl _, ?_⟩
  have h := Pth.start (C := fun p q => C p (q + j)) (R := fun _ _ => True) trivial
  simp only [Nat.zero_add] at h
  rw [Nat.sub_self]
  exact h

theorem PF.step {C : Nat → Nat → Int} {f p q i j : Nat} {c : Int} (h : PF C f p q c) (hp : Pre p q i j) : PF C f i j (c + C i j) := by
  obtain ⟨h1, h2⟩ := h
  have hj : q ≤ j := by unfold Pre at hp; omega
  refine ⟨by omega, ?_⟩
  have h3 : Pth (fun p q => C p (q + f)) (fun _ _ => True) i (j - f) (c + C i (j - f + f)) := Pth.step (i := i) (j := j - f) h2 (by unfold Pre at *; omega) trivial
  rw [Nat.sub_add_cancel (by omega)] at h3
  exact h3

/-- The least of the paths to a pair, and where it begins. -/
def PO (C : Nat → Nat → Int) (i j : Nat) (x : Part) : Prop := ∃ f : Nat, x.frm = (f : Int) ∧ PF C f i j x.cost ∧ ∀ g c, PF C g i j c → x.cost ≤ c

def PVal (T : List (Sl Part)) (p q : Nat) (v : Part) : Prop := ∃ row, T[p]? = some (some row) ∧ row[q]? = some v

theorem PVal.set {T : List (Sl Part)} {i j p q : Nat} {row : List Part} {v w : Part} (hr : T[i]? = some (some row)) (hj : j < row.length) :
    PVal (T.set i (some (row.set j w))) p q v ↔ (p = i ∧ q = j ∧ v = w) ∨ (¬ (p = i ∧ q = j) ∧ PVal T p q v) := by
  have hi := get_lt hr
  unfold PVal
  constructor
  · rintro ⟨r, h1, h2⟩
    by_cases c : i = p
    · subst c
      rw [List.getElem?_set_self hi] at h1
      cases h1
      by_cases d : j = q
      · subst d
        rw [List.getElem?_set_self hj] at h2
        cases h2
        exact .inl ⟨rfl, rfl, rfl⟩
      · rw [List.getElem?_set_ne d] at h2
        exact .inr ⟨fun h => d h.2.symm, row, hr, h2⟩
    · rw [List.getElem?_set_ne c] at h1
      exact .inr ⟨fun h => c h.1.symm, r, h1, h2⟩
  · rintro (⟨rfl, rfl, rfl⟩ | ⟨hne, r, h1, h2⟩)
    · exact ⟨_, List.getElem?_set_self hi, List.getElem?_set_self hj⟩
    · by_cases c : i = p
      · subst c
        rw [hr] at h1
        cases h1
        have d : j ≠ q := fun h => hne ⟨rfl, h.symm⟩
        exact ⟨_, List.getElem?_set_self hi, by rw [List.getElem?_set_ne d]; exact h2⟩
      · exact ⟨r, by rw [List.getElem?_set_ne c]; exact h1, h2⟩

/-- The entries ahead of a place are the least parts. -/
structure PTbl (a b : List Feat) (i j : Nat) (T : List (Sl Part)) : Prop where
  len : T.length = a.length
  rows : ∀ (k : Nat) (row : List Part), T[k]? = some (some row) → row.length = b.length
  val : ∀ p q, q < b.length → (p < i ∨ p = i ∧ q < j) → ∃ v, PVal T p q v ∧ PO (elC a b) p q v

theorem rows_set {m : Nat} {T : List (Sl Part)} {i : Nat} {r : List Part} (h : ∀ (k : Nat) (row : List Part), T[k]? = some (some row) → row.length = m) (hr : r.length = m) : ∀ (k : Nat) (row : List Part), (T.set i (some r))[k]? = some (some row) → row.length = m := by
  intro k row hk
  by_cases c : i = k
  · subst c
    have hlt := get_lt hk
    rw [List.length_set] at hlt
    rw [List.getElem?_set_self hlt] at hk
    cases hk
    exact hr
  · rw [List.getElem?_set_ne c] at hk
    exact h k row hk

theorem PTbl.step {a b : List Feat} {i j : Nat} {T : List (Sl Part)} {row : List Part} {v : Part} (h : PTbl a b i j T) (hr : T[i]? = some (some row)) (hj : j < b.length) (ho : PO (elC a b) i j v) : PTbl a b i (j + 1) (T.set i (some (row.set j v))) := by
  have hl := h.rows _ _ hr
  refine ⟨by rw [List.length_set, h.len], rows_set h.rows (by rw [List.length_set, hl]), fun p q hq hpq => ?_⟩
  by_cases e : p = i ∧ q = j
  · obtain ⟨rfl, rfl⟩ := e
    exact ⟨v, (PVal.set hr (by omega)).2 (.inl ⟨rfl, rfl, rfl⟩), ho⟩
  · obtain ⟨w, h1, h2⟩ := h.val p q hq (by omega)
    exact ⟨w, (PVal.set hr (by omega)).2 (.inr ⟨e, h1⟩), h2⟩

theorem pt_v {l : List Point} (h : StV l) {i : Nat} (hi : i < l.length) : PtV (pt l i) := by
  have g := get_pt hi
  exact h.pts _ (List.mem_of_getElem? (getI_iff.1 g).2)

def d2 (a b : Point) : Int := (a.x - b.x) * (a.x - b.x) + (a.y - b.y) * (a.y - b.y)

theorem firstOf_ok {s : Stroke} (h : StV (s.points.getD [])) : t_impl_firstOf s = some (pt (s.points.getD []) 0) ∧ getI (s.points.getD []) 0 = some (pt (s.points.getD []) 0) := by
  have g : getI (s.points.getD []) 0 = some (pt (s.points.getD []) 0) := get_pt (l := s.points.getD []) (i := 0) h.n1
  unfold t_impl_firstOf
  rw [g, obind_sm]
  exact ⟨rfl, rfl⟩

end Go.Proofs.Ytdklppipegepdaa
