/-
  The law FnBlends holds, for all arguments: it returns true, and its arguments read behind the call as before. No condition.
-/
import Derived.Test.YtdfdmelcnjggfaaFnBlendsGen
import Derived.Test.YtdfdmelcnjggfaaRows
namespace Go.Proofs.Ytdfdmelcnjggfaa
open Go Go.Eng Go.Eng.Cod
set_option maxRecDepth 100000
set_option linter.unusedVariables false
set_option linter.unusedSimpArgs false

theorem nil_ok : EnvOK Try.prog (envL []) := E0

def within (a b c : Int) : Bool := decide (b ≤ a) && decide (a ≤ c)

theorem ok_impl_within : PureOK Try.prog n_impl_within (T3 within) := pureT3 nil_ok mixed hb_impl_within fun a b c => by
  simp [e_impl_within, within]

theorem ok_spec_l00Min : PureOK Try.prog n_spec_l00Min (T2 fun a b : Int => min a b) := pureT2 nil_ok mixed hb_spec_l00Min fun a b => by
  simp [e_spec_l00Min, minI]

theorem ok_spec_l00Max : PureOK Try.prog n_spec_l00Max (T2 fun a b : Int => max a b) := pureT2 nil_ok mixed hb_spec_l00Max fun a b => by
  simp [e_spec_l00Max, maxI]

/-- The source of draws: how far it has read, its seed. -/
structure SS where
  at_ : Nat
  w : Int
def srow (q : Sl UInt8) (st : SS) : AObj := ⟨3, [[Sl.enc q, iv (st.at_ : Int), .sc (.int .u64 st.w)]]⟩
theorem store_head (s j k : Nat) (v : AV) (row : List AV) (t : Heap) (h1 : v.cells.length = s) (h2 : j + s ≤ row.length) (h3 : v.cells.all AV.flat = true) : aStore s (.ptr 0 1 0 j) v (⟨k, [row]⟩ :: t) = some (⟨k, [splice row j v.cells]⟩ :: t) := by
  simp only [aStore, List.getElem?_cons_zero, List.length_cons, List.length_nil, Nat.zero_add, if_true]
  rw [if_pos ⟨h1, h2, h3⟩]
  rfl
theorem v_mul (a b : Int) : aBin .mul (.sc (.int .u64 a)) (.sc (.int .u64 b)) = some (.sc (.int .u64 (IntKind.u64.wrap (a * b)))) := (rfl)
theorem v_add (a b : Int) : aBin .add (.sc (.int .u64 a)) (.sc (.int .u64 b)) = some (.sc (.int .u64 (IntKind.u64.wrap (a + b)))) := (rfl)
theorem v_shr40 (a : Int) : aBin .shr (.sc (.int .u64 a)) (.sc (.int .u64 40)) = some (.sc (.int .u64 (a.fdiv (2 ^ 40)))) := (rfl)
theorem v_conv (a : Int) : aConvInt .u64 (iv a) = some (.sc (.int .u64 (IntKind.u64.wrap a))) := (rfl)
theorem v_back (a : Int) : aConvInt .i64 (.sc (.int .u64 a)) = some (iv (wr a)) := (rfl)
theorem v_byte (b : UInt8) : aConvInt .i64 (bt b) = some (iv (b.toNat : Nat)) := by
  have h0 : aConvInt .i64 (bt b) = some (iv (wr (b.toNat : Int))) := rfl
  have := b.toNat_lt
  rw [h0, wr_id (by omega) (by omega)]
theorem v_and (a : Int) : ∃ r : Nat, r ≤ 255 ∧ aBin .and (.sc (.int .u64 a)) (.sc (.int .u64 255)) = some (.sc (.int .u64 (r : Int))) := by
  have h0 : aBin .and (.sc (.int .u64 a)) (.sc (.int .u64 255)) = some (.sc (.int .u64 (IntKind.u64.wrap ((BitVec.ofInt 64 a &&& BitVec.ofInt 64 255).toNat : Nat)))) := rfl
  have h1 : (BitVec.ofInt 64 a &&& BitVec.ofInt 64 255).toNat ≤ 255 := by
    rw [BitVec.toNat_and]
    have : (BitVec.ofInt 64 255).toNat = 255 := by decide
    rw [this]
    exact Nat.and_le_right
  refine ⟨(BitVec.ofInt 64 a &&& BitVec.ofInt 64 255).toNat, h1, ?_⟩
  rw [h0]
  generalize (BitVec.ofInt 64 a &&& BitVec.ofInt 64 255).toNat = r at h1
  congr 3
  simp only [IntKind.wrap, IntKind.bits, IntKind.signed]
  simp only [Bool.false_and, Bool.false_eq_true, if_false]
  omega

/-- What 'l00From' hands out. -/
def fromA (q : Sl UInt8) : AV := .np 3 [[Sl.enc q, iv 0, .sc (.int .u64 0)]] 0 0
theorem ok_spec_l00From : PureOK Try.prog n_spec_l00From (R1 fun q : Sl UInt8 => some (fromA q)) := pureR1 E0 mixed hb_spec_l00From fun q r h => by
  cases h
  apply pureG
  rw [e_spec_l00From]
  cases q <;> rfl
theorem hand_from (q : Sl UInt8) (h : Heap) : hand (fromA q) (noRef depth (Sl.enc q)) h = some (.ptr h.length 1 0 0, h ++ [srow q ⟨0, 0⟩]) := by
  cases q <;> rfl

theorem tt_spec_l00From : PureOK Try.prog n_spec_l00From (C1 fromA (fun q : Sl UInt8 => some q)) := pureR1 E0 mixed hb_spec_l00From fun q r h => by
  cases h
  apply pureG
  rw [e_spec_l00From]
  cases q <;> rfl

def t_laws_a2Long (code_ : Sl UInt8) (more_ : Sl UInt8) : Option Bool :=
  obind (bif decide (3000 < (((code_.getD []).length : Nat) : Int)) then some false else (some (decide (3000 < (((more_.getD []).length : Nat) : Int))))) fun c2 =>
  some (bif decide (3000 < (((code_.getD []).length : Nat) : Int)) then true else c2)

theorem ts_laws_a2Long (env : Nat → Contract)  (code_ : Sl UInt8) (more_ : Sl UInt8) : Sim (denFn Try.prog env n_laws_a2Long [Sl.enc code_, Sl.enc more_] []) (t_laws_a2Long code_ more_) fun c p => release p.2 depth p.1 = some ((fun c : Bool => enc c) c) := by
  have O := Hold.nil []
  generalize hB : (⟨[], []⟩ : Base) = B at O
  clear hB
  rw [e_laws_a2Long]
  unfold t_laws_a2Long
  refine sim_let (v := iv (((code_.getD []).length : Nat) : Int)) (Tab.enc [] code_).len ?_
  refine sim_let (v := bv (decide (3000 < (((code_.getD []).length : Nat) : Int)))) (aBin_gtr _ _) ?_
  refine sim_guardF (e := bv) (fun hb1 => ?_) (fun c2 => ?_)
  · refine sim_let (v := iv (((more_.getD []).length : Nat) : Int)) (Tab.enc [] more_).len ?_
    refine sim_let (v := bv (decide (3000 < (((more_.getD []).length : Nat) : Int)))) (aBin_gtr _ _) ?_
    exact sim_ret rfl
  · refine sim_let (v := bv (bif decide (3000 < (((code_.getD []).length : Nat) : Int)) then true else c2)) (pick_b' _ _ _) ?_
    exact sim_ret (release_plain (by rfl) _)
theorem tt_laws_a2Long : PureOK Try.prog n_laws_a2Long (C2 (fun c : Bool => enc c) t_laws_a2Long) := pureC2 E0 mixed hb_laws_a2Long fun code_ more_ => ts_laws_a2Long _  code_ more_

def t_spec_l00Src_next (s_ : l00Src) : Option (Int × l00Src) :=
  bif decide (s_.pos < (((s_.code.getD []).length : Nat) : Int)) then
    obind (getI (s_.code.getD []) s_.pos) fun a2 =>
    bif decide ((wr (s_.pos + 1)) ≤ (((s_.code.getD []).length : Nat) : Int)) then
      some ((a2.toNat : Int), (⟨s_.code, wr (s_.pos + 1), IntKind.u64.wrap ((IntKind.u64.wrap ((IntKind.u64.wrap (s_.seed * 6364136223846793005)) + (IntKind.u64.wrap (a2.toNat : Int)))) + 1442695040888963407)⟩ : l00Src))
    else
      some (wr (IntKind.u64.wrap ((BitVec.ofInt 64 (Int.fdiv (IntKind.u64.wrap ((IntKind.u64.wrap ((IntKind.u64.wrap (s_.seed * 6364136223846793005)) + (IntKind.u64.wrap (a2.toNat : Int)))) + 1442695040888963407)) (2 ^ 40)) &&& BitVec.ofInt 64 255).toNat : Nat)), (⟨s_.code, wr (s_.pos + 1), IntKind.u64.wrap ((IntKind.u64.wrap ((IntKind.u64.wrap (s_.seed * 6364136223846793005)) + (IntKind.u64.wrap (a2.toNat : Int)))) + 1442695040888963407)⟩ : l00Src))
  else
    bif decide ((wr (s_.pos + 1)) ≤ (((s_.code.getD []).length : Nat) : Int)) then
      some (0, (⟨s_.code, wr (s_.pos + 1), IntKind.u64.wrap ((IntKind.u64.wrap ((IntKind.u64.wrap (s_.seed * 6364136223846793005)) + (IntKind.u64.wrap 0))) + 1442695040888963407)⟩ : l00Src))
    else
      some (wr (IntKind.u64.wrap ((BitVec.ofInt 64 (Int.fdiv (IntKind.u64.wrap ((IntKind.u64.wrap ((IntKind.u64.wrap (s_.seed * 6364136223846793005)) + (IntKind.u64.wrap 0))) + 1442695040888963407)) (2 ^ 40)) &&& BitVec.ofInt 64 255).toNat : Nat)), (⟨s_.code, wr (s_.pos + 1), IntKind.u64.wrap ((IntKind.u64.wrap ((IntKind.u64.wrap (s_.seed * 6364136223846793005)) + (IntKind.u64.wrap 0))) + 1442695040888963407)⟩ : l00Src))

theorem ts_spec_l00Src_next (env : Nat → Contract)  {B : Base} {h : Heap} {o_ : Nat} (s_ : l00Src) (O : Hold B h [(AV.ptr o_ 1 0 0, .pt 3 [Sl.enc s_.code, iv s_.pos, AV.sc (.int .u64 s_.seed)])]) : Sim (denFn Try.prog env n_spec_l00Src_next [AV.ptr o_ 1 0 0] h) (t_spec_l00Src_next s_) (fun c p => p.1 = iv c.1 ∧ Hold B p.2 [(AV.ptr o_ 1 0 0, .pt 3 [Sl.enc c.2.code, iv c.2.pos, AV.sc (.int .u64 c.2.seed)])]) := by
  rw [e_spec_l00Src_next]
  unfold t_spec_l00Src_next
  refine sim_let (v := AV.ptr o_ 1 0 0) rfl ?_
  refine sim_let (v := AV.ptr o_ 1 0 1) rfl ?_
  refine sim_let (v := iv s_.pos) (O.ld 0 rfl false 1 1) ?_
  refine sim_let (v := AV.ptr o_ 1 0 0) rfl ?_
  refine sim_let (v := AV.ptr o_ 1 0 0) rfl ?_
  refine sim_let (v := Sl.enc s_.code) (O.ld 0 rfl false 1 0) ?_
  refine sim_let (v := iv (((s_.code.getD []).length : Nat) : Int)) (Tab.enc h s_.code).len ?_
  refine sim_let (v := bv (decide (s_.pos < (((s_.code.getD []).length : Nat) : Int)))) (aBin_lss _ _) ?_
  refine sim_cond (fun c1 => ?_) (fun c1 => ?_)
  · refine sim_let (v := AV.ptr o_ 1 0 0) rfl ?_
    refine sim_let (v := AV.ptr o_ 1 0 0) rfl ?_
    refine sim_let (v := Sl.enc s_.code) (O.ld 0 rfl false 1 0) ?_
    refine sim_let (v := AV.ptr o_ 1 0 0) rfl ?_
    refine sim_let (v := AV.ptr o_ 1 0 1) rfl ?_
    refine sim_let (v := iv s_.pos) (O.ld 0 rfl false 1 1) ?_
    refine sim_get (Tab.enc h s_.code) (fun m3 a2 hi4 hm5 => ?_)
    refine sim_let (v := bt a2) ((Tab.enc h s_.code).ld hm5 false 1 0) ?_
    refine sim_let (v := iv (a2.toNat : Int)) (conv_byte _) ?_
    refine sim_let (v := AV.ptr o_ 1 0 0) rfl ?_
    refine sim_let (v := AV.ptr o_ 1 0 1) rfl ?_
    refine sim_let (v := iv s_.pos) (O.ld 0 rfl false 1 1) ?_
    refine sim_let (v := iv (wr (s_.pos + 1))) (aBin_add _ _) ?_
    refine sim_let (v := AV.ptr o_ 1 0 0) rfl ?_
    refine sim_let (v := AV.ptr o_ 1 0 1) rfl ?_
    refine sim_store O 0 (cs' := [Sl.enc s_.code, iv (wr (s_.pos + 1)), AV.sc (.int .u64 s_.seed)]) rfl (by first | rfl | simp) (by simp) (by first | rfl | simp) (by first | rfl | simp [splice]) (fun h6 O7 => ?_)
    replace O7 : Hold B h6 [(AV.ptr o_ 1 0 0, .pt 3 [Sl.enc s_.code, iv (wr (s_.pos + 1)), AV.sc (.int .u64 s_.seed)])] := O7
    refine sim_let (v := AV.ptr o_ 1 0 0) rfl ?_
    refine sim_let (v := AV.ptr o_ 1 0 2) rfl ?_
    refine sim_let (v := AV.sc (.int .u64 s_.seed)) (O7.ld 0 rfl false 1 2) ?_
    refine sim_let (v := AV.sc (.int .u64 (IntKind.u64.wrap (s_.seed * 6364136223846793005)))) rfl ?_
    refine sim_let (v := AV.sc (.int .u64 (IntKind.u64.wrap (a2.toNat : Int)))) rfl ?_
    refine sim_let (v := AV.sc (.int .u64 (IntKind.u64.wrap ((IntKind.u64.wrap (s_.seed * 6364136223846793005)) + (IntKind.u64.wrap (a2.toNat : Int)))))) rfl ?_
    refine sim_let (v := AV.sc (.int .u64 (IntKind.u64.wrap ((IntKind.u64.wrap ((IntKind.u64.wrap (s_.seed * 6364136223846793005)) + (IntKind.u64.wrap (a2.toNat : Int)))) + 1442695040888963407)))) rfl ?_
    refine sim_let (v := AV.ptr o_ 1 0 0) rfl ?_
    refine sim_let (v := AV.ptr o_ 1 0 2) rfl ?_
    refine sim_store O7 0 (cs' := [Sl.enc s_.code, iv (wr (s_.pos + 1)), AV.sc (.int .u64 (IntKind.u64.wrap ((IntKind.u64.wrap ((IntKind.u64.wrap (s_.seed * 6364136223846793005)) + (IntKind.u64.wrap (a2.toNat : Int)))) + 1442695040888963407)))]) rfl (by first | rfl | simp) (by simp) (by first | rfl | simp) (by first | rfl | simp [splice]) (fun h8 O9 => ?_)
    replace O9 : Hold B h8 [(AV.ptr o_ 1 0 0, .pt 3 [Sl.enc s_.code, iv (wr (s_.pos + 1)), AV.sc (.int .u64 (IntKind.u64.wrap ((IntKind.u64.wrap ((IntKind.u64.wrap (s_.seed * 6364136223846793005)) + (IntKind.u64.wrap (a2.toNat : Int)))) + 1442695040888963407)))])] := O9
    refine sim_let (v := AV.ptr o_ 1 0 0) rfl ?_
    refine sim_let (v := AV.ptr o_ 1 0 1) rfl ?_
    refine sim_let (v := iv (wr (s_.pos + 1))) (O9.ld 0 rfl false 1 1) ?_
    refine sim_let (v := AV.ptr o_ 1 0 0) rfl ?_
    refine sim_let (v := AV.ptr o_ 1 0 0) rfl ?_
    refine sim_let (v := Sl.enc s_.code) (O9.ld 0 rfl false 1 0) ?_
    refine sim_let (v := iv (((s_.code.getD []).length : Nat) : Int)) (Tab.enc h8 s_.code).len ?_
    refine sim_let (v := bv (decide ((wr (s_.pos + 1)) ≤ (((s_.code.getD []).length : Nat) : Int)))) (aBin_leq _ _) ?_
    refine sim_cond (fun c10 => ?_) (fun c10 => ?_)
    · exact sim_ret ⟨rfl, O9⟩
    · refine sim_let (v := AV.ptr o_ 1 0 0) rfl ?_
      refine sim_let (v := AV.ptr o_ 1 0 2) rfl ?_
      refine sim_let (v := AV.sc (.int .u64 (IntKind.u64.wrap ((IntKind.u64.wrap ((IntKind.u64.wrap (s_.seed * 6364136223846793005)) + (IntKind.u64.wrap (a2.toNat : Int)))) + 1442695040888963407)))) (O9.ld 0 rfl false 1 2) ?_
      refine sim_let (v := AV.sc (.int .u64 (Int.fdiv (IntKind.u64.wrap ((IntKind.u64.wrap ((IntKind.u64.wrap (s_.seed * 6364136223846793005)) + (IntKind.u64.wrap (a2.toNat : Int)))) + 1442695040888963407)) (2 ^ 40)))) rfl ?_
      refine sim_let (v := AV.sc (.int .u64 (IntKind.u64.wrap ((BitVec.ofInt 64 (Int.fdiv (IntKind.u64.wrap ((IntKind.u64.wrap ((IntKind.u64.wrap (s_.seed * 6364136223846793005)) + (IntKind.u64.wrap (a2.toNat : Int)))) + 1442695040888963407)) (2 ^ 40)) &&& BitVec.ofInt 64 255).toNat : Nat)))) rfl ?_
      refine sim_let (v := iv (wr (IntKind.u64.wrap ((BitVec.ofInt 64 (Int.fdiv (IntKind.u64.wrap ((IntKind.u64.wrap ((IntKind.u64.wrap (s_.seed * 6364136223846793005)) + (IntKind.u64.wrap (a2.toNat : Int)))) + 1442695040888963407)) (2 ^ 40)) &&& BitVec.ofInt 64 255).toNat : Nat)))) rfl ?_
      exact sim_ret ⟨rfl, O9⟩
  · refine sim_let (v := AV.ptr o_ 1 0 0) rfl ?_
    refine sim_let (v := AV.ptr o_ 1 0 1) rfl ?_
    refine sim_let (v := iv s_.pos) (O.ld 0 rfl false 1 1) ?_
    refine sim_let (v := iv (wr (s_.pos + 1))) (aBin_add _ _) ?_
    refine sim_let (v := AV.ptr o_ 1 0 0) rfl ?_
    refine sim_let (v := AV.ptr o_ 1 0 1) rfl ?_
    refine sim_store O 0 (cs' := [Sl.enc s_.code, iv (wr (s_.pos + 1)), AV.sc (.int .u64 s_.seed)]) rfl (by first | rfl | simp) (by simp) (by first | rfl | simp) (by first | rfl | simp [splice]) (fun h13 O14 => ?_)
    replace O14 : Hold B h13 [(AV.ptr o_ 1 0 0, .pt 3 [Sl.enc s_.code, iv (wr (s_.pos + 1)), AV.sc (.int .u64 s_.seed)])] := O14
    refine sim_let (v := AV.ptr o_ 1 0 0) rfl ?_
    refine sim_let (v := AV.ptr o_ 1 0 2) rfl ?_
    refine sim_let (v := AV.sc (.int .u64 s_.seed)) (O14.ld 0 rfl false 1 2) ?_
    refine sim_let (v := AV.sc (.int .u64 (IntKind.u64.wrap (s_.seed * 6364136223846793005)))) rfl ?_
    refine sim_let (v := AV.sc (.int .u64 (IntKind.u64.wrap 0))) rfl ?_
    refine sim_let (v := AV.sc (.int .u64 (IntKind.u64.wrap ((IntKind.u64.wrap (s_.seed * 6364136223846793005)) + (IntKind.u64.wrap 0))))) rfl ?_
    refine sim_let (v := AV.sc (.int .u64 (IntKind.u64.wrap ((IntKind.u64.wrap ((IntKind.u64.wrap (s_.seed * 6364136223846793005)) + (IntKind.u64.wrap 0))) + 1442695040888963407)))) rfl ?_
    refine sim_let (v := AV.ptr o_ 1 0 0) rfl ?_
    refine sim_let (v := AV.ptr o_ 1 0 2) rfl ?_
    refine sim_store O14 0 (cs' := [Sl.enc s_.code, iv (wr (s_.pos + 1)), AV.sc (.int .u64 (IntKind.u64.wrap ((IntKind.u64.wrap ((IntKind.u64.wrap (s_.seed * 6364136223846793005)) + (IntKind.u64.wrap 0))) + 1442695040888963407)))]) rfl (by first | rfl | simp) (by simp) (by first | rfl | simp) (by first | rfl | simp [splice]) (fun h15 O16 => ?_)
    replace O16 : Hold B h15 [(AV.ptr o_ 1 0 0, .pt 3 [Sl.enc s_.code, iv (wr (s_.pos + 1)), AV.sc (.int .u64 (IntKind.u64.wrap ((IntKind.u64.wrap ((IntKind.u64.wrap (s_.seed * 6364136223846793005)) + (IntKind.u64.wrap 0))) + 1442695040888963407)))])] := O16
    refine sim_let (v := AV.ptr o_ 1 0 0) rfl ?_
    refine sim_let (v := AV.ptr o_ 1 0 1) rfl ?_
    refine sim_let (v := iv (wr (s_.pos + 1))) (O16.ld 0 rfl false 1 1) ?_
    refine sim_let (v := AV.ptr o_ 1 0 0) rfl ?_
    refine sim_let (v := AV.ptr o_ 1 0 0) rfl ?_
    refine sim_let (v := Sl.enc s_.code) (O16.ld 0 rfl false 1 0) ?_
    refine sim_let (v := iv (((s_.code.getD []).length : Nat) : Int)) (Tab.enc h15 s_.code).len ?_
    refine sim_let (v := bv (decide ((wr (s_.pos + 1)) ≤ (((s_.code.getD []).length : Nat) : Int)))) (aBin_leq _ _) ?_
    refine sim_cond (fun c17 => ?_) (fun c17 => ?_)
    · exact sim_ret ⟨rfl, O16⟩
    · refine sim_let (v := AV.ptr o_ 1 0 0) rfl ?_
      refine sim_let (v := AV.ptr o_ 1 0 2) rfl ?_
      refine sim_let (v := AV.sc (.int .u64 (IntKind.u64.wrap ((IntKind.u64.wrap ((IntKind.u64.wrap (s_.seed * 6364136223846793005)) + (IntKind.u64.wrap 0))) + 1442695040888963407)))) (O16.ld 0 rfl false 1 2) ?_
      refine sim_let (v := AV.sc (.int .u64 (Int.fdiv (IntKind.u64.wrap ((IntKind.u64.wrap ((IntKind.u64.wrap (s_.seed * 6364136223846793005)) + (IntKind.u64.wrap 0))) + 1442695040888963407)) (2 ^ 40)))) rfl ?_
      refine sim_let (v := AV.sc (.int .u64 (IntKind.u64.wrap ((BitVec.ofInt 64 (Int.fdiv (IntKind.u64.wrap ((IntKind.u64.wrap ((IntKind.u64.wrap (s_.seed * 6364136223846793005)) + (IntKind.u64.wrap 0))) + 1442695040888963407)) (2 ^ 40)) &&& BitVec.ofInt 64 255).toNat : Nat)))) rfl ?_
      refine sim_let (v := iv (wr (IntKind.u64.wrap ((BitVec.ofInt 64 (Int.fdiv (IntKind.u64.wrap ((IntKind.u64.wrap ((IntKind.u64.wrap (s_.seed * 6364136223846793005)) + (IntKind.u64.wrap 0))) + 1442695040888963407)) (2 ^ 40)) &&& BitVec.ofInt 64 255).toNat : Nat)))) rfl ?_
      exact sim_ret ⟨rfl, O16⟩
noncomputable def ev_spec_l00Src_next : Nat → Contract := envL []
theorem eo_spec_l00Src_next : EnvOK Try.prog ev_spec_l00Src_next := E0
theorem tg_spec_l00Src_next {B : Base} {h : Heap} {o_ : Nat} (s_ : l00Src) (O : Hold B h [(AV.ptr o_ 1 0 0, .pt 3 [Sl.enc s_.code, iv s_.pos, AV.sc (.int .u64 s_.seed)])]) : Sim (denFn Try.prog ev_spec_l00Src_next n_spec_l00Src_next [AV.ptr o_ 1 0 0] h) (t_spec_l00Src_next s_) (fun c p => p.1 = iv c.1 ∧ Hold B p.2 [(AV.ptr o_ 1 0 0, .pt 3 [Sl.enc c.2.code, iv c.2.pos, AV.sc (.int .u64 c.2.seed)])]) := ts_spec_l00Src_next ev_spec_l00Src_next  s_  O

def t_spec_l00Src_pick (s_ : l00Src) (n_ : Int) : Option (Int × l00Src) :=
  bif decide (n_ ≤ 1) then
    some (0, (⟨s_.code, s_.pos, s_.seed⟩ : l00Src))
  else
    obind (t_spec_l00Src_next s_) fun c3 =>
    bif decide (200 < n_) then
      obind (t_spec_l00Src_next c3.2) fun c10 =>
      obind (remI (wr ((wr (c3.1 * 256)) + c10.1)) n_) fun q16 =>
      some (q16, (⟨c10.2.code, c10.2.pos, c10.2.seed⟩ : l00Src))
    else
      obind (remI c3.1 n_) fun q18 =>
      some (q18, (⟨c3.2.code, c3.2.pos, c3.2.seed⟩ : l00Src))

theorem ts_spec_l00Src_pick (env : Nat → Contract) (he_spec_l00Src_next : env n_spec_l00Src_next = .gen (denFn Try.prog ev_spec_l00Src_next n_spec_l00Src_next)) {B : Base} {h : Heap} {o_ : Nat} (s_ : l00Src) (n_ : Int) (O : Hold B h [(AV.ptr o_ 1 0 0, .pt 3 [Sl.enc s_.code, iv s_.pos, AV.sc (.int .u64 s_.seed)])]) : Sim (denFn Try.prog env n_spec_l00Src_pick [AV.ptr o_ 1 0 0, iv n_] h) (t_spec_l00Src_pick s_ n_) (fun c p => p.1 = iv c.1 ∧ Hold B p.2 [(AV.ptr o_ 1 0 0, .pt 3 [Sl.enc c.2.code, iv c.2.pos, AV.sc (.int .u64 c.2.seed)])]) := by
  rw [e_spec_l00Src_pick]
  unfold t_spec_l00Src_pick
  refine sim_let (v := bv (decide (n_ ≤ 1))) (aBin_leq _ _) ?_
  refine sim_cond (fun c1 => ?_) (fun c1 => ?_)
  · exact sim_ret ⟨rfl, O⟩
  · refine sim_gen he_spec_l00Src_next (tg_spec_l00Src_next s_ (O.start (i := 0) rfl rfl)) (fun c3 v4 h5 hq6 => ?_)
    obtain ⟨e_v4, O7⟩ := hq6
    dsimp only at e_v4
    subst v4
    have O8 : Hold B h5 [(AV.ptr o_ 1 0 0, .pt 3 [Sl.enc c3.2.code, iv c3.2.pos, AV.sc (.int .u64 c3.2.seed)])] := O.merge (i := 0) rfl rfl O7
    refine sim_let (v := bv (decide (200 < n_))) (aBin_gtr _ _) ?_
    refine sim_cond (fun c9 => ?_) (fun c9 => ?_)
    · refine sim_let (v := iv (wr (c3.1 * 256))) (aBin_mul _ _) ?_
      refine sim_gen he_spec_l00Src_next (tg_spec_l00Src_next c3.2 (O8.start (i := 0) rfl rfl)) (fun c10 v11 h12 hq13 => ?_)
      obtain ⟨e_v11, O14⟩ := hq13
      dsimp only at e_v11
      subst v11
      have O15 : Hold B h12 [(AV.ptr o_ 1 0 0, .pt 3 [Sl.enc c10.2.code, iv c10.2.pos, AV.sc (.int .u64 c10.2.seed)])] := O8.merge (i := 0) rfl rfl O14
      refine sim_let (v := iv (wr ((wr (c3.1 * 256)) + c10.1))) (aBin_add _ _) ?_
      refine sim_rem (fun q16 => ?_)
      exact sim_ret ⟨rfl, O15⟩
    · refine sim_rem (fun q18 => ?_)
      exact sim_ret ⟨rfl, O8⟩
noncomputable def ev_spec_l00Src_pick : Nat → Contract := envL [(n_spec_l00Src_next, .gen (denFn Try.prog ev_spec_l00Src_next n_spec_l00Src_next))]
theorem eo_spec_l00Src_pick : EnvOK Try.prog ev_spec_l00Src_pick := (EconsG (gen_of_den eo_spec_l00Src_next mixed hb_spec_l00Src_next) E0)
theorem tg_spec_l00Src_pick {B : Base} {h : Heap} {o_ : Nat} (s_ : l00Src) (n_ : Int) (O : Hold B h [(AV.ptr o_ 1 0 0, .pt 3 [Sl.enc s_.code, iv s_.pos, AV.sc (.int .u64 s_.seed)])]) : Sim (denFn Try.prog ev_spec_l00Src_pick n_spec_l00Src_pick [AV.ptr o_ 1 0 0, iv n_] h) (t_spec_l00Src_pick s_ n_) (fun c p => p.1 = iv c.1 ∧ Hold B p.2 [(AV.ptr o_ 1 0 0, .pt 3 [Sl.enc c.2.code, iv c.2.pos, AV.sc (.int .u64 c.2.seed)])]) := ts_spec_l00Src_pick ev_spec_l00Src_pick (by simp [ev_spec_l00Src_pick, envL]) s_ n_  O

def s0_spec_l09Draw : ((Sl UInt8) × Int × Int × (Sl Feat) × Int × Int × Int) → Option (Sum ((Sl UInt8) × Int × Int × (Sl Feat) × Int × Int × Int) ((Sl UInt8) × Int × Int × (Sl Feat))) := fun (w23, w24, w25, w27, w30, w31, w32) =>
  bif decide (0 < w32) then
    obind (t_spec_l00Src_pick (⟨w23, w24, w25⟩ : l00Src) 8) fun c45 =>
    obind (appO w27 ([(⟨w30, w31, c45.1⟩ : Feat)] : List Feat)) fun _ =>
    obind (t_spec_l00Src_pick c45.2 61) fun c61 =>
    obind (some ((fun a b : Int => min a b) 255 (wr ((wr (w30 + c61.1)) - 30)))) fun c67 =>
    obind (some ((fun a b : Int => max a b) 0 c67)) fun c68 =>
    obind (t_spec_l00Src_pick c61.2 61) fun c69 =>
    obind (some ((fun a b : Int => min a b) 255 (wr ((wr (w31 + c69.1)) - 30)))) fun c75 =>
    obind (some ((fun a b : Int => max a b) 0 c75)) fun c76 =>
    some (.inl (c69.2.code, c69.2.pos, c69.2.seed, (appS w27 ([(⟨w30, w31, c45.1⟩ : Feat)] : List Feat)), c68, c76, wr (w32 - 1)))
  else
    some (.inr (w23, w24, w25, w27))
def t_spec_l09Draw (s_ : l00Src) (most_ : Int) : Option ((Sl Feat) × l00Src) :=
  obind (t_spec_l00Src_pick s_ 256) fun c5 =>
  obind (t_spec_l00Src_pick c5.2 256) fun c11 =>
  obind (t_spec_l00Src_pick c11.2 most_) fun c17 =>
  obind (loopT s0_spec_l09Draw (c17.2.code, c17.2.pos, c17.2.seed, (some ([] : List Feat)), c5.1, c11.1, wr (1 + c17.1))) fun (q35, q36, q37, q39) =>
  some (q39, (⟨q35, q36, q37⟩ : l00Src))

theorem tl0_spec_l09Draw (env : Nat → Contract) {B : Base} (he_spec_l00Max : env n_spec_l00Max = .pure (T2 (fun a b : Int => max a b))) (he_spec_l00Min : env n_spec_l00Min = .pure (T2 (fun a b : Int => min a b))) (he_spec_l00Src_pick : env n_spec_l00Src_pick = .gen (denFn Try.prog ev_spec_l00Src_pick n_spec_l00Src_pick)) (o_ : Nat) (most_ : Int) (x1 : AV) (c5 : Int × l00Src) (c11 : Int × l00Src) (c17 : Int × l00Src)  {st : (Sl UInt8) × Int × Int × (Sl Feat) × Int × Int × Int} {tm : TM} {h : Heap} (R : (fun (st : (Sl UInt8) × Int × Int × (Sl Feat) × Int × Int × Int) tm h28 => match st with | (w23, w24, w25, w27, w30, w31, w32) => ∃ z26, tm = [AV.ptr o_ 1 0 0, iv most_, und, und, nilS, z26, iv w30, iv w31, iv w32, x1, AV.ptr o_ 1 0 0, iv c5.1, AV.ptr o_ 1 0 0, iv c11.1, AV.ptr o_ 1 0 0, iv most_, iv c17.1, iv (wr (1 + c17.1)), AV.top, AV.top, AV.top, AV.top, AV.top, AV.top, AV.top, AV.top, AV.top, AV.top, AV.top, AV.top, AV.top, AV.top, AV.top, AV.top, AV.top, AV.top, AV.top, AV.top, AV.top, AV.top, AV.top, AV.top, AV.top, AV.top, und] ∧ Hold B h28 [(AV.ptr o_ 1 0 0, .pt 3 [Sl.enc w23, iv w24, AV.sc (.int .u64 w25)]), (z26, obS (w27 : Sl Feat))]) st tm h) : Sim (loopP hm0_spec_l09Draw xm0_spec_l09Draw (lb0_spec_l09Draw env) tm h) (loopT s0_spec_l09Draw st) (fun (q : (Sl UInt8) × Int × Int × (Sl Feat)) (r : Res) => match q with | (q35, q36, q37, q39) => ∃ (q40 : Int) (q41 : Int) (q42 : Int) (z38 : AV) (h33 : Heap), r = (.exit 0, [AV.ptr o_ 1 0 0, iv most_, und, und, nilS, z38, iv q40, iv q41, iv q42, x1, AV.ptr o_ 1 0 0, iv c5.1, AV.ptr o_ 1 0 0, iv c11.1, AV.ptr o_ 1 0 0, iv most_, iv c17.1, iv (wr (1 + c17.1)), AV.top, AV.top, AV.top, AV.top, AV.top, AV.top, AV.top, AV.top, AV.top, AV.top, AV.top, AV.top, AV.top, AV.top, AV.top, AV.top, AV.top, AV.top, AV.top, AV.top, AV.top, AV.top, AV.top, AV.top, AV.top, AV.top, und], h33) ∧ Hold B h33 [(AV.ptr o_ 1 0 0, .pt 3 [Sl.enc q35, iv q36, AV.sc (.int .u64 q37)]), (z38, obS (q39 : Sl Feat))]) := by
  refine loop_sim (Rel := fun (st : (Sl UInt8) × Int × Int × (Sl Feat) × Int × Int × Int) tm h28 => match st with | (w23, w24, w25, w27, w30, w31, w32) => ∃ z26, tm = [AV.ptr o_ 1 0 0, iv most_, und, und, nilS, z26, iv w30, iv w31, iv w32, x1, AV.ptr o_ 1 0 0, iv c5.1, AV.ptr o_ 1 0 0, iv c11.1, AV.ptr o_ 1 0 0, iv most_, iv c17.1, iv (wr (1 + c17.1)), AV.top, AV.top, AV.top, AV.top, AV.top, AV.top, AV.top, AV.top, AV.top, AV.top, AV.top, AV.top, AV.top, AV.top, AV.top, AV.top, AV.top, AV.top, AV.top, AV.top, AV.top, AV.top, AV.top, AV.top, AV.top, AV.top, und] ∧ Hold B h28 [(AV.ptr o_ 1 0 0, .pt 3 [Sl.enc w23, iv w24, AV.sc (.int .u64 w25)]), (z26, obS (w27 : Sl Feat))]) (fun st tm h28 R => ?_) R
  obtain ⟨w23, w24, w25, w27, w30, w31, w32⟩ := st
  obtain ⟨z26, rfl, O29⟩ := R
  rw [e_lb0_spec_l09Draw]
  unfold s0_spec_l09Draw
  dsimp only
  refine sim_let (v := bv (decide (0 < w32))) (aBin_gtr _ _) ?_
  refine sim_cond (fun c44 => ?_) (fun c44 => ?_)
  · refine sim_gen he_spec_l00Src_pick (tg_spec_l00Src_pick (⟨w23, w24, w25⟩ : l00Src) 8 (O29.start (i := 0) rfl rfl)) (fun c45 v46 h47 hq48 => ?_)
    obtain ⟨e_v46, O49⟩ := hq48
    dsimp only at e_v46
    subst v46
    have O50 : Hold B h47 [(AV.ptr o_ 1 0 0, .pt 3 [Sl.enc c45.2.code, iv c45.2.pos, AV.sc (.int .u64 c45.2.seed)]), (z26, obS (w27 : Sl Feat))] := O29.merge (i := 0) rfl rfl O49
    refine sim_let (v := AV.agg [iv w30, iv w31, iv c45.1]) (by first | rfl | simp [aBuild, aFill, splice]) ?_
    refine sim_build (A := Feat) O50 ([(⟨w30, w31, c45.1⟩ : Feat)] : List Feat) rfl (by first | rfl | simp [aFillRows, zrows]) rfl (fun x51 h52 O53 => ?_)
    replace O53 : Hold B h52 [(AV.ptr o_ 1 0 0, .pt 3 [Sl.enc c45.2.code, iv c45.2.pos, AV.sc (.int .u64 c45.2.seed)]), (z26, obS (w27 : Sl Feat)), (x51, obS ((some ([(⟨w30, w31, c45.1⟩ : Feat)] : List Feat)) : Sl Feat))] := O53
    refine sim_append (A := Feat) (s := w27) O53 1 ([(⟨w30, w31, c45.1⟩ : Feat)] : List Feat) rfl (O53.src (A := Feat) (s := (some ([(⟨w30, w31, c45.1⟩ : Feat)] : List Feat))) 2 rfl) (by decide) (fun x56 h57 O58 => ?_)
    replace O58 : Hold B h57 [(AV.ptr o_ 1 0 0, .pt 3 [Sl.enc c45.2.code, iv c45.2.pos, AV.sc (.int .u64 c45.2.seed)]), (x56, obS ((appS w27 ([(⟨w30, w31, c45.1⟩ : Feat)] : List Feat)) : Sl Feat)), (x51, obS ((some ([(⟨w30, w31, c45.1⟩ : Feat)] : List Feat)) : Sl Feat))] := O58
    have O60 : Hold B h57 [(AV.ptr o_ 1 0 0, .pt 3 [Sl.enc c45.2.code, iv c45.2.pos, AV.sc (.int .u64 c45.2.seed)]), (x56, obS ((appS w27 ([(⟨w30, w31, c45.1⟩ : Feat)] : List Feat)) : Sl Feat))] := O58.sel [0, 1] (by decide) rfl
    refine sim_gen he_spec_l00Src_pick (tg_spec_l00Src_pick c45.2 61 (O60.start (i := 0) rfl rfl)) (fun c61 v62 h63 hq64 => ?_)
    obtain ⟨e_v62, O65⟩ := hq64
    dsimp only at e_v62
    subst v62
    have O66 : Hold B h63 [(AV.ptr o_ 1 0 0, .pt 3 [Sl.enc c61.2.code, iv c61.2.pos, AV.sc (.int .u64 c61.2.seed)]), (x56, obS ((appS w27 ([(⟨w30, w31, c45.1⟩ : Feat)] : List Feat)) : Sl Feat))] := O60.merge (i := 0) rfl rfl O65
    refine sim_let (v := iv (wr (w30 + c61.1))) (aBin_add _ _) ?_
    refine sim_let (v := iv (wr ((wr (w30 + c61.1)) - 30))) (aBin_sub _ _) ?_
    refine sim_callV2 he_spec_l00Min (snapD_int _ _) (snapD_int _ _) (fun c67 => ?_)
    refine sim_callV2 he_spec_l00Max (snapD_int _ _) (snapD_int _ _) (fun c68 => ?_)
    refine sim_gen he_spec_l00Src_pick (tg_spec_l00Src_pick c61.2 61 (O66.start (i := 0) rfl rfl)) (fun c69 v70 h71 hq72 => ?_)
    obtain ⟨e_v70, O73⟩ := hq72
    dsimp only at e_v70
    subst v70
    have O74 : Hold B h71 [(AV.ptr o_ 1 0 0, .pt 3 [Sl.enc c69.2.code, iv c69.2.pos, AV.sc (.int .u64 c69.2.seed)]), (x56, obS ((appS w27 ([(⟨w30, w31, c45.1⟩ : Feat)] : List Feat)) : Sl Feat))] := O66.merge (i := 0) rfl rfl O73
    refine sim_let (v := iv (wr (w31 + c69.1))) (aBin_add _ _) ?_
    refine sim_let (v := iv (wr ((wr (w31 + c69.1)) - 30))) (aBin_sub _ _) ?_
    refine sim_callV2 he_spec_l00Min (snapD_int _ _) (snapD_int _ _) (fun c75 => ?_)
    refine sim_callV2 he_spec_l00Max (snapD_int _ _) (snapD_int _ _) (fun c76 => ?_)
    refine sim_let (v := iv (wr (w32 - 1))) (aBin_sub _ _) ?_
    exact sim_ret ⟨rfl, _, rfl, O74⟩
  · exact sim_ret ⟨nofun, _, _, _, _, _, rfl, O29⟩
theorem ts_spec_l09Draw (env : Nat → Contract) (he_spec_l00Max : env n_spec_l00Max = .pure (T2 (fun a b : Int => max a b))) (he_spec_l00Min : env n_spec_l00Min = .pure (T2 (fun a b : Int => min a b))) (he_spec_l00Src_pick : env n_spec_l00Src_pick = .gen (denFn Try.prog ev_spec_l00Src_pick n_spec_l00Src_pick)) {B : Base} {h : Heap} {o_ : Nat} (s_ : l00Src) (most_ : Int) (O : Hold B h [(AV.ptr o_ 1 0 0, .pt 3 [Sl.enc s_.code, iv s_.pos, AV.sc (.int .u64 s_.seed)])]) : Sim (denFn Try.prog env n_spec_l09Draw [AV.ptr o_ 1 0 0, iv most_] h) (t_spec_l09Draw s_ most_) (fun c p => ∃ x1, p.1 = x1 ∧ Hold B p.2 [(AV.ptr o_ 1 0 0, .pt 3 [Sl.enc c.2.code, iv c.2.pos, AV.sc (.int .u64 c.2.seed)]), (x1, obS (c.1 : Sl Feat))]) := by
  rw [e_spec_l09Draw]
  unfold t_spec_l09Draw
  refine sim_build (A := Feat) O ([] : List Feat) rfl (by first | rfl | simp [aFillRows, zrows]) rfl (fun x1 h2 O3 => ?_)
  replace O3 : Hold B h2 [(AV.ptr o_ 1 0 0, .pt 3 [Sl.enc s_.code, iv s_.pos, AV.sc (.int .u64 s_.seed)]), (x1, obS ((some ([] : List Feat)) : Sl Feat))] := O3
  refine sim_gen he_spec_l00Src_pick (tg_spec_l00Src_pick s_ 256 (O3.start (i := 0) rfl rfl)) (fun c5 v6 h7 hq8 => ?_)
  obtain ⟨e_v6, O9⟩ := hq8
  dsimp only at e_v6
  subst v6
  have O10 : Hold B h7 [(AV.ptr o_ 1 0 0, .pt 3 [Sl.enc c5.2.code, iv c5.2.pos, AV.sc (.int .u64 c5.2.seed)]), (x1, obS ((some ([] : List Feat)) : Sl Feat))] := O3.merge (i := 0) rfl rfl O9
  refine sim_gen he_spec_l00Src_pick (tg_spec_l00Src_pick c5.2 256 (O10.start (i := 0) rfl rfl)) (fun c11 v12 h13 hq14 => ?_)
  obtain ⟨e_v12, O15⟩ := hq14
  dsimp only at e_v12
  subst v12
  have O16 : Hold B h13 [(AV.ptr o_ 1 0 0, .pt 3 [Sl.enc c11.2.code, iv c11.2.pos, AV.sc (.int .u64 c11.2.seed)]), (x1, obS ((some ([] : List Feat)) : Sl Feat))] := O10.merge (i := 0) rfl rfl O15
  refine sim_gen he_spec_l00Src_pick (tg_spec_l00Src_pick c11.2 most_ (O16.start (i := 0) rfl rfl)) (fun c17 v18 h19 hq20 => ?_)
  obtain ⟨e_v18, O21⟩ := hq20
  dsimp only at e_v18
  subst v18
  have O22 : Hold B h19 [(AV.ptr o_ 1 0 0, .pt 3 [Sl.enc c17.2.code, iv c17.2.pos, AV.sc (.int .u64 c17.2.seed)]), (x1, obS ((some ([] : List Feat)) : Sl Feat))] := O16.merge (i := 0) rfl rfl O21
  refine sim_let (v := iv (wr (1 + c17.1))) (aBin_add _ _) ?_
  refine sim_bind ((tl0_spec_l09Draw env he_spec_l00Max he_spec_l00Min he_spec_l00Src_pick o_ most_ x1 c5 c11 c17) ⟨_, rfl, O22⟩) (fun qq80 r hq => ?_)
  obtain ⟨q35, q36, q37, q39⟩ := qq80
  obtain ⟨q40, q41, q42, z38, h33, rfl, O34⟩ := hq
  rw [e_lk0x0_spec_l09Draw]
  exact sim_ret ⟨_, rfl, O34⟩
noncomputable def ev_spec_l09Draw : Nat → Contract := envL [(n_spec_l00Max, .pure (T2 (fun a b : Int => max a b))), (n_spec_l00Min, .pure (T2 (fun a b : Int => min a b))), (n_spec_l00Src_pick, .gen (denFn Try.prog ev_spec_l00Src_pick n_spec_l00Src_pick))]
theorem eo_spec_l09Draw : EnvOK Try.prog ev_spec_l09Draw := (Econs ok_spec_l00Max (Econs ok_spec_l00Min (EconsG (gen_of_den eo_spec_l00Src_pick mixed hb_spec_l00Src_pick) E0)))
theorem tg_spec_l09Draw {B : Base} {h : Heap} {o_ : Nat} (s_ : l00Src) (most_ : Int) (O : Hold B h [(AV.ptr o_ 1 0 0, .pt 3 [Sl.enc s_.code, iv s_.pos, AV.sc (.int .u64 s_.seed)])]) : Sim (denFn Try.prog ev_spec_l09Draw n_spec_l09Draw [AV.ptr o_ 1 0 0, iv most_] h) (t_spec_l09Draw s_ most_) (fun c p => ∃ x1, p.1 = x1 ∧ Hold B p.2 [(AV.ptr o_ 1 0 0, .pt 3 [Sl.enc c.2.code, iv c.2.pos, AV.sc (.int .u64 c.2.seed)]), (x1, obS (c.1 : Sl Feat))]) := ts_spec_l09Draw ev_spec_l09Draw (by simp [ev_spec_l09Draw, envL]) (by simp [ev_spec_l09Draw, envL]) (by simp [ev_spec_l09Draw, envL]) s_ most_  O

def t_spec_l00Src_one (s_ : l00Src) (n_ : Int) : Option (Bool × l00Src) :=
  obind (t_spec_l00Src_pick s_ n_) fun c1 =>
  some (decide (c1.1 = 0), (⟨c1.2.code, c1.2.pos, c1.2.seed⟩ : l00Src))

theorem ts_spec_l00Src_one (env : Nat → Contract) (he_spec_l00Src_pick : env n_spec_l00Src_pick = .gen (denFn Try.prog ev_spec_l00Src_pick n_spec_l00Src_pick)) {B : Base} {h : Heap} {o_ : Nat} (s_ : l00Src) (n_ : Int) (O : Hold B h [(AV.ptr o_ 1 0 0, .pt 3 [Sl.enc s_.code, iv s_.pos, AV.sc (.int .u64 s_.seed)])]) : Sim (denFn Try.prog env n_spec_l00Src_one [AV.ptr o_ 1 0 0, iv n_] h) (t_spec_l00Src_one s_ n_) (fun c p => p.1 = bv c.1 ∧ Hold B p.2 [(AV.ptr o_ 1 0 0, .pt 3 [Sl.enc c.2.code, iv c.2.pos, AV.sc (.int .u64 c.2.seed)])]) := by
  rw [e_spec_l00Src_one]
  unfold t_spec_l00Src_one
  refine sim_gen he_spec_l00Src_pick (tg_spec_l00Src_pick s_ n_ (O.start (i := 0) rfl rfl)) (fun c1 v2 h3 hq4 => ?_)
  obtain ⟨e_v2, O5⟩ := hq4
  dsimp only at e_v2
  subst v2
  have O6 : Hold B h3 [(AV.ptr o_ 1 0 0, .pt 3 [Sl.enc c1.2.code, iv c1.2.pos, AV.sc (.int .u64 c1.2.seed)])] := O.merge (i := 0) rfl rfl O5
  refine sim_let (v := bv (decide (c1.1 = 0))) (aCmp_eq _ _) ?_
  exact sim_ret ⟨rfl, O6⟩
noncomputable def ev_spec_l00Src_one : Nat → Contract := envL [(n_spec_l00Src_pick, .gen (denFn Try.prog ev_spec_l00Src_pick n_spec_l00Src_pick))]
theorem eo_spec_l00Src_one : EnvOK Try.prog ev_spec_l00Src_one := (EconsG (gen_of_den eo_spec_l00Src_pick mixed hb_spec_l00Src_pick) E0)
theorem tg_spec_l00Src_one {B : Base} {h : Heap} {o_ : Nat} (s_ : l00Src) (n_ : Int) (O : Hold B h [(AV.ptr o_ 1 0 0, .pt 3 [Sl.enc s_.code, iv s_.pos, AV.sc (.int .u64 s_.seed)])]) : Sim (denFn Try.prog ev_spec_l00Src_one n_spec_l00Src_one [AV.ptr o_ 1 0 0, iv n_] h) (t_spec_l00Src_one s_ n_) (fun c p => p.1 = bv c.1 ∧ Hold B p.2 [(AV.ptr o_ 1 0 0, .pt 3 [Sl.enc c.2.code, iv c.2.pos, AV.sc (.int .u64 c.2.seed)])]) := ts_spec_l00Src_one ev_spec_l00Src_one (by simp [ev_spec_l00Src_one, envL]) s_ n_  O

def t_spec_l09Size (n_ : Int) : Option Int :=
  bif decide (n_ < 0) then
    some (wr (0 - n_))
  else
    some n_

theorem ts_spec_l09Size (env : Nat → Contract)  (n_ : Int) : Sim (denFn Try.prog env n_spec_l09Size [iv n_] []) (t_spec_l09Size n_) fun c p => release p.2 depth p.1 = some ((fun c : Int => enc c) c) := by
  have O := Hold.nil []
  generalize hB : (⟨[], []⟩ : Base) = B at O
  clear hB
  rw [e_spec_l09Size]
  unfold t_spec_l09Size
  refine sim_let (v := bv (decide (n_ < 0))) (aBin_lss _ _) ?_
  refine sim_cond (fun c1 => ?_) (fun c1 => ?_)
  · refine sim_let (v := iv (wr (0 - n_))) (aUn_neg _) ?_
    exact sim_ret (release_plain (by rfl) _)
  · exact sim_ret (release_plain (by rfl) _)
theorem tt_spec_l09Size : PureOK Try.prog n_spec_l09Size (C1 (fun c : Int => enc c) t_spec_l09Size) := pureC1 E0 mixed hb_spec_l09Size fun n_ => ts_spec_l09Size _  n_

def t_spec_A2Two (code_ : Sl UInt8) : Option ((Sl Feat) × (Sl Feat) × Int) :=
  obind (t_spec_l09Draw (⟨code_, 0, 0⟩ : l00Src) 8) fun c5 =>
  obind (t_spec_l09Draw c5.2 8) fun c13 =>
  obind (t_spec_l00Src_one c13.2 2) fun c21 =>
  bif c21.1 then
    obind (appO (some ([] : List Feat)) (c5.1.getD [])) fun _ =>
    obind (t_spec_l00Src_pick c21.2 256) fun c37 =>
    obind (getI ((appS (some ([] : List Feat)) (c5.1.getD [])).getD []) 0) fun a43 =>
    obind (t_spec_l09Size (wr ((((c5.1.getD []).length : Nat) : Int) - ((((setS (appS (some ([] : List Feat)) (c5.1.getD [])) 0 (⟨c37.1, a43.y, a43.d⟩ : Feat)).getD []).length : Nat) : Int)))) fun c49 =>
    obind (t_spec_l00Src_pick c37.2 4) fun c50 =>
    some (c5.1, (setS (appS (some ([] : List Feat)) (c5.1.getD [])) 0 (⟨c37.1, a43.y, a43.d⟩ : Feat)), wr (c49 + c50.1))
  else
    obind (t_spec_l09Size (wr ((((c5.1.getD []).length : Nat) : Int) - (((c13.1.getD []).length : Nat) : Int)))) fun c57 =>
    obind (t_spec_l00Src_pick c21.2 4) fun c58 =>
    some (c5.1, c13.1, wr (c57 + c58.1))

theorem ts_spec_A2Two (env : Nat → Contract) (he_spec_l00From : env n_spec_l00From = .pure (C1 fromA (fun q : Sl UInt8 => some q))) (he_spec_l00Src_one : env n_spec_l00Src_one = .gen (denFn Try.prog ev_spec_l00Src_one n_spec_l00Src_one)) (he_spec_l00Src_pick : env n_spec_l00Src_pick = .gen (denFn Try.prog ev_spec_l00Src_pick n_spec_l00Src_pick)) (he_spec_l09Draw : env n_spec_l09Draw = .gen (denFn Try.prog ev_spec_l09Draw n_spec_l09Draw)) (he_spec_l09Size : env n_spec_l09Size = .pure (C1 (fun c : Int => enc c) t_spec_l09Size)) (code_ : Sl UInt8) : Sim (denFn Try.prog env n_spec_A2Two [Sl.enc code_] []) (t_spec_A2Two code_) fun c p => release p.2 depth p.1 = some ((fun c : (Sl Feat) × (Sl Feat) × Int => AV.tup [rS c.1, rS c.2.1, enc c.2.2]) c) := by
  have O := Hold.nil []
  generalize hB : (⟨[], []⟩ : Base) = B at O
  clear hB
  rw [e_spec_A2Two]
  unfold t_spec_A2Two
  refine sim_src O he_spec_l00From (snapD_enc _ _) (by first | rfl | exact noRef_enc _) (fun o1 h2 O3 => ?_)
  replace O3 : Hold B h2 [(AV.ptr o1 1 0 0, .pt 3 [Sl.enc code_, iv 0, AV.sc (.int .u64 0)])] := O3
  refine sim_gen he_spec_l09Draw (tg_spec_l09Draw (⟨code_, 0, 0⟩ : l00Src) 8 (O3.start (i := 0) rfl rfl)) (fun c5 v6 h7 hq8 => ?_)
  obtain ⟨x11, e_v6, O9⟩ := hq8
  dsimp only at e_v6
  subst v6
  have O10 : Hold B h7 [(AV.ptr o1 1 0 0, .pt 3 [Sl.enc c5.2.code, iv c5.2.pos, AV.sc (.int .u64 c5.2.seed)]), (x11, obS (c5.1 : Sl Feat))] := O3.merge (i := 0) rfl rfl O9
  refine sim_gen he_spec_l09Draw (tg_spec_l09Draw c5.2 8 (O10.start (i := 0) rfl rfl)) (fun c13 v14 h15 hq16 => ?_)
  obtain ⟨x19, e_v14, O17⟩ := hq16
  dsimp only at e_v14
  subst v14
  have O18 : Hold B h15 [(AV.ptr o1 1 0 0, .pt 3 [Sl.enc c13.2.code, iv c13.2.pos, AV.sc (.int .u64 c13.2.seed)]), (x11, obS (c5.1 : Sl Feat)), (x19, obS (c13.1 : Sl Feat))] := O10.merge (i := 0) rfl rfl O17
  refine sim_gen he_spec_l00Src_one (tg_spec_l00Src_one c13.2 2 (O18.start (i := 0) rfl rfl)) (fun c21 v22 h23 hq24 => ?_)
  obtain ⟨e_v22, O25⟩ := hq24
  dsimp only at e_v22
  subst v22
  have O26 : Hold B h23 [(AV.ptr o1 1 0 0, .pt 3 [Sl.enc c21.2.code, iv c21.2.pos, AV.sc (.int .u64 c21.2.seed)]), (x11, obS (c5.1 : Sl Feat)), (x19, obS (c13.1 : Sl Feat))] := O18.merge (i := 0) rfl rfl O25
  refine sim_cond (fun c27 => ?_) (fun c27 => ?_)
  · refine sim_build (A := Feat) O26 ([] : List Feat) rfl (by first | rfl | simp [aFillRows, zrows]) rfl (fun x28 h29 O30 => ?_)
    replace O30 : Hold B h29 [(AV.ptr o1 1 0 0, .pt 3 [Sl.enc c21.2.code, iv c21.2.pos, AV.sc (.int .u64 c21.2.seed)]), (x11, obS (c5.1 : Sl Feat)), (x19, obS (c13.1 : Sl Feat)), (x28, obS ((some ([] : List Feat)) : Sl Feat))] := O30
    refine sim_append (A := Feat) (s := (some ([] : List Feat))) O30 3 (c5.1.getD []) rfl (O30.src (A := Feat) (s := c5.1) 1 rfl) (by decide) (fun x33 h34 O35 => ?_)
    replace O35 : Hold B h34 [(AV.ptr o1 1 0 0, .pt 3 [Sl.enc c21.2.code, iv c21.2.pos, AV.sc (.int .u64 c21.2.seed)]), (x11, obS (c5.1 : Sl Feat)), (x19, obS (c13.1 : Sl Feat)), (x33, obS ((appS (some ([] : List Feat)) (c5.1.getD [])) : Sl Feat))] := O35
    refine sim_gen he_spec_l00Src_pick (tg_spec_l00Src_pick c21.2 256 (O35.start (i := 0) rfl rfl)) (fun c37 v38 h39 hq40 => ?_)
    obtain ⟨e_v38, O41⟩ := hq40
    dsimp only at e_v38
    subst v38
    have O42 : Hold B h39 [(AV.ptr o1 1 0 0, .pt 3 [Sl.enc c37.2.code, iv c37.2.pos, AV.sc (.int .u64 c37.2.seed)]), (x11, obS (c5.1 : Sl Feat)), (x19, obS (c13.1 : Sl Feat)), (x33, obS ((appS (some ([] : List Feat)) (c5.1.getD [])) : Sl Feat))] := O35.merge (i := 0) rfl rfl O41
    refine sim_get (O42.tab (A := Feat) (s := (appS (some ([] : List Feat)) (c5.1.getD []))) 3 rfl) (fun m44 a43 hi45 hm46 => ?_)
    refine sim_let (v := elp x33 m44 0) ((O42.tab (A := Feat) (s := (appS (some ([] : List Feat)) (c5.1.getD []))) 3 rfl).fld _ _ _) ?_
    refine sim_set (A := Feat) O42 3 (⟨c37.1, a43.y, a43.d⟩ : Feat) rfl hi45 hm46 rfl (by simp) (by first | rfl | simp) (by first | rfl | simp [splice]) (fun h47 O48 => ?_)
    replace O48 : Hold B h47 [(AV.ptr o1 1 0 0, .pt 3 [Sl.enc c37.2.code, iv c37.2.pos, AV.sc (.int .u64 c37.2.seed)]), (x11, obS (c5.1 : Sl Feat)), (x19, obS (c13.1 : Sl Feat)), (x33, obS ((setS (appS (some ([] : List Feat)) (c5.1.getD [])) 0 (⟨c37.1, a43.y, a43.d⟩ : Feat)) : Sl Feat))] := O48
    refine sim_let (v := iv (((c5.1.getD []).length : Nat) : Int)) (O48.tab (A := Feat) (s := c5.1) 1 rfl).len ?_
    refine sim_let (v := iv ((((setS (appS (some ([] : List Feat)) (c5.1.getD [])) 0 (⟨c37.1, a43.y, a43.d⟩ : Feat)).getD []).length : Nat) : Int)) (O48.tab (A := Feat) (s := (setS (appS (some ([] : List Feat)) (c5.1.getD [])) 0 (⟨c37.1, a43.y, a43.d⟩ : Feat))) 3 rfl).len ?_
    refine sim_let (v := iv (wr ((((c5.1.getD []).length : Nat) : Int) - ((((setS (appS (some ([] : List Feat)) (c5.1.getD [])) 0 (⟨c37.1, a43.y, a43.d⟩ : Feat)).getD []).length : Nat) : Int)))) (aBin_sub _ _) ?_
    refine sim_call1 he_spec_l09Size (snapD_int _ _) (fun c49 => ?_)
    refine sim_let2 (hand_plain (by rfl) _ _) ?_
    refine sim_gen he_spec_l00Src_pick (tg_spec_l00Src_pick c37.2 4 (O48.start (i := 0) rfl rfl)) (fun c50 v51 h52 hq53 => ?_)
    obtain ⟨e_v51, O54⟩ := hq53
    dsimp only at e_v51
    subst v51
    have O55 : Hold B h52 [(AV.ptr o1 1 0 0, .pt 3 [Sl.enc c50.2.code, iv c50.2.pos, AV.sc (.int .u64 c50.2.seed)]), (x11, obS (c5.1 : Sl Feat)), (x19, obS (c13.1 : Sl Feat)), (x33, obS ((setS (appS (some ([] : List Feat)) (c5.1.getD [])) 0 (⟨c37.1, a43.y, a43.d⟩ : Feat)) : Sl Feat))] := O48.merge (i := 0) rfl rfl O54
    refine sim_let (v := iv (wr (c49 + c50.1))) (aBin_add _ _) ?_
    have O56 : Hold B h52 [(x11, obS (c5.1 : Sl Feat)), (x33, obS ((setS (appS (some ([] : List Feat)) (c5.1.getD [])) 0 (⟨c37.1, a43.y, a43.d⟩ : Feat)) : Sl Feat))] := O55.sel [1, 3] (by decide) rfl
    exact sim_ret (release_of (by simp only [ids_tup, ids_aggD, ids_agg, ids_iv, ids_bv, ids_sv, ids_bt, ids_nilS, ids_enc, O56.idsD (A := Feat) (s := c5.1) 0 rfl, O56.idsD (A := Feat) (s := (setS (appS (some ([] : List Feat)) (c5.1.getD [])) 0 (⟨c37.1, a43.y, a43.d⟩ : Feat))) 1 rfl, List.map_append, List.map_nil, List.flatMap_cons, List.flatMap_nil, List.append_nil, List.nil_append]; simpa only [List.flatMap_cons, List.flatMap_nil, List.append_nil] using O56.nd2) (by simp only [rel_tup, rel_aggD, rel_agg, rel_iv, rel_bv, rel_sv, rel_bt, rel_nilS, rel_enc, O56.relD (A := Feat) (s := c5.1) 0 rfl, O56.relD (A := Feat) (s := (setS (appS (some ([] : List Feat)) (c5.1.getD [])) 0 (⟨c37.1, a43.y, a43.d⟩ : Feat))) 1 rfl, omapc, omapn, obind_sm] <;> rfl))
  · refine sim_let (v := iv (((c5.1.getD []).length : Nat) : Int)) (O26.tab (A := Feat) (s := c5.1) 1 rfl).len ?_
    refine sim_let (v := iv (((c13.1.getD []).length : Nat) : Int)) (O26.tab (A := Feat) (s := c13.1) 2 rfl).len ?_
    refine sim_let (v := iv (wr ((((c5.1.getD []).length : Nat) : Int) - (((c13.1.getD []).length : Nat) : Int)))) (aBin_sub _ _) ?_
    refine sim_call1 he_spec_l09Size (snapD_int _ _) (fun c57 => ?_)
    refine sim_let2 (hand_plain (by rfl) _ _) ?_
    refine sim_gen he_spec_l00Src_pick (tg_spec_l00Src_pick c21.2 4 (O26.start (i := 0) rfl rfl)) (fun c58 v59 h60 hq61 => ?_)
    obtain ⟨e_v59, O62⟩ := hq61
    dsimp only at e_v59
    subst v59
    have O63 : Hold B h60 [(AV.ptr o1 1 0 0, .pt 3 [Sl.enc c58.2.code, iv c58.2.pos, AV.sc (.int .u64 c58.2.seed)]), (x11, obS (c5.1 : Sl Feat)), (x19, obS (c13.1 : Sl Feat))] := O26.merge (i := 0) rfl rfl O62
    refine sim_let (v := iv (wr (c57 + c58.1))) (aBin_add _ _) ?_
    have O64 : Hold B h60 [(x11, obS (c5.1 : Sl Feat)), (x19, obS (c13.1 : Sl Feat))] := O63.sel [1, 2] (by decide) rfl
    exact sim_ret (release_of (by simp only [ids_tup, ids_aggD, ids_agg, ids_iv, ids_bv, ids_sv, ids_bt, ids_nilS, ids_enc, O64.idsD (A := Feat) (s := c5.1) 0 rfl, O64.idsD (A := Feat) (s := c13.1) 1 rfl, List.map_append, List.map_nil, List.flatMap_cons, List.flatMap_nil, List.append_nil, List.nil_append]; simpa only [List.flatMap_cons, List.flatMap_nil, List.append_nil] using O64.nd2) (by simp only [rel_tup, rel_aggD, rel_agg, rel_iv, rel_bv, rel_sv, rel_bt, rel_nilS, rel_enc, O64.relD (A := Feat) (s := c5.1) 0 rfl, O64.relD (A := Feat) (s := c13.1) 1 rfl, omapc, omapn, obind_sm] <;> rfl))
theorem tt_spec_A2Two : PureOK Try.prog n_spec_A2Two (C1 (fun c : (Sl Feat) × (Sl Feat) × Int => AV.tup [rS c.1, rS c.2.1, enc c.2.2]) t_spec_A2Two) := pureC1 (Econs tt_spec_l00From (EconsG (gen_of_den eo_spec_l00Src_one mixed hb_spec_l00Src_one) (EconsG (gen_of_den eo_spec_l00Src_pick mixed hb_spec_l00Src_pick) (EconsG (gen_of_den eo_spec_l09Draw mixed hb_spec_l09Draw) (Econs tt_spec_l09Size E0))))) mixed hb_spec_A2Two fun code_ => ts_spec_A2Two _ (by simp [envL]) (by simp [envL]) (by simp [envL]) (by simp [envL]) (by simp [envL]) code_

def s0_slices_IndexFunc_impl_Feat_impl_Feat (p_ : Feat → Option Bool) (s_ : Sl Feat) : Int → Option (Sum Int (Sum Unit Int)) := fun w3 =>
  bif decide (w3 < (((s_.getD []).length : Nat) : Int)) then
    obind (getI (s_.getD []) w3) fun a13 =>
    obind (p_ a13) fun c17 =>
    bif c17 then
      some (.inr (.inr w3))
    else
      some (.inl (wr (w3 + 1)))
  else
    some (.inr (.inl ()))
def t_slices_IndexFunc_impl_Feat_impl_Feat (p_ : Feat → Option Bool) (s_ : Sl Feat) : Option Int :=
  obind (loopT (s0_slices_IndexFunc_impl_Feat_impl_Feat p_ s_) 0) fun qq26 => match qq26 with
  | (.inl _) =>
      some (-1)
  | (.inr q10) =>
      some q10

theorem tl0_slices_IndexFunc_impl_Feat_impl_Feat (env : Nat → Contract) {B : Base} {K : Type} [Cod K] {g : Nat} {caps : K → List AV} {P : K → Feat → Option Bool} (hp : ∀ k (a : Feat) h, Sim (aCall (env g) (AV.agg (Row.cells a) :: caps k) h) (P k a) fun b r => r = (bv b, h))  (s_ : Sl Feat) (f_ : K)  {st : Int} {tm : TM} {h : Heap} (R : (fun (st : Int) tm h1 => match st with | w3 => tm = [Sl.enc s_, AV.fn g (caps f_), und, und, AV.top, AV.top, Sl.enc s_, iv (((s_.getD []).length : Nat) : Int), iv w3, AV.top, AV.top, AV.top, AV.top, AV.top, AV.top, AV.top, AV.top, AV.top, AV.top] ∧ Hold B h1 []) st tm h) : Sim (loopP hm0_slices_IndexFunc_impl_Feat_impl_Feat xm0_slices_IndexFunc_impl_Feat_impl_Feat (lb0_slices_IndexFunc_impl_Feat_impl_Feat env) tm h) (loopT (s0_slices_IndexFunc_impl_Feat_impl_Feat (P f_) s_) st) (fun (q : Sum Unit Int) (r : Res) => match q with | .inl _ => ∃ (z6 : AV) (z7 : AV) (h4 : Heap), r = (.exit 0, [Sl.enc s_, AV.fn g (caps f_), und, und, z6, z7, Sl.enc s_, iv (((s_.getD []).length : Nat) : Int), AV.top, AV.top, AV.top, AV.top, AV.top, AV.top, AV.top, AV.top, AV.top, AV.top, AV.top], h4) ∧ Hold B h4 [] | .inr q10 => ∃ (q11 : Int) (h8 : Heap), r = (.ret, [Sl.enc s_, AV.fn g (caps f_), und, und, iv q10, iv q11, Sl.enc s_, iv (((s_.getD []).length : Nat) : Int), AV.top, AV.top, AV.top, AV.top, AV.top, AV.top, AV.top, AV.top, AV.top, AV.top, AV.top], h8) ∧ Hold B h8 []) := by
  refine loop_sim (Rel := fun (st : Int) tm h1 => match st with | w3 => tm = [Sl.enc s_, AV.fn g (caps f_), und, und, AV.top, AV.top, Sl.enc s_, iv (((s_.getD []).length : Nat) : Int), iv w3, AV.top, AV.top, AV.top, AV.top, AV.top, AV.top, AV.top, AV.top, AV.top, AV.top] ∧ Hold B h1 []) (fun w3 tm h1 R => ?_) R
  obtain ⟨rfl, O2⟩ := R
  rw [e_lb0_slices_IndexFunc_impl_Feat_impl_Feat]
  unfold s0_slices_IndexFunc_impl_Feat_impl_Feat
  dsimp only
  refine sim_let (v := bv (decide (w3 < (((s_.getD []).length : Nat) : Int)))) (aBin_lss _ _) ?_
  refine sim_cond (fun c12 => ?_) (fun c12 => ?_)
  · refine sim_get (Tab.enc h1 s_) (fun m14 a13 hi15 hm16 => ?_)
    refine sim_let (v := AV.agg [iv a13.x, iv a13.y, iv a13.d]) ((Tab.enc h1 s_).ld hm16 true 3 0) ?_
    refine sim_bind2 (hp f_ a13 _) (fun c17 v18 hh19 hq20 => ?_)
    cases hq20
    refine sim_cond (fun c21 => ?_) (fun c21 => ?_)
    · exact sim_ret ⟨nofun, _, _, rfl, O2⟩
    · refine sim_let (v := iv (wr (w3 + 1))) (aBin_add _ _) ?_
      exact sim_ret ⟨rfl, rfl, O2⟩
  · exact sim_ret ⟨nofun, _, _, _, rfl, O2⟩
theorem ts_slices_IndexFunc_impl_Feat_impl_Feat (env : Nat → Contract) {K : Type} [Cod K] {g : Nat} {caps : K → List AV} {P : K → Feat → Option Bool} (hp : ∀ k (a : Feat) h, Sim (aCall (env g) (AV.agg (Row.cells a) :: caps k) h) (P k a) fun b r => r = (bv b, h))  (s_ : Sl Feat) (f_ : K) : Sim (denFn Try.prog env n_slices_IndexFunc_impl_Feat_impl_Feat [Sl.enc s_, AV.fn g (caps f_)] []) (t_slices_IndexFunc_impl_Feat_impl_Feat (P f_) s_) fun c p => release p.2 depth p.1 = some ((fun c : Int => enc c) c) := by
  have O := Hold.nil []
  generalize hB : (⟨[], []⟩ : Base) = B at O
  clear hB
  rw [e_slices_IndexFunc_impl_Feat_impl_Feat]
  unfold t_slices_IndexFunc_impl_Feat_impl_Feat
  refine sim_let (v := iv (((s_.getD []).length : Nat) : Int)) (Tab.enc [] s_).len ?_
  refine sim_bind ((tl0_slices_IndexFunc_impl_Feat_impl_Feat env hp s_ f_) ⟨rfl, O⟩) (fun qq26 r hq => ?_)
  rcases qq26 with _ | q10
  · obtain ⟨z6, z7, h4, rfl, O5⟩ := hq
    rw [e_lk0x0_slices_IndexFunc_impl_Feat_impl_Feat]
    exact sim_ret (release_plain (by rfl) _)
  · obtain ⟨q11, h8, rfl, O9⟩ := hq
    rw [e_lk0r_slices_IndexFunc_impl_Feat_impl_Feat]
    exact sim_ret (release_plain (by rfl) _)
theorem tt0_slices_IndexFunc_impl_Feat_impl_Feat {g : Nat} {t : Feat → Option Bool} (hg : PureOK Try.prog g (C1 (fun c : Bool => enc c) t)) : PureOK Try.prog n_slices_IndexFunc_impl_Feat_impl_Feat (C2 (fun c : Int => enc c) (fun (q : Sl Feat) (k : Clo0 g) => t_slices_IndexFunc_impl_Feat_impl_Feat ((fun _ : Clo0 g => t) k) q)) := pureC2 (Econs hg E0) mixed hb_slices_IndexFunc_impl_Feat_impl_Feat fun q k => ts_slices_IndexFunc_impl_Feat_impl_Feat _ (caps := fun _ => []) (P := (fun _ : Clo0 g => t)) (fun k a h => callP0 (by simp [envL]) (snapD_nr _ a rfl)) q k
theorem tt1_slices_IndexFunc_impl_Feat_impl_Feat {g : Nat} {X : Type} [Row X] {tp : Feat → Pt X → Option Bool} (hg : PureOK Try.prog g (C2 (fun c : Bool => enc c) tp)) : PureOK Try.prog n_slices_IndexFunc_impl_Feat_impl_Feat (C2 (fun c : Int => enc c) (fun (q : Sl Feat) (k : Clo g (Pt X)) => t_slices_IndexFunc_impl_Feat_impl_Feat ((fun (k : Clo g (Pt X)) a => tp a k.val) k) q)) := pureC2 (Econs hg E0) mixed hb_slices_IndexFunc_impl_Feat_impl_Feat fun q k => ts_slices_IndexFunc_impl_Feat_impl_Feat _ (caps := fun k : Clo g (Pt X) => [enc k.val]) (P := (fun (k : Clo g (Pt X)) a => tp a k.val)) (fun k a h => callP1 (by simp [envL]) (snapD_nr _ a rfl) (snapD_fptr _ _ _ _ rfl)) q k

def t_slices_ContainsFunc_impl_Feat_impl_Feat (p_ : Feat → Option Bool) (s_ : Sl Feat) : Option Bool :=
  obind (t_slices_IndexFunc_impl_Feat_impl_Feat p_ s_) fun c1 =>
  some (decide (0 ≤ c1))

theorem ts_slices_ContainsFunc_impl_Feat_impl_Feat (env : Nat → Contract) {K : Type} [Cod K] {g : Nat} {caps : K → List AV} {P : K → Feat → Option Bool} (hs : ∀ k h, snapD h (AV.fn g (caps k)) = some k) (he_slices_IndexFunc_impl_Feat_impl_Feat : env n_slices_IndexFunc_impl_Feat_impl_Feat = .pure (C2 (fun c : Int => enc c) (fun (q : Sl Feat) (k : K) => t_slices_IndexFunc_impl_Feat_impl_Feat (P k) q))) (s_ : Sl Feat) (f_ : K) : Sim (denFn Try.prog env n_slices_ContainsFunc_impl_Feat_impl_Feat [Sl.enc s_, AV.fn g (caps f_)] []) (t_slices_ContainsFunc_impl_Feat_impl_Feat (P f_) s_) fun c p => release p.2 depth p.1 = some ((fun c : Bool => enc c) c) := by
  have O := Hold.nil []
  generalize hB : (⟨[], []⟩ : Base) = B at O
  clear hB
  rw [e_slices_ContainsFunc_impl_Feat_impl_Feat]
  unfold t_slices_ContainsFunc_impl_Feat_impl_Feat
  refine sim_call2 (t := fun (q : Sl Feat) (k : K) => t_slices_IndexFunc_impl_Feat_impl_Feat (P k) q) he_slices_IndexFunc_impl_Feat_impl_Feat (snapD_enc _ _) (hs f_ _) (fun c1 => ?_)
  refine sim_let2 (hand_plain (by rfl) _ _) ?_
  refine sim_let (v := bv (decide (0 ≤ c1))) (aBin_geq _ _) ?_
  exact sim_ret (release_plain (by rfl) _)
theorem tt0_slices_ContainsFunc_impl_Feat_impl_Feat {g : Nat} {t : Feat → Option Bool} (hg : PureOK Try.prog g (C1 (fun c : Bool => enc c) t)) : PureOK Try.prog n_slices_ContainsFunc_impl_Feat_impl_Feat (C2 (fun c : Bool => enc c) (fun (q : Sl Feat) (k : Clo0 g) => t_slices_ContainsFunc_impl_Feat_impl_Feat ((fun _ : Clo0 g => t) k) q)) := pureC2 (Econs (tt0_slices_IndexFunc_impl_Feat_impl_Feat hg) E0) mixed hb_slices_ContainsFunc_impl_Feat_impl_Feat fun q k => ts_slices_ContainsFunc_impl_Feat_impl_Feat _ (caps := fun _ => []) (P := (fun _ : Clo0 g => t)) (fun k h => snapD_clo0 h g) (by simp [envL]) q k
theorem tt1_slices_ContainsFunc_impl_Feat_impl_Feat {g : Nat} {X : Type} [Row X] {tp : Feat → Pt X → Option Bool} (hg : PureOK Try.prog g (C2 (fun c : Bool => enc c) tp)) : PureOK Try.prog n_slices_ContainsFunc_impl_Feat_impl_Feat (C2 (fun c : Bool => enc c) (fun (q : Sl Feat) (k : Clo g (Pt X)) => t_slices_ContainsFunc_impl_Feat_impl_Feat ((fun (k : Clo g (Pt X)) a => tp a k.val) k) q)) := pureC2 (Econs (tt1_slices_IndexFunc_impl_Feat_impl_Feat hg) E0) mixed hb_slices_ContainsFunc_impl_Feat_impl_Feat fun q k => ts_slices_ContainsFunc_impl_Feat_impl_Feat _ (caps := fun k : Clo g (Pt X) => [enc k.val]) (P := (fun (k : Clo g (Pt X)) a => tp a k.val)) (fun k h => snapD_cloE h k) (by simp [envL]) q k

def t_impl_ValidFeat (f_ : Feat) : Option Bool :=
  obind (some (within f_.x 0 255)) fun c5 =>
  obind (bif c5 then (obind (some (within f_.y 0 255)) fun c7 => some c7) else some false) fun c8 =>
  obind (bif (bif c5 then c8 else false) then (obind (some (within f_.d 0 7)) fun c10 => some c10) else some false) fun c11 =>
  some (bif (bif c5 then c8 else false) then c11 else false)

theorem ts_impl_ValidFeat (env : Nat → Contract) (he_impl_within : env n_impl_within = .pure (T3 within)) (f_ : Feat) : Sim (denFn Try.prog env n_impl_ValidFeat [AV.agg [iv f_.x, iv f_.y, iv f_.d]] []) (t_impl_ValidFeat f_) fun c p => release p.2 depth p.1 = some ((fun c : Bool => enc c) c) := by
  have O := Hold.nil []
  generalize hB : (⟨[], []⟩ : Base) = B at O
  clear hB
  rw [e_impl_ValidFeat]
  unfold t_impl_ValidFeat
  refine sim_box O (cs := [iv f_.x, iv f_.y, iv f_.d]) (by first | rfl | simp) (fun o1 h2 O3 => ?_)
  replace O3 : Hold B h2 [(AV.ptr o1 1 0 0, .pt 3 [iv f_.x, iv f_.y, iv f_.d])] := O3
  refine sim_let (v := AV.ptr o1 1 0 0) rfl ?_
  refine sim_let (v := iv f_.x) (O3.ld 0 rfl false 1 0) ?_
  refine sim_callV3 he_impl_within (snapD_int _ _) (snapD_int _ _) (snapD_int _ _) (fun c5 => ?_)
  refine sim_guardT (e := bv) (fun hb6 => ?_) (fun c8 => ?_)
  · refine sim_let (v := AV.ptr o1 1 0 1) rfl ?_
    refine sim_let (v := iv f_.y) (O3.ld 0 rfl false 1 1) ?_
    refine sim_callV3 he_impl_within (snapD_int _ _) (snapD_int _ _) (snapD_int _ _) (fun c7 => ?_)
    exact sim_ret rfl
  · refine sim_let (v := bv (bif c5 then c8 else false)) (pick_b _ _ _) ?_
    refine sim_guardT (e := bv) (fun hb9 => ?_) (fun c11 => ?_)
    · refine sim_let (v := AV.ptr o1 1 0 2) rfl ?_
      refine sim_let (v := iv f_.d) (O3.ld 0 rfl false 1 2) ?_
      refine sim_callV3 he_impl_within (snapD_int _ _) (snapD_int _ _) (snapD_int _ _) (fun c10 => ?_)
      exact sim_ret rfl
    · refine sim_let (v := bv (bif (bif c5 then c8 else false) then c11 else false)) (pick_b _ _ _) ?_
      exact sim_ret (release_plain (by rfl) _)
theorem tt_impl_ValidFeat : PureOK Try.prog n_impl_ValidFeat (C1 (fun c : Bool => enc c) t_impl_ValidFeat) := pureC1 (Econs ok_impl_within E0) mixed hb_impl_ValidFeat fun f_ => ts_impl_ValidFeat _ (by simp [envL]) f_

def t_impl_areFeats_1 (f_ : Feat) : Option Bool :=
  obind (t_impl_ValidFeat f_) fun c5 =>
  some (!c5)

theorem ts_impl_areFeats_1 (env : Nat → Contract) (he_impl_ValidFeat : env n_impl_ValidFeat = .pure (C1 (fun c : Bool => enc c) t_impl_ValidFeat)) (f_ : Feat) : Sim (denFn Try.prog env n_impl_areFeats_1 [AV.agg [iv f_.x, iv f_.y, iv f_.d]] []) (t_impl_areFeats_1 f_) fun c p => release p.2 depth p.1 = some ((fun c : Bool => enc c) c) := by
  have O := Hold.nil []
  generalize hB : (⟨[], []⟩ : Base) = B at O
  clear hB
  rw [e_impl_areFeats_1]
  unfold t_impl_areFeats_1
  refine sim_box O (cs := [iv f_.x, iv f_.y, iv f_.d]) (by first | rfl | simp) (fun o1 h2 O3 => ?_)
  replace O3 : Hold B h2 [(AV.ptr o1 1 0 0, .pt 3 [iv f_.x, iv f_.y, iv f_.d])] := O3
  refine sim_let (v := AV.agg [iv f_.x, iv f_.y, iv f_.d]) (O3.ld 0 rfl true 3 0) ?_
  refine sim_call1 he_impl_ValidFeat (snapD_nr _ f_ rfl) (fun c5 => ?_)
  refine sim_let2 (hand_plain (by rfl) _ _) ?_
  refine sim_let (v := bv (!c5)) (aUn_not _) ?_
  exact sim_ret (release_plain (by rfl) _)
theorem tt_impl_areFeats_1 : PureOK Try.prog n_impl_areFeats_1 (C1 (fun c : Bool => enc c) t_impl_areFeats_1) := pureC1 (Econs tt_impl_ValidFeat E0) mixed hb_impl_areFeats_1 fun f_ => ts_impl_areFeats_1 _ (by simp [envL]) f_

def t_impl_areFeats (list_ : Sl Feat) (most_ : Int) : Option Bool :=
  obind (bif decide (1 ≤ (((list_.getD []).length : Nat) : Int)) then (some (decide ((((list_.getD []).length : Nat) : Int) ≤ most_))) else some false) fun c2 =>
  obind (bif (bif decide (1 ≤ (((list_.getD []).length : Nat) : Int)) then c2 else false) then (obind (t_slices_ContainsFunc_impl_Feat_impl_Feat t_impl_areFeats_1 list_) fun c4 => some (!c4)) else some false) fun c5 =>
  some (bif (bif decide (1 ≤ (((list_.getD []).length : Nat) : Int)) then c2 else false) then c5 else false)

theorem ts_impl_areFeats (env : Nat → Contract) (he_slices_ContainsFunc_impl_Feat_impl_Feat : env n_slices_ContainsFunc_impl_Feat_impl_Feat = .pure (C2 (fun c : Bool => enc c) (fun (q : Sl Feat) (k : Clo0 n_impl_areFeats_1) => t_slices_ContainsFunc_impl_Feat_impl_Feat ((fun _ : Clo0 n_impl_areFeats_1 => t_impl_areFeats_1) k) q))) (list_ : Sl Feat) (most_ : Int) : Sim (denFn Try.prog env n_impl_areFeats [Sl.enc list_, iv most_] []) (t_impl_areFeats list_ most_) fun c p => release p.2 depth p.1 = some ((fun c : Bool => enc c) c) := by
  have O := Hold.nil []
  generalize hB : (⟨[], []⟩ : Base) = B at O
  clear hB
  rw [e_impl_areFeats]
  unfold t_impl_areFeats
  refine sim_let (v := iv (((list_.getD []).length : Nat) : Int)) (Tab.enc [] list_).len ?_
  refine sim_let (v := bv (decide (1 ≤ (((list_.getD []).length : Nat) : Int)))) (aBin_geq _ _) ?_
  refine sim_guardT (e := bv) (fun hb1 => ?_) (fun c2 => ?_)
  · refine sim_let (v := iv (((list_.getD []).length : Nat) : Int)) (Tab.enc [] list_).len ?_
    refine sim_let (v := bv (decide ((((list_.getD []).length : Nat) : Int) ≤ most_))) (aBin_leq _ _) ?_
    exact sim_ret rfl
  · refine sim_let (v := bv (bif decide (1 ≤ (((list_.getD []).length : Nat) : Int)) then c2 else false)) (pick_b _ _ _) ?_
    refine sim_guardT (e := bv) (fun hb3 => ?_) (fun c5 => ?_)
    · refine sim_call2 (t := fun (q : Sl Feat) (k : Clo0 n_impl_areFeats_1) => t_slices_ContainsFunc_impl_Feat_impl_Feat ((fun _ : Clo0 n_impl_areFeats_1 => t_impl_areFeats_1) k) q) he_slices_ContainsFunc_impl_Feat_impl_Feat (snapD_enc _ _) (snapD_clo0 _ _) (fun c4 => ?_)
      refine sim_let2 (hand_plain (by rfl) _ _) ?_
      refine sim_let (v := bv (!c4)) (aUn_not _) ?_
      exact sim_ret rfl
    · refine sim_let (v := bv (bif (bif decide (1 ≤ (((list_.getD []).length : Nat) : Int)) then c2 else false) then c5 else false)) (pick_b _ _ _) ?_
      exact sim_ret (release_plain (by rfl) _)
theorem tt_impl_areFeats : PureOK Try.prog n_impl_areFeats (C2 (fun c : Bool => enc c) t_impl_areFeats) := pureC2 (Econs (tt0_slices_ContainsFunc_impl_Feat_impl_Feat tt_impl_areFeats_1) E0) mixed hb_impl_areFeats fun list_ most_ => ts_impl_areFeats _ (by simp [envL]) list_ most_

def t_impl_ValidSeq (list_ : Sl Feat) : Option Bool :=
  obind (t_impl_areFeats list_ 72) fun c1 =>
  some c1

theorem ts_impl_ValidSeq (env : Nat → Contract) (he_impl_areFeats : env n_impl_areFeats = .pure (C2 (fun c : Bool => enc c) t_impl_areFeats)) (list_ : Sl Feat) : Sim (denFn Try.prog env n_impl_ValidSeq [Sl.enc list_] []) (t_impl_ValidSeq list_) fun c p => release p.2 depth p.1 = some ((fun c : Bool => enc c) c) := by
  have O := Hold.nil []
  generalize hB : (⟨[], []⟩ : Base) = B at O
  clear hB
  rw [e_impl_ValidSeq]
  unfold t_impl_ValidSeq
  refine sim_call2 he_impl_areFeats (snapD_enc _ _) (snapD_int _ _) (fun c1 => ?_)
  refine sim_let2 (hand_plain (by rfl) _ _) ?_
  exact sim_ret (release_plain (by rfl) _)
theorem tt_impl_ValidSeq : PureOK Try.prog n_impl_ValidSeq (C1 (fun c : Bool => enc c) t_impl_ValidSeq) := pureC1 (Econs tt_impl_areFeats E0) mixed hb_impl_ValidSeq fun list_ => ts_impl_ValidSeq _ (by simp [envL]) list_

def s0_spec_A2Path (n_ : Int) (m_ : Int) : ((Sl UInt8) × Int × Int × (Sl Pair) × Int × Int) → Option (Sum ((Sl UInt8) × Int × Int × (Sl Pair) × Int × Int) (Sl Pair)) := fun (w9, w10, w11, w13, w16, w17) =>
  obind (bif decide (w16 < (wr (n_ - 1))) then some false else (some (decide (w17 < (wr (m_ - 1)))))) fun c29 =>
  bif (bif decide (w16 < (wr (n_ - 1))) then true else c29) then
    obind (t_spec_l00Src_pick (⟨w9, w10, w11⟩ : l00Src) 3) fun c31 =>
    obind (bif decide (w17 = wr (m_ - 1)) then some false else (some (decide (w16 < (wr (n_ - 1)))))) fun c38 =>
    obind (bif (!(decide (w17 = wr (m_ - 1))) && c38) then (some (!decide (c31.1 = 1))) else some false) fun c40 =>
    obind (bif decide (w17 = wr (m_ - 1)) then some false else (some (bif c38 then c40 else false))) fun c42 =>
    bif (bif decide (w17 = wr (m_ - 1)) then true else c42) then
      obind (bif !decide (c31.1 = 0) then some false else (some (decide (wr (w16 + 1) = wr (n_ - 1))))) fun c45 =>
      obind (bif (bif !decide (c31.1 = 0) then true else c45) then (some (decide (w17 < (wr (m_ - 1))))) else some false) fun c47 =>
      bif (bif (bif !decide (c31.1 = 0) then true else c45) then c47 else false) then
        obind (getI (w13.getD []) (wr ((((w13.getD []).length : Nat) : Int) - 1))) fun a49 =>
        bif !decide (a49 = (⟨wr (w16 + 1), wr (w17 + 1)⟩ : Pair)) then
          obind (appO w13 ([(⟨wr (w16 + 1), wr (w17 + 1)⟩ : Pair)] : List Pair)) fun _ =>
          some (.inl (c31.2.code, c31.2.pos, c31.2.seed, (appS w13 ([(⟨wr (w16 + 1), wr (w17 + 1)⟩ : Pair)] : List Pair)), wr (w16 + 1), wr (w17 + 1)))
        else
          some (.inl (c31.2.code, c31.2.pos, c31.2.seed, w13, wr (w16 + 1), wr (w17 + 1)))
      else
        obind (getI (w13.getD []) (wr ((((w13.getD []).length : Nat) : Int) - 1))) fun a66 =>
        bif !decide (a66 = (⟨wr (w16 + 1), w17⟩ : Pair)) then
          obind (appO w13 ([(⟨wr (w16 + 1), w17⟩ : Pair)] : List Pair)) fun _ =>
          some (.inl (c31.2.code, c31.2.pos, c31.2.seed, (appS w13 ([(⟨wr (w16 + 1), w17⟩ : Pair)] : List Pair)), wr (w16 + 1), w17))
        else
          some (.inl (c31.2.code, c31.2.pos, c31.2.seed, w13, wr (w16 + 1), w17))
    else
      obind (bif !decide (c31.1 = 0) then some false else (some (decide (w16 = wr (n_ - 1))))) fun c84 =>
      obind (bif (bif !decide (c31.1 = 0) then true else c84) then (some (decide (w17 < (wr (m_ - 1))))) else some false) fun c86 =>
      bif (bif (bif !decide (c31.1 = 0) then true else c84) then c86 else false) then
        obind (getI (w13.getD []) (wr ((((w13.getD []).length : Nat) : Int) - 1))) fun a88 =>
        bif !decide (a88 = (⟨w16, wr (w17 + 1)⟩ : Pair)) then
          obind (appO w13 ([(⟨w16, wr (w17 + 1)⟩ : Pair)] : List Pair)) fun _ =>
          some (.inl (c31.2.code, c31.2.pos, c31.2.seed, (appS w13 ([(⟨w16, wr (w17 + 1)⟩ : Pair)] : List Pair)), w16, wr (w17 + 1)))
        else
          some (.inl (c31.2.code, c31.2.pos, c31.2.seed, w13, w16, wr (w17 + 1)))
      else
        obind (getI (w13.getD []) (wr ((((w13.getD []).length : Nat) : Int) - 1))) fun a105 =>
        bif !decide (a105 = (⟨w16, w17⟩ : Pair)) then
          obind (appO w13 ([(⟨w16, w17⟩ : Pair)] : List Pair)) fun _ =>
          some (.inl (c31.2.code, c31.2.pos, c31.2.seed, (appS w13 ([(⟨w16, w17⟩ : Pair)] : List Pair)), w16, w17))
        else
          some (.inl (c31.2.code, c31.2.pos, c31.2.seed, w13, w16, w17))
  else
    some (.inr w13)
def t_spec_A2Path (code_ : Sl UInt8) (n_ : Int) (m_ : Int) : Option (Sl Pair) :=
  obind (loopT (s0_spec_A2Path n_ m_) (code_, 0, 0, (some ([(⟨0, 0⟩ : Pair)] : List Pair)), 0, 0)) fun q24 =>
  some q24

theorem tl0_spec_A2Path (env : Nat → Contract) {B : Base} (he_spec_l00From : env n_spec_l00From = .pure (C1 fromA (fun q : Sl UInt8 => some q))) (he_spec_l00Src_pick : env n_spec_l00Src_pick = .gen (denFn Try.prog ev_spec_l00Src_pick n_spec_l00Src_pick)) (code_ : Sl UInt8) (n_ : Int) (m_ : Int) (o1 : Nat) (x5 : AV)  {st : (Sl UInt8) × Int × Int × (Sl Pair) × Int × Int} {tm : TM} {h : Heap} (R : (fun (st : (Sl UInt8) × Int × Int × (Sl Pair) × Int × Int) tm h14 => match st with | (w9, w10, w11, w13, w16, w17) => ∃ z12, tm = [Sl.enc code_, iv n_, iv m_, und, und, und, nilS, AV.ptr o1 1 0 0, iv w16, iv w17, z12, AV.top, Sl.enc code_, AV.ptr o1 1 0 0, AV.agg [iv 0, iv 0], x5, AV.top, AV.top, AV.top, AV.top, AV.top, AV.top, AV.top, AV.top, AV.top, AV.top, AV.top, AV.top, AV.top, AV.top, AV.top, AV.top, AV.top, AV.top, AV.top, AV.top, AV.top, AV.top, AV.top, AV.top, AV.top, AV.top, AV.top, AV.top, AV.top, AV.top, AV.top, AV.top, AV.top, AV.top, AV.top, AV.top, AV.top, AV.top, AV.top, AV.top, AV.top, AV.top, AV.top, AV.top, AV.top, AV.top, AV.top, AV.top, AV.top, AV.top, AV.top, AV.top, AV.top, AV.top, AV.top, AV.top, AV.top, AV.top, AV.top, AV.top, und] ∧ Hold B h14 [(AV.ptr o1 1 0 0, .pt 3 [Sl.enc w9, iv w10, AV.sc (.int .u64 w11)]), (z12, obS (w13 : Sl Pair))]) st tm h) : Sim (loopP hm0_spec_A2Path xm0_spec_A2Path (lb0_spec_A2Path env) tm h) (loopT (s0_spec_A2Path n_ m_) st) (fun (q : Sl Pair) (r : Res) => match q with | q24 => ∃ (q20 : Sl UInt8) (q21 : Int) (q22 : Int) (q25 : Int) (q26 : Int) (z23 : AV) (z27 : AV) (h18 : Heap), r = (.exit 0, [Sl.enc code_, iv n_, iv m_, und, und, und, nilS, AV.ptr o1 1 0 0, iv q25, iv q26, z23, z27, Sl.enc code_, AV.ptr o1 1 0 0, AV.agg [iv 0, iv 0], x5, AV.top, AV.top, AV.top, AV.top, AV.top, AV.top, AV.top, AV.top, AV.top, AV.top, AV.top, AV.top, AV.top, AV.top, AV.top, AV.top, AV.top, AV.top, AV.top, AV.top, AV.top, AV.top, AV.top, AV.top, AV.top, AV.top, AV.top, AV.top, AV.top, AV.top, AV.top, AV.top, AV.top, AV.top, AV.top, AV.top, AV.top, AV.top, AV.top, AV.top, AV.top, AV.top, AV.top, AV.top, AV.top, AV.top, AV.top, AV.top, AV.top, AV.top, AV.top, AV.top, AV.top, AV.top, AV.top, AV.top, AV.top, AV.top, AV.top, AV.top, und], h18) ∧ Hold B h18 [(AV.ptr o1 1 0 0, .pt 3 [Sl.enc q20, iv q21, AV.sc (.int .u64 q22)]), (z23, obS (q24 : Sl Pair))]) := by
  refine loop_sim (Rel := fun (st : (Sl UInt8) × Int × Int × (Sl Pair) × Int × Int) tm h14 => match st with | (w9, w10, w11, w13, w16, w17) => ∃ z12, tm = [Sl.enc code_, iv n_, iv m_, und, und, und, nilS, AV.ptr o1 1 0 0, iv w16, iv w17, z12, AV.top, Sl.enc code_, AV.ptr o1 1 0 0, AV.agg [iv 0, iv 0], x5, AV.top, AV.top, AV.top, AV.top, AV.top, AV.top, AV.top, AV.top, AV.top, AV.top, AV.top, AV.top, AV.top, AV.top, AV.top, AV.top, AV.top, AV.top, AV.top, AV.top, AV.top, AV.top, AV.top, AV.top, AV.top, AV.top, AV.top, AV.top, AV.top, AV.top, AV.top, AV.top, AV.top, AV.top, AV.top, AV.top, AV.top, AV.top, AV.top, AV.top, AV.top, AV.top, AV.top, AV.top, AV.top, AV.top, AV.top, AV.top, AV.top, AV.top, AV.top, AV.top, AV.top, AV.top, AV.top, AV.top, AV.top, AV.top, AV.top, AV.top, und] ∧ Hold B h14 [(AV.ptr o1 1 0 0, .pt 3 [Sl.enc w9, iv w10, AV.sc (.int .u64 w11)]), (z12, obS (w13 : Sl Pair))]) (fun st tm h14 R => ?_) R
  obtain ⟨w9, w10, w11, w13, w16, w17⟩ := st
  obtain ⟨z12, rfl, O15⟩ := R
  rw [e_lb0_spec_A2Path]
  unfold s0_spec_A2Path
  dsimp only
  refine sim_let (v := iv (wr (n_ - 1))) (aBin_sub _ _) ?_
  refine sim_let (v := bv (decide (w16 < (wr (n_ - 1))))) (aBin_lss _ _) ?_
  refine sim_guardF (e := bv) (fun hb28 => ?_) (fun c29 => ?_)
  · refine sim_let (v := iv (wr (m_ - 1))) (aBin_sub _ _) ?_
    refine sim_let (v := bv (decide (w17 < (wr (m_ - 1))))) (aBin_lss _ _) ?_
    exact sim_ret rfl
  · refine sim_let (v := bv (bif decide (w16 < (wr (n_ - 1))) then true else c29)) (pick_b' _ _ _) ?_
    refine sim_cond (fun c30 => ?_) (fun c30 => ?_)
    · refine sim_gen he_spec_l00Src_pick (tg_spec_l00Src_pick (⟨w9, w10, w11⟩ : l00Src) 3 (O15.start (i := 0) rfl rfl)) (fun c31 v32 h33 hq34 => ?_)
      obtain ⟨e_v32, O35⟩ := hq34
      dsimp only at e_v32
      subst v32
      have O36 : Hold B h33 [(AV.ptr o1 1 0 0, .pt 3 [Sl.enc c31.2.code, iv c31.2.pos, AV.sc (.int .u64 c31.2.seed)]), (z12, obS (w13 : Sl Pair))] := O15.merge (i := 0) rfl rfl O35
      refine sim_let (v := iv (wr (m_ - 1))) (aBin_sub _ _) ?_
      refine sim_let (v := bv (decide (w17 = wr (m_ - 1)))) (aCmp_eq _ _) ?_
      refine sim_guardF (e := bv) (fun hb37 => ?_) (fun c38 => ?_)
      · refine sim_let (v := iv (wr (n_ - 1))) (aBin_sub _ _) ?_
        refine sim_let (v := bv (decide (w16 < (wr (n_ - 1))))) (aBin_lss _ _) ?_
        exact sim_ret rfl
      · simp only [gv_FT]
        refine sim_guardT (e := bv) (fun hb39 => ?_) (fun c40 => ?_)
        · refine sim_let (v := bv (!decide (c31.1 = 1))) (aCmp_ne _ _) ?_
          exact sim_ret rfl
        · refine sim_guardF (e := bv) (fun hb41 => ?_) (fun c42 => ?_)
          · simp only [hb41, cond_true, cond_false, Bool.not_true, Bool.not_false, Bool.true_and, Bool.and_true, Bool.false_and, Bool.not_not]
            refine sim_let (v := bv (bif c38 then c40 else false)) (pick_b _ _ _) ?_
            exact sim_ret rfl
          · refine sim_let (v := bv (bif decide (w17 = wr (m_ - 1)) then true else c42)) (pick_b' _ _ _) ?_
            refine sim_cond (fun c43 => ?_) (fun c43 => ?_)
            · refine sim_let (v := iv (wr (w16 + 1))) (aBin_add _ _) ?_
              refine sim_let (v := bv (!decide (c31.1 = 0))) (aCmp_ne _ _) ?_
              refine sim_guardF (e := bv) (fun hb44 => ?_) (fun c45 => ?_)
              · refine sim_let (v := iv (wr (n_ - 1))) (aBin_sub _ _) ?_
                refine sim_let (v := bv (decide (wr (w16 + 1) = wr (n_ - 1)))) (aCmp_eq _ _) ?_
                exact sim_ret rfl
              · refine sim_let (v := bv (bif !decide (c31.1 = 0) then true else c45)) (pick_b' _ _ _) ?_
                refine sim_guardT (e := bv) (fun hb46 => ?_) (fun c47 => ?_)
                · refine sim_let (v := iv (wr (m_ - 1))) (aBin_sub _ _) ?_
                  refine sim_let (v := bv (decide (w17 < (wr (m_ - 1))))) (aBin_lss _ _) ?_
                  exact sim_ret rfl
                · refine sim_let (v := bv (bif (bif !decide (c31.1 = 0) then true else c45) then c47 else false)) (pick_b _ _ _) ?_
                  refine sim_cond (fun c48 => ?_) (fun c48 => ?_)
                  · refine sim_let (v := iv (wr (w17 + 1))) (aBin_add _ _) ?_
                    refine sim_let (v := iv (((w13.getD []).length : Nat) : Int)) (O36.tab (A := Pair) (s := w13) 1 rfl).len ?_
                    refine sim_let (v := iv (wr ((((w13.getD []).length : Nat) : Int) - 1))) (aBin_sub _ _) ?_
                    refine sim_get (O36.tab (A := Pair) (s := w13) 1 rfl) (fun m50 a49 hi51 hm52 => ?_)
                    refine sim_let (v := AV.agg [iv a49.i, iv a49.j]) ((O36.tab (A := Pair) (s := w13) 1 rfl).ld hm52 true 2 0) ?_
                    refine sim_let (v := AV.agg [iv (wr (w16 + 1)), iv (wr (w17 + 1))]) (by first | rfl | simp [aBuild, aFill, splice]) ?_
                    refine sim_let (v := bv (!decide (a49 = (⟨wr (w16 + 1), wr (w17 + 1)⟩ : Pair)))) (aCmp_Pair a49 (⟨wr (w16 + 1), wr (w17 + 1)⟩ : Pair)).2 ?_
                    refine sim_cond (fun c53 => ?_) (fun c53 => ?_)
                    · refine sim_let (v := AV.agg [iv (wr (w16 + 1)), iv (wr (w17 + 1))]) (by first | rfl | simp [aBuild, aFill, splice]) ?_
                      refine sim_build (A := Pair) O36 ([(⟨wr (w16 + 1), wr (w17 + 1)⟩ : Pair)] : List Pair) rfl (by first | rfl | simp [aFillRows, zrows]) rfl (fun x54 h55 O56 => ?_)
                      replace O56 : Hold B h55 [(AV.ptr o1 1 0 0, .pt 3 [Sl.enc c31.2.code, iv c31.2.pos, AV.sc (.int .u64 c31.2.seed)]), (z12, obS (w13 : Sl Pair)), (x54, obS ((some ([(⟨wr (w16 + 1), wr (w17 + 1)⟩ : Pair)] : List Pair)) : Sl Pair))] := O56
                      refine sim_append (A := Pair) (s := w13) O56 1 ([(⟨wr (w16 + 1), wr (w17 + 1)⟩ : Pair)] : List Pair) rfl (O56.src (A := Pair) (s := (some ([(⟨wr (w16 + 1), wr (w17 + 1)⟩ : Pair)] : List Pair))) 2 rfl) (by decide) (fun x59 h60 O61 => ?_)
                      replace O61 : Hold B h60 [(AV.ptr o1 1 0 0, .pt 3 [Sl.enc c31.2.code, iv c31.2.pos, AV.sc (.int .u64 c31.2.seed)]), (x59, obS ((appS w13 ([(⟨wr (w16 + 1), wr (w17 + 1)⟩ : Pair)] : List Pair)) : Sl Pair)), (x54, obS ((some ([(⟨wr (w16 + 1), wr (w17 + 1)⟩ : Pair)] : List Pair)) : Sl Pair))] := O61
                      have O63 : Hold B h60 [(AV.ptr o1 1 0 0, .pt 3 [Sl.enc c31.2.code, iv c31.2.pos, AV.sc (.int .u64 c31.2.seed)]), (x59, obS ((appS w13 ([(⟨wr (w16 + 1), wr (w17 + 1)⟩ : Pair)] : List Pair)) : Sl Pair))] := O61.sel [0, 1] (by decide) rfl
                      exact sim_ret ⟨rfl, _, rfl, O63⟩
                    · exact sim_ret ⟨rfl, _, rfl, O36⟩
                  · refine sim_let (v := iv (((w13.getD []).length : Nat) : Int)) (O36.tab (A := Pair) (s := w13) 1 rfl).len ?_
                    refine sim_let (v := iv (wr ((((w13.getD []).length : Nat) : Int) - 1))) (aBin_sub _ _) ?_
                    refine sim_get (O36.tab (A := Pair) (s := w13) 1 rfl) (fun m67 a66 hi68 hm69 => ?_)
                    refine sim_let (v := AV.agg [iv a66.i, iv a66.j]) ((O36.tab (A := Pair) (s := w13) 1 rfl).ld hm69 true 2 0) ?_
                    refine sim_let (v := AV.agg [iv (wr (w16 + 1)), iv w17]) (by first | rfl | simp [aBuild, aFill, splice]) ?_
                    refine sim_let (v := bv (!decide (a66 = (⟨wr (w16 + 1), w17⟩ : Pair)))) (aCmp_Pair a66 (⟨wr (w16 + 1), w17⟩ : Pair)).2 ?_
                    refine sim_cond (fun c70 => ?_) (fun c70 => ?_)
                    · refine sim_let (v := AV.agg [iv (wr (w16 + 1)), iv w17]) (by first | rfl | simp [aBuild, aFill, splice]) ?_
                      refine sim_build (A := Pair) O36 ([(⟨wr (w16 + 1), w17⟩ : Pair)] : List Pair) rfl (by first | rfl | simp [aFillRows, zrows]) rfl (fun x71 h72 O73 => ?_)
                      replace O73 : Hold B h72 [(AV.ptr o1 1 0 0, .pt 3 [Sl.enc c31.2.code, iv c31.2.pos, AV.sc (.int .u64 c31.2.seed)]), (z12, obS (w13 : Sl Pair)), (x71, obS ((some ([(⟨wr (w16 + 1), w17⟩ : Pair)] : List Pair)) : Sl Pair))] := O73
                      refine sim_append (A := Pair) (s := w13) O73 1 ([(⟨wr (w16 + 1), w17⟩ : Pair)] : List Pair) rfl (O73.src (A := Pair) (s := (some ([(⟨wr (w16 + 1), w17⟩ : Pair)] : List Pair))) 2 rfl) (by decide) (fun x76 h77 O78 => ?_)
                      replace O78 : Hold B h77 [(AV.ptr o1 1 0 0, .pt 3 [Sl.enc c31.2.code, iv c31.2.pos, AV.sc (.int .u64 c31.2.seed)]), (x76, obS ((appS w13 ([(⟨wr (w16 + 1), w17⟩ : Pair)] : List Pair)) : Sl Pair)), (x71, obS ((some ([(⟨wr (w16 + 1), w17⟩ : Pair)] : List Pair)) : Sl Pair))] := O78
                      have O80 : Hold B h77 [(AV.ptr o1 1 0 0, .pt 3 [Sl.enc c31.2.code, iv c31.2.pos, AV.sc (.int .u64 c31.2.seed)]), (x76, obS ((appS w13 ([(⟨wr (w16 + 1), w17⟩ : Pair)] : List Pair)) : Sl Pair))] := O78.sel [0, 1] (by decide) rfl
                      exact sim_ret ⟨rfl, _, rfl, O80⟩
                    · exact sim_ret ⟨rfl, _, rfl, O36⟩
            · refine sim_let (v := bv (!decide (c31.1 = 0))) (aCmp_ne _ _) ?_
              refine sim_guardF (e := bv) (fun hb83 => ?_) (fun c84 => ?_)
              · refine sim_let (v := iv (wr (n_ - 1))) (aBin_sub _ _) ?_
                refine sim_let (v := bv (decide (w16 = wr (n_ - 1)))) (aCmp_eq _ _) ?_
                exact sim_ret rfl
              · refine sim_let (v := bv (bif !decide (c31.1 = 0) then true else c84)) (pick_b' _ _ _) ?_
                refine sim_guardT (e := bv) (fun hb85 => ?_) (fun c86 => ?_)
                · refine sim_let (v := iv (wr (m_ - 1))) (aBin_sub _ _) ?_
                  refine sim_let (v := bv (decide (w17 < (wr (m_ - 1))))) (aBin_lss _ _) ?_
                  exact sim_ret rfl
                · refine sim_let (v := bv (bif (bif !decide (c31.1 = 0) then true else c84) then c86 else false)) (pick_b _ _ _) ?_
                  refine sim_cond (fun c87 => ?_) (fun c87 => ?_)
                  · refine sim_let (v := iv (wr (w17 + 1))) (aBin_add _ _) ?_
                    refine sim_let (v := iv (((w13.getD []).length : Nat) : Int)) (O36.tab (A := Pair) (s := w13) 1 rfl).len ?_
                    refine sim_let (v := iv (wr ((((w13.getD []).length : Nat) : Int) - 1))) (aBin_sub _ _) ?_
                    refine sim_get (O36.tab (A := Pair) (s := w13) 1 rfl) (fun m89 a88 hi90 hm91 => ?_)
                    refine sim_let (v := AV.agg [iv a88.i, iv a88.j]) ((O36.tab (A := Pair) (s := w13) 1 rfl).ld hm91 true 2 0) ?_
                    refine sim_let (v := AV.agg [iv w16, iv (wr (w17 + 1))]) (by first | rfl | simp [aBuild, aFill, splice]) ?_
                    refine sim_let (v := bv (!decide (a88 = (⟨w16, wr (w17 + 1)⟩ : Pair)))) (aCmp_Pair a88 (⟨w16, wr (w17 + 1)⟩ : Pair)).2 ?_
                    refine sim_cond (fun c92 => ?_) (fun c92 => ?_)
                    · refine sim_let (v := AV.agg [iv w16, iv (wr (w17 + 1))]) (by first | rfl | simp [aBuild, aFill, splice]) ?_
                      refine sim_build (A := Pair) O36 ([(⟨w16, wr (w17 + 1)⟩ : Pair)] : List Pair) rfl (by first | rfl | simp [aFillRows, zrows]) rfl (fun x93 h94 O95 => ?_)
                      replace O95 : Hold B h94 [(AV.ptr o1 1 0 0, .pt 3 [Sl.enc c31.2.code, iv c31.2.pos, AV.sc (.int .u64 c31.2.seed)]), (z12, obS (w13 : Sl Pair)), (x93, obS ((some ([(⟨w16, wr (w17 + 1)⟩ : Pair)] : List Pair)) : Sl Pair))] := O95
                      refine sim_append (A := Pair) (s := w13) O95 1 ([(⟨w16, wr (w17 + 1)⟩ : Pair)] : List Pair) rfl (O95.src (A := Pair) (s := (some ([(⟨w16, wr (w17 + 1)⟩ : Pair)] : List Pair))) 2 rfl) (by decide) (fun x98 h99 O100 => ?_)
                      replace O100 : Hold B h99 [(AV.ptr o1 1 0 0, .pt 3 [Sl.enc c31.2.code, iv c31.2.pos, AV.sc (.int .u64 c31.2.seed)]), (x98, obS ((appS w13 ([(⟨w16, wr (w17 + 1)⟩ : Pair)] : List Pair)) : Sl Pair)), (x93, obS ((some ([(⟨w16, wr (w17 + 1)⟩ : Pair)] : List Pair)) : Sl Pair))] := O100
                      have O102 : Hold B h99 [(AV.ptr o1 1 0 0, .pt 3 [Sl.enc c31.2.code, iv c31.2.pos, AV.sc (.int .u64 c31.2.seed)]), (x98, obS ((appS w13 ([(⟨w16, wr (w17 + 1)⟩ : Pair)] : List Pair)) : Sl Pair))] := O100.sel [0, 1] (by decide) rfl
                      exact sim_ret ⟨rfl, _, rfl, O102⟩
                    · exact sim_ret ⟨rfl, _, rfl, O36⟩
                  · refine sim_let (v := iv (((w13.getD []).length : Nat) : Int)) (O36.tab (A := Pair) (s := w13) 1 rfl).len ?_
                    refine sim_let (v := iv (wr ((((w13.getD []).length : Nat) : Int) - 1))) (aBin_sub _ _) ?_
                    refine sim_get (O36.tab (A := Pair) (s := w13) 1 rfl) (fun m106 a105 hi107 hm108 => ?_)
                    refine sim_let (v := AV.agg [iv a105.i, iv a105.j]) ((O36.tab (A := Pair) (s := w13) 1 rfl).ld hm108 true 2 0) ?_
                    refine sim_let (v := AV.agg [iv w16, iv w17]) (by first | rfl | simp [aBuild, aFill, splice]) ?_
                    refine sim_let (v := bv (!decide (a105 = (⟨w16, w17⟩ : Pair)))) (aCmp_Pair a105 (⟨w16, w17⟩ : Pair)).2 ?_
                    refine sim_cond (fun c109 => ?_) (fun c109 => ?_)
                    · refine sim_let (v := AV.agg [iv w16, iv w17]) (by first | rfl | simp [aBuild, aFill, splice]) ?_
                      refine sim_build (A := Pair) O36 ([(⟨w16, w17⟩ : Pair)] : List Pair) rfl (by first | rfl | simp [aFillRows, zrows]) rfl (fun x110 h111 O112 => ?_)
                      replace O112 : Hold B h111 [(AV.ptr o1 1 0 0, .pt 3 [Sl.enc c31.2.code, iv c31.2.pos, AV.sc (.int .u64 c31.2.seed)]), (z12, obS (w13 : Sl Pair)), (x110, obS ((some ([(⟨w16, w17⟩ : Pair)] : List Pair)) : Sl Pair))] := O112
                      refine sim_append (A := Pair) (s := w13) O112 1 ([(⟨w16, w17⟩ : Pair)] : List Pair) rfl (O112.src (A := Pair) (s := (some ([(⟨w16, w17⟩ : Pair)] : List Pair))) 2 rfl) (by decide) (fun x115 h116 O117 => ?_)
                      replace O117 : Hold B h116 [(AV.ptr o1 1 0 0, .pt 3 [Sl.enc c31.2.code, iv c31.2.pos, AV.sc (.int .u64 c31.2.seed)]), (x115, obS ((appS w13 ([(⟨w16, w17⟩ : Pair)] : List Pair)) : Sl Pair)), (x110, obS ((some ([(⟨w16, w17⟩ : Pair)] : List Pair)) : Sl Pair))] := O117
                      have O119 : Hold B h116 [(AV.ptr o1 1 0 0, .pt 3 [Sl.enc c31.2.code, iv c31.2.pos, AV.sc (.int .u64 c31.2.seed)]), (x115, obS ((appS w13 ([(⟨w16, w17⟩ : Pair)] : List Pair)) : Sl Pair))] := O117.sel [0, 1] (by decide) rfl
                      exact sim_ret ⟨rfl, _, rfl, O119⟩
                    · exact sim_ret ⟨rfl, _, rfl, O36⟩
    · exact sim_ret ⟨nofun, _, _, _, _, _, _, _, _, rfl, O15⟩
theorem ts_spec_A2Path (env : Nat → Contract) (he_spec_l00From : env n_spec_l00From = .pure (C1 fromA (fun q : Sl UInt8 => some q))) (he_spec_l00Src_pick : env n_spec_l00Src_pick = .gen (denFn Try.prog ev_spec_l00Src_pick n_spec_l00Src_pick)) (code_ : Sl UInt8) (n_ : Int) (m_ : Int) : Sim (denFn Try.prog env n_spec_A2Path [Sl.enc code_, iv n_, iv m_] []) (t_spec_A2Path code_ n_ m_) fun c p => release p.2 depth p.1 = some ((fun c : (Sl Pair) => rS c) c) := by
  have O := Hold.nil []
  generalize hB : (⟨[], []⟩ : Base) = B at O
  clear hB
  rw [e_spec_A2Path]
  unfold t_spec_A2Path
  refine sim_src O he_spec_l00From (snapD_enc _ _) (by first | rfl | exact noRef_enc _) (fun o1 h2 O3 => ?_)
  replace O3 : Hold B h2 [(AV.ptr o1 1 0 0, .pt 3 [Sl.enc code_, iv 0, AV.sc (.int .u64 0)])] := O3
  refine sim_let (v := AV.agg [iv 0, iv 0]) (by first | rfl | simp [aBuild, aFill, splice]) ?_
  refine sim_build (A := Pair) O3 ([(⟨0, 0⟩ : Pair)] : List Pair) rfl (by first | rfl | simp [aFillRows, zrows]) rfl (fun x5 h6 O7 => ?_)
  replace O7 : Hold B h6 [(AV.ptr o1 1 0 0, .pt 3 [Sl.enc code_, iv 0, AV.sc (.int .u64 0)]), (x5, obS ((some ([(⟨0, 0⟩ : Pair)] : List Pair)) : Sl Pair))] := O7
  refine sim_bind ((tl0_spec_A2Path env he_spec_l00From he_spec_l00Src_pick code_ n_ m_ o1 x5) ⟨_, rfl, O7⟩) (fun qq124 r hq => ?_)
  revert hq
  revert qq124
  intro q24 hq
  obtain ⟨q20, q21, q22, q25, q26, z23, z27, h18, rfl, O19⟩ := hq
  rw [e_lk0x0_spec_A2Path]
  exact sim_ret (O19.rel (A := Pair) (s := q24) 1 rfl)
theorem tt_spec_A2Path : PureOK Try.prog n_spec_A2Path (C3 (fun c : (Sl Pair) => rS c) t_spec_A2Path) := pureC3 (Econs tt_spec_l00From (EconsG (gen_of_den eo_spec_l00Src_pick mixed hb_spec_l00Src_pick) E0)) mixed hb_spec_A2Path fun code_ n_ m_ => ts_spec_A2Path _ (by simp [envL]) (by simp [envL]) code_ n_ m_

def s0_impl_ValidPath (path_ : Sl Pair) (band_ : Int) : Int → Option (Sum Int (Sum Unit Bool)) := fun w16 =>
  bif decide (w16 < (((path_.getD []).length : Nat) : Int)) then
    obind (getI (path_.getD []) w16) fun a32 =>
    bif decide (0 < w16) then
      obind (getI (path_.getD []) (wr (w16 - 1))) fun a43 =>
      obind (getI (path_.getD []) (wr (w16 - 1))) fun a47 =>
      obind (some (within (wr (a32.i - a43.i)) 0 1)) fun c51 =>
      obind (bif !c51 then some false else (obind (some (within (wr (a32.j - a47.j)) 0 1)) fun c53 => some (!c53))) fun c54 =>
      obind (bif (bif !c51 then true else c54) then some false else (some (decide (wr ((wr (a32.i - a43.i)) + (wr (a32.j - a47.j))) = 0)))) fun c56 =>
      bif (bif (bif !c51 then true else c54) then true else c56) then
        some (.inr (.inr false))
      else
        obind (some (within (wr (a32.i - a32.j)) (wr (0 - band_)) band_)) fun c59 =>
        bif !c59 then
          some (.inr (.inr false))
        else
          some (.inl (wr (w16 + 1)))
    else
      obind (some (within (wr (a32.i - a32.j)) (wr (0 - band_)) band_)) fun c63 =>
      bif !c63 then
        some (.inr (.inr false))
      else
        some (.inl (wr (w16 + 1)))
  else
    some (.inr (.inl ()))
def t_impl_ValidPath (path_ : Sl Pair) (n_ : Int) (m_ : Int) (band_ : Int) : Option Bool :=
  obind (bif decide ((((path_.getD []).length : Nat) : Int) = 0) then some false else (obind (getI (path_.getD []) 0) fun a2 => some (!decide (a2 = (⟨0, 0⟩ : Pair))))) fun c6 =>
  obind (bif (bif decide ((((path_.getD []).length : Nat) : Int) = 0) then true else c6) then some false else (obind (getI (path_.getD []) (wr ((((path_.getD []).length : Nat) : Int) - 1))) fun a8 => some (!decide (a8 = (⟨wr (n_ - 1), wr (m_ - 1)⟩ : Pair))))) fun c12 =>
  bif (bif (bif decide ((((path_.getD []).length : Nat) : Int) = 0) then true else c6) then true else c12) then
    some false
  else
    obind (loopT (s0_impl_ValidPath path_ band_) 0) fun qq69 => match qq69 with
    | (.inl _) =>
        some true
    | (.inr q26) =>
        some q26

theorem tl0_impl_ValidPath (env : Nat → Contract) {B : Base} (he_impl_within : env n_impl_within = .pure (T3 within)) (path_ : Sl Pair) (n_ : Int) (m_ : Int) (band_ : Int) (c6 : Bool) (c12 : Bool)  {st : Int} {tm : TM} {h : Heap} (R : (fun (st : Int) tm h14 => match st with | w16 => tm = [Sl.enc path_, iv n_, iv m_, iv band_, und, und, und, und, AV.top, AV.top, AV.top, AV.top, AV.top, Sl.enc path_, iv (((path_.getD []).length : Nat) : Int), bv (decide ((((path_.getD []).length : Nat) : Int) = 0)), bv (decide ((((path_.getD []).length : Nat) : Int) = 0)), AV.top, AV.top, AV.top, AV.top, cond (decide ((((path_.getD []).length : Nat) : Int) = 0)) und (bv c6), bv (bif decide ((((path_.getD []).length : Nat) : Int) = 0) then true else c6), bv (bif decide ((((path_.getD []).length : Nat) : Int) = 0) then true else c6), AV.top, AV.top, AV.top, AV.top, AV.top, AV.top, AV.top, AV.top, AV.top, AV.top, AV.top, cond (bif decide ((((path_.getD []).length : Nat) : Int) = 0) then true else c6) und (bv c12), bv (bif (bif decide ((((path_.getD []).length : Nat) : Int) = 0) then true else c6) then true else c12), Sl.enc path_, iv (((path_.getD []).length : Nat) : Int), iv w16, AV.top, AV.top, AV.top, AV.top, AV.top, AV.top, AV.top, AV.top, AV.top, AV.top, AV.top, AV.top, AV.top, AV.top, AV.top, AV.top, AV.top, AV.top, AV.top, AV.top, AV.top, AV.top, AV.top, AV.top, AV.top, AV.top, AV.top, AV.top, AV.top, AV.top, AV.top, AV.top, AV.top, AV.top, AV.top, AV.top, AV.top, AV.top, AV.top, AV.top, AV.top, AV.top, AV.top, AV.top, AV.top, AV.top, AV.top, AV.top, AV.top] ∧ Hold B h14 []) st tm h) : Sim (loopP hm0_impl_ValidPath xm0_impl_ValidPath (lb0_impl_ValidPath env) tm h) (loopT (s0_impl_ValidPath path_ band_) st) (fun (q : Sum Unit Bool) (r : Res) => match q with | .inl _ => ∃ (z19 : AV) (z20 : AV) (z21 : AV) (z22 : AV) (z23 : AV) (h17 : Heap), r = (.exit 0, [Sl.enc path_, iv n_, iv m_, iv band_, und, und, und, und, z19, z20, z21, z22, z23, Sl.enc path_, iv (((path_.getD []).length : Nat) : Int), bv (decide ((((path_.getD []).length : Nat) : Int) = 0)), bv (decide ((((path_.getD []).length : Nat) : Int) = 0)), AV.top, AV.top, AV.top, AV.top, cond (decide ((((path_.getD []).length : Nat) : Int) = 0)) und (bv c6), bv (bif decide ((((path_.getD []).length : Nat) : Int) = 0) then true else c6), bv (bif decide ((((path_.getD []).length : Nat) : Int) = 0) then true else c6), AV.top, AV.top, AV.top, AV.top, AV.top, AV.top, AV.top, AV.top, AV.top, AV.top, AV.top, cond (bif decide ((((path_.getD []).length : Nat) : Int) = 0) then true else c6) und (bv c12), bv (bif (bif decide ((((path_.getD []).length : Nat) : Int) = 0) then true else c6) then true else c12), Sl.enc path_, iv (((path_.getD []).length : Nat) : Int), AV.top, AV.top, AV.top, AV.top, AV.top, AV.top, AV.top, AV.top, AV.top, AV.top, AV.top, AV.top, AV.top, AV.top, AV.top, AV.top, AV.top, AV.top, AV.top, AV.top, AV.top, AV.top, AV.top, AV.top, AV.top, AV.top, AV.top, AV.top, AV.top, AV.top, AV.top, AV.top, AV.top, AV.top, AV.top, AV.top, AV.top, AV.top, AV.top, AV.top, AV.top, AV.top, AV.top, AV.top, AV.top, AV.top, AV.top, AV.top, AV.top, AV.top], h17) ∧ Hold B h17 [] | .inr q26 => ∃ (q27 : Int) (z28 : AV) (z29 : AV) (z30 : AV) (h24 : Heap), r = (.ret, [Sl.enc path_, iv n_, iv m_, iv band_, und, und, und, und, bv q26, iv q27, z28, z29, z30, Sl.enc path_, iv (((path_.getD []).length : Nat) : Int), bv (decide ((((path_.getD []).length : Nat) : Int) = 0)), bv (decide ((((path_.getD []).length : Nat) : Int) = 0)), AV.top, AV.top, AV.top, AV.top, cond (decide ((((path_.getD []).length : Nat) : Int) = 0)) und (bv c6), bv (bif decide ((((path_.getD []).length : Nat) : Int) = 0) then true else c6), bv (bif decide ((((path_.getD []).length : Nat) : Int) = 0) then true else c6), AV.top, AV.top, AV.top, AV.top, AV.top, AV.top, AV.top, AV.top, AV.top, AV.top, AV.top, cond (bif decide ((((path_.getD []).length : Nat) : Int) = 0) then true else c6) und (bv c12), bv (bif (bif decide ((((path_.getD []).length : Nat) : Int) = 0) then true else c6) then true else c12), Sl.enc path_, iv (((path_.getD []).length : Nat) : Int), AV.top, AV.top, AV.top, AV.top, AV.top, AV.top, AV.top, AV.top, AV.top, AV.top, AV.top, AV.top, AV.top, AV.top, AV.top, AV.top, AV.top, AV.top, AV.top, AV.top, AV.top, AV.top, AV.top, AV.top, AV.top, AV.top, AV.top, AV.top, AV.top, AV.top, AV.top, AV.top, AV.top, AV.top, AV.top, AV.top, AV.top, AV.top, AV.top, AV.top, AV.top, AV.top, AV.top, AV.top, AV.top, AV.top, AV.top, AV.top, AV.top, AV.top], h24) ∧ Hold B h24 []) := by
  refine loop_sim (Rel := fun (st : Int) tm h14 => match st with | w16 => tm = [Sl.enc path_, iv n_, iv m_, iv band_, und, und, und, und, AV.top, AV.top, AV.top, AV.top, AV.top, Sl.enc path_, iv (((path_.getD []).length : Nat) : Int), bv (decide ((((path_.getD []).length : Nat) : Int) = 0)), bv (decide ((((path_.getD []).length : Nat) : Int) = 0)), AV.top, AV.top, AV.top, AV.top, cond (decide ((((path_.getD []).length : Nat) : Int) = 0)) und (bv c6), bv (bif decide ((((path_.getD []).length : Nat) : Int) = 0) then true else c6), bv (bif decide ((((path_.getD []).length : Nat) : Int) = 0) then true else c6), AV.top, AV.top, AV.top, AV.top, AV.top, AV.top, AV.top, AV.top, AV.top, AV.top, AV.top, cond (bif decide ((((path_.getD []).length : Nat) : Int) = 0) then true else c6) und (bv c12), bv (bif (bif decide ((((path_.getD []).length : Nat) : Int) = 0) then true else c6) then true else c12), Sl.enc path_, iv (((path_.getD []).length : Nat) : Int), iv w16, AV.top, AV.top, AV.top, AV.top, AV.top, AV.top, AV.top, AV.top, AV.top, AV.top, AV.top, AV.top, AV.top, AV.top, AV.top, AV.top, AV.top, AV.top, AV.top, AV.top, AV.top, AV.top, AV.top, AV.top, AV.top, AV.top, AV.top, AV.top, AV.top, AV.top, AV.top, AV.top, AV.top, AV.top, AV.top, AV.top, AV.top, AV.top, AV.top, AV.top, AV.top, AV.top, AV.top, AV.top, AV.top, AV.top, AV.top, AV.top, AV.top] ∧ Hold B h14 []) (fun w16 tm h14 R => ?_) R
  obtain ⟨rfl, O15⟩ := R
  rw [e_lb0_impl_ValidPath]
  unfold s0_impl_ValidPath
  dsimp only
  refine sim_let (v := bv (decide (w16 < (((path_.getD []).length : Nat) : Int)))) (aBin_lss _ _) ?_
  refine sim_cond (fun c31 => ?_) (fun c31 => ?_)
  · refine sim_get (Tab.enc h14 path_) (fun m33 a32 hi34 hm35 => ?_)
    refine sim_let (v := AV.agg [iv a32.i, iv a32.j]) ((Tab.enc h14 path_).ld hm35 true 2 0) ?_
    refine sim_box O15 (cs := [iv 0, iv 0]) (by first | rfl | simp) (fun o36 h37 O38 => ?_)
    replace O38 : Hold B h37 [(AV.ptr o36 1 0 0, .pt 2 [iv 0, iv 0])] := O38
    refine sim_store O38 0 (cs' := [iv a32.i, iv a32.j]) rfl (by first | rfl | simp) (by simp) (by first | rfl | simp) (by first | rfl | simp [splice]) (fun h40 O41 => ?_)
    replace O41 : Hold B h40 [(AV.ptr o36 1 0 0, .pt 2 [iv a32.i, iv a32.j])] := O41
    refine sim_let (v := bv (decide (0 < w16))) (aBin_gtr _ _) ?_
    refine sim_cond (fun c42 => ?_) (fun c42 => ?_)
    · refine sim_let (v := AV.ptr o36 1 0 0) rfl ?_
      refine sim_let (v := iv a32.i) (O41.ld 0 rfl false 1 0) ?_
      refine sim_let (v := iv (wr (w16 - 1))) (aBin_sub _ _) ?_
      refine sim_get (Tab.enc h40 path_) (fun m44 a43 hi45 hm46 => ?_)
      refine sim_let (v := elp (Sl.enc path_) m44 0) ((Tab.enc h40 path_).fld _ _ _) ?_
      refine sim_let (v := iv a43.i) ((Tab.enc h40 path_).ld hm46 false 1 0) ?_
      refine sim_let (v := iv (wr (a32.i - a43.i))) (aBin_sub _ _) ?_
      refine sim_let (v := AV.ptr o36 1 0 1) rfl ?_
      refine sim_let (v := iv a32.j) (O41.ld 0 rfl false 1 1) ?_
      refine sim_let (v := iv (wr (w16 - 1))) (aBin_sub _ _) ?_
      refine sim_get (Tab.enc h40 path_) (fun m48 a47 hi49 hm50 => ?_)
      refine sim_let (v := elp (Sl.enc path_) m48 1) ((Tab.enc h40 path_).fld _ _ _) ?_
      refine sim_let (v := iv a47.j) ((Tab.enc h40 path_).ld hm50 false 1 1) ?_
      refine sim_let (v := iv (wr (a32.j - a47.j))) (aBin_sub _ _) ?_
      refine sim_callV3 he_impl_within (snapD_int _ _) (snapD_int _ _) (snapD_int _ _) (fun c51 => ?_)
      refine sim_let (v := bv (!c51)) (aUn_not _) ?_
      refine sim_guardF (e := bv) (fun hb52 => ?_) (fun c54 => ?_)
      · refine sim_callV3 he_impl_within (snapD_int _ _) (snapD_int _ _) (snapD_int _ _) (fun c53 => ?_)
        refine sim_let (v := bv (!c53)) (aUn_not _) ?_
        exact sim_ret rfl
      · refine sim_let (v := bv (bif !c51 then true else c54)) (pick_b' _ _ _) ?_
        refine sim_guardF (e := bv) (fun hb55 => ?_) (fun c56 => ?_)
        · refine sim_let (v := iv (wr ((wr (a32.i - a43.i)) + (wr (a32.j - a47.j))))) (aBin_add _ _) ?_
          refine sim_let (v := bv (decide (wr ((wr (a32.i - a43.i)) + (wr (a32.j - a47.j))) = 0))) (aCmp_eq _ _) ?_
          exact sim_ret rfl
        · refine sim_let (v := bv (bif (bif !c51 then true else c54) then true else c56)) (pick_b' _ _ _) ?_
          refine sim_cond (fun c57 => ?_) (fun c57 => ?_)
          · have O58 : Hold B h40 [] := O41.sel [] (by decide) rfl
            exact sim_ret ⟨nofun, _, _, _, _, _, rfl, O58⟩
          · refine sim_let (v := AV.ptr o36 1 0 0) rfl ?_
            refine sim_let (v := iv a32.i) (O41.ld 0 rfl false 1 0) ?_
            refine sim_let (v := AV.ptr o36 1 0 1) rfl ?_
            refine sim_let (v := iv a32.j) (O41.ld 0 rfl false 1 1) ?_
            refine sim_let (v := iv (wr (a32.i - a32.j))) (aBin_sub _ _) ?_
            refine sim_let (v := iv (wr (0 - band_))) (aUn_neg _) ?_
            refine sim_callV3 he_impl_within (snapD_int _ _) (snapD_int _ _) (snapD_int _ _) (fun c59 => ?_)
            refine sim_let (v := bv (!c59)) (aUn_not _) ?_
            refine sim_cond (fun c60 => ?_) (fun c60 => ?_)
            · have O61 : Hold B h40 [] := O41.sel [] (by decide) rfl
              exact sim_ret ⟨nofun, _, _, _, _, _, rfl, O61⟩
            · refine sim_let (v := iv (wr (w16 + 1))) (aBin_add _ _) ?_
              have O62 : Hold B h40 [] := O41.sel [] (by decide) rfl
              exact sim_ret ⟨rfl, rfl, O62⟩
    · refine sim_let (v := AV.ptr o36 1 0 0) rfl ?_
      refine sim_let (v := iv a32.i) (O41.ld 0 rfl false 1 0) ?_
      refine sim_let (v := AV.ptr o36 1 0 1) rfl ?_
      refine sim_let (v := iv a32.j) (O41.ld 0 rfl false 1 1) ?_
      refine sim_let (v := iv (wr (a32.i - a32.j))) (aBin_sub _ _) ?_
      refine sim_let (v := iv (wr (0 - band_))) (aUn_neg _) ?_
      refine sim_callV3 he_impl_within (snapD_int _ _) (snapD_int _ _) (snapD_int _ _) (fun c63 => ?_)
      refine sim_let (v := bv (!c63)) (aUn_not _) ?_
      refine sim_cond (fun c64 => ?_) (fun c64 => ?_)
      · have O65 : Hold B h40 [] := O41.sel [] (by decide) rfl
        exact sim_ret ⟨nofun, _, _, _, _, _, rfl, O65⟩
      · refine sim_let (v := iv (wr (w16 + 1))) (aBin_add _ _) ?_
        have O66 : Hold B h40 [] := O41.sel [] (by decide) rfl
        exact sim_ret ⟨rfl, rfl, O66⟩
  · exact sim_ret ⟨nofun, _, _, _, _, _, _, rfl, O15⟩
theorem ts_impl_ValidPath (env : Nat → Contract) (he_impl_within : env n_impl_within = .pure (T3 within)) (path_ : Sl Pair) (n_ : Int) (m_ : Int) (band_ : Int) : Sim (denFn Try.prog env n_impl_ValidPath [Sl.enc path_, iv n_, iv m_, iv band_] []) (t_impl_ValidPath path_ n_ m_ band_) fun c p => release p.2 depth p.1 = some ((fun c : Bool => enc c) c) := by
  have O := Hold.nil []
  generalize hB : (⟨[], []⟩ : Base) = B at O
  clear hB
  rw [e_impl_ValidPath]
  unfold t_impl_ValidPath
  refine sim_let (v := iv (((path_.getD []).length : Nat) : Int)) (Tab.enc [] path_).len ?_
  refine sim_let (v := bv (decide ((((path_.getD []).length : Nat) : Int) = 0))) (aCmp_eq _ _) ?_
  refine sim_guardF (e := bv) (fun hb1 => ?_) (fun c6 => ?_)
  · refine sim_get (Tab.enc [] path_) (fun m3 a2 hi4 hm5 => ?_)
    refine sim_let (v := AV.agg [iv a2.i, iv a2.j]) ((Tab.enc [] path_).ld hm5 true 2 0) ?_
    refine sim_let (v := AV.agg [iv 0, iv 0]) (by first | rfl | simp [aBuild, aFill, splice]) ?_
    refine sim_let (v := bv (!decide (a2 = (⟨0, 0⟩ : Pair)))) (aCmp_Pair a2 (⟨0, 0⟩ : Pair)).2 ?_
    exact sim_ret rfl
  · refine sim_let (v := bv (bif decide ((((path_.getD []).length : Nat) : Int) = 0) then true else c6)) (pick_b' _ _ _) ?_
    refine sim_guardF (e := bv) (fun hb7 => ?_) (fun c12 => ?_)
    · refine sim_let (v := iv (((path_.getD []).length : Nat) : Int)) (Tab.enc [] path_).len ?_
      refine sim_let (v := iv (wr ((((path_.getD []).length : Nat) : Int) - 1))) (aBin_sub _ _) ?_
      refine sim_get (Tab.enc [] path_) (fun m9 a8 hi10 hm11 => ?_)
      refine sim_let (v := AV.agg [iv a8.i, iv a8.j]) ((Tab.enc [] path_).ld hm11 true 2 0) ?_
      refine sim_let (v := iv (wr (n_ - 1))) (aBin_sub _ _) ?_
      refine sim_let (v := iv (wr (m_ - 1))) (aBin_sub _ _) ?_
      refine sim_let (v := AV.agg [iv (wr (n_ - 1)), iv (wr (m_ - 1))]) (by first | rfl | simp [aBuild, aFill, splice]) ?_
      refine sim_let (v := bv (!decide (a8 = (⟨wr (n_ - 1), wr (m_ - 1)⟩ : Pair)))) (aCmp_Pair a8 (⟨wr (n_ - 1), wr (m_ - 1)⟩ : Pair)).2 ?_
      exact sim_ret rfl
    · refine sim_let (v := bv (bif (bif decide ((((path_.getD []).length : Nat) : Int) = 0) then true else c6) then true else c12)) (pick_b' _ _ _) ?_
      refine sim_cond (fun c13 => ?_) (fun c13 => ?_)
      · exact sim_ret (release_plain (by rfl) _)
      · refine sim_let (v := iv (((path_.getD []).length : Nat) : Int)) (Tab.enc [] path_).len ?_
        refine sim_bind ((tl0_impl_ValidPath env he_impl_within path_ n_ m_ band_ c6 c12) ⟨rfl, O⟩) (fun qq69 r hq => ?_)
        rcases qq69 with _ | q26
        · obtain ⟨z19, z20, z21, z22, z23, h17, rfl, O18⟩ := hq
          rw [e_lk0x0_impl_ValidPath]
          exact sim_ret (release_plain (by rfl) _)
        · obtain ⟨q27, z28, z29, z30, h24, rfl, O25⟩ := hq
          rw [e_lk0r_impl_ValidPath]
          exact sim_ret (release_plain (by rfl) _)
theorem tt_impl_ValidPath : PureOK Try.prog n_impl_ValidPath (C4 (fun c : Bool => enc c) t_impl_ValidPath) := pureC4 (Econs ok_impl_within E0) mixed hb_impl_ValidPath fun path_ n_ m_ band_ => ts_impl_ValidPath _ (by simp [envL]) path_ n_ m_ band_

def t_impl_pathable (a_ : Sl Feat) (b_ : Sl Feat) (path_ : Sl Pair) : Option Int :=
  obind (t_impl_ValidSeq a_) fun c1 =>
  obind (bif !c1 then some false else (obind (t_impl_ValidSeq b_) fun c3 => some (!c3))) fun c4 =>
  bif (bif !c1 then true else c4) then
    some 1
  else
    obind (t_impl_ValidPath path_ (((a_.getD []).length : Nat) : Int) (((b_.getD []).length : Nat) : Int) 72) fun c6 =>
    bif !c6 then
      some 2
    else
      some 0

theorem ts_impl_pathable (env : Nat → Contract) (he_impl_ValidPath : env n_impl_ValidPath = .pure (C4 (fun c : Bool => enc c) t_impl_ValidPath)) (he_impl_ValidSeq : env n_impl_ValidSeq = .pure (C1 (fun c : Bool => enc c) t_impl_ValidSeq)) (a_ : Sl Feat) (b_ : Sl Feat) (path_ : Sl Pair) : Sim (denFn Try.prog env n_impl_pathable [Sl.enc a_, Sl.enc b_, Sl.enc path_] []) (t_impl_pathable a_ b_ path_) fun c p => release p.2 depth p.1 = some ((fun c : Int => enc c) c) := by
  have O := Hold.nil []
  generalize hB : (⟨[], []⟩ : Base) = B at O
  clear hB
  rw [e_impl_pathable]
  unfold t_impl_pathable
  refine sim_call1 he_impl_ValidSeq (snapD_enc _ _) (fun c1 => ?_)
  refine sim_let2 (hand_plain (by rfl) _ _) ?_
  refine sim_let (v := bv (!c1)) (aUn_not _) ?_
  refine sim_guardF (e := bv) (fun hb2 => ?_) (fun c4 => ?_)
  · refine sim_call1 he_impl_ValidSeq (snapD_enc _ _) (fun c3 => ?_)
    refine sim_let2 (hand_plain (by rfl) _ _) ?_
    refine sim_let (v := bv (!c3)) (aUn_not _) ?_
    exact sim_ret rfl
  · refine sim_let (v := bv (bif !c1 then true else c4)) (pick_b' _ _ _) ?_
    refine sim_cond (fun c5 => ?_) (fun c5 => ?_)
    · exact sim_ret (release_plain (by rfl) _)
    · refine sim_let (v := iv (((a_.getD []).length : Nat) : Int)) (Tab.enc [] a_).len ?_
      refine sim_let (v := iv (((b_.getD []).length : Nat) : Int)) (Tab.enc [] b_).len ?_
      refine sim_call4 he_impl_ValidPath (snapD_enc _ _) (snapD_int _ _) (snapD_int _ _) (snapD_int _ _) (fun c6 => ?_)
      refine sim_let2 (hand_plain (by rfl) _ _) ?_
      refine sim_let (v := bv (!c6)) (aUn_not _) ?_
      refine sim_cond (fun c7 => ?_) (fun c7 => ?_)
      · exact sim_ret (release_plain (by rfl) _)
      · exact sim_ret (release_plain (by rfl) _)
theorem tt_impl_pathable : PureOK Try.prog n_impl_pathable (C3 (fun c : Int => enc c) t_impl_pathable) := pureC3 (Econs tt_impl_ValidPath (Econs tt_impl_ValidSeq E0)) mixed hb_impl_pathable fun a_ b_ path_ => ts_impl_pathable _ (by simp [envL]) (by simp [envL]) a_ b_ path_

def t_impl_floorDiv (n_ : Int) (d_ : Int) : Option Int :=
  obind (quoI n_ d_) fun q1 =>
  obind (remI n_ d_) fun q2 =>
  bif decide (q2 < 0) then
    some (wr (q1 - 1))
  else
    some q1

theorem ts_impl_floorDiv (env : Nat → Contract)  (n_ : Int) (d_ : Int) : Sim (denFn Try.prog env n_impl_floorDiv [iv n_, iv d_] []) (t_impl_floorDiv n_ d_) fun c p => release p.2 depth p.1 = some ((fun c : Int => enc c) c) := by
  have O := Hold.nil []
  generalize hB : (⟨[], []⟩ : Base) = B at O
  clear hB
  rw [e_impl_floorDiv]
  unfold t_impl_floorDiv
  refine sim_quo (fun q1 => ?_)
  refine sim_rem (fun q2 => ?_)
  refine sim_let (v := bv (decide (q2 < 0))) (aBin_lss _ _) ?_
  refine sim_cond (fun c3 => ?_) (fun c3 => ?_)
  · refine sim_let (v := iv (wr (q1 - 1))) (aBin_sub _ _) ?_
    exact sim_ret (release_plain (by rfl) _)
  · exact sim_ret (release_plain (by rfl) _)
theorem tt_impl_floorDiv : PureOK Try.prog n_impl_floorDiv (C2 (fun c : Int => enc c) t_impl_floorDiv) := pureC2 E0 mixed hb_impl_floorDiv fun n_ d_ => ts_impl_floorDiv _  n_ d_

def t_impl_nearestDiv (n_ : Int) (d_ : Int) : Option Int :=
  obind (t_impl_floorDiv n_ d_) fun c1 =>
  bif decide ((wr (d_ - (wr (n_ - (wr (c1 * d_)))))) ≤ (wr (n_ - (wr (c1 * d_))))) then
    some (wr (c1 + 1))
  else
    some c1

theorem ts_impl_nearestDiv (env : Nat → Contract) (he_impl_floorDiv : env n_impl_floorDiv = .pure (C2 (fun c : Int => enc c) t_impl_floorDiv)) (n_ : Int) (d_ : Int) : Sim (denFn Try.prog env n_impl_nearestDiv [iv n_, iv d_] []) (t_impl_nearestDiv n_ d_) fun c p => release p.2 depth p.1 = some ((fun c : Int => enc c) c) := by
  have O := Hold.nil []
  generalize hB : (⟨[], []⟩ : Base) = B at O
  clear hB
  rw [e_impl_nearestDiv]
  unfold t_impl_nearestDiv
  refine sim_call2 he_impl_floorDiv (snapD_int _ _) (snapD_int _ _) (fun c1 => ?_)
  refine sim_let2 (hand_plain (by rfl) _ _) ?_
  refine sim_let (v := iv (wr (c1 * d_))) (aBin_mul _ _) ?_
  refine sim_let (v := iv (wr (n_ - (wr (c1 * d_))))) (aBin_sub _ _) ?_
  refine sim_let (v := iv (wr (d_ - (wr (n_ - (wr (c1 * d_))))))) (aBin_sub _ _) ?_
  refine sim_let (v := bv (decide ((wr (d_ - (wr (n_ - (wr (c1 * d_)))))) ≤ (wr (n_ - (wr (c1 * d_))))))) (aBin_geq _ _) ?_
  refine sim_cond (fun c2 => ?_) (fun c2 => ?_)
  · refine sim_let (v := iv (wr (c1 + 1))) (aBin_add _ _) ?_
    exact sim_ret (release_plain (by rfl) _)
  · exact sim_ret (release_plain (by rfl) _)
theorem tt_impl_nearestDiv : PureOK Try.prog n_impl_nearestDiv (C2 (fun c : Int => enc c) t_impl_nearestDiv) := pureC2 (Econs tt_impl_floorDiv E0) mixed hb_impl_nearestDiv fun n_ d_ => ts_impl_nearestDiv _ (by simp [envL]) n_ d_

def s1_impl_BlendFeats (a_ : Sl Feat) (q20 : Sl Feat) (q21 : Sl Int) : ((Sl Feat) × Int) → Option (Sum ((Sl Feat) × Int) (Sl Feat)) := fun (w26, w29) =>
  bif decide (w29 < (((a_.getD []).length : Nat) : Int)) then
    obind (getI (a_.getD []) w29) fun a39 =>
    obind (getI (q21.getD []) w29) fun a49 =>
    obind (getI (q20.getD []) w29) fun a53 =>
    obind (t_impl_nearestDiv (wr (a53.x + (wr (a49 * a39.x)))) (wr (2 * a49))) fun c57 =>
    obind (getI (q20.getD []) w29) fun a58 =>
    obind (t_impl_nearestDiv (wr (a58.y + (wr (a49 * a39.y)))) (wr (2 * a49))) fun c62 =>
    obind (appO w26 ([(⟨c57, c62, a39.d⟩ : Feat)] : List Feat)) fun _ =>
    some (.inl ((appS w26 ([(⟨c57, c62, a39.d⟩ : Feat)] : List Feat)), wr (w29 + 1)))
  else
    some (.inr w26)
def s0_impl_BlendFeats (b_ : Sl Feat) (path_ : Sl Pair) : ((Sl Feat) × (Sl Int) × Int) → Option (Sum ((Sl Feat) × (Sl Int) × Int) ((Sl Feat) × (Sl Int))) := fun (w13, w14, w17) =>
  bif decide (w17 < (((path_.getD []).length : Nat) : Int)) then
    obind (getI (path_.getD []) w17) fun a78 =>
    obind (getI (w13.getD []) a78.i) fun a88 =>
    obind (getI (b_.getD []) a78.j) fun a92 =>
    obind (getI (w13.getD []) a78.i) fun a96 =>
    obind (getI ((setS w13 a78.i (⟨wr (a88.x + a92.x), a96.y, a96.d⟩ : Feat)).getD []) a78.i) fun a102 =>
    obind (getI (b_.getD []) a78.j) fun a106 =>
    obind (getI ((setS w13 a78.i (⟨wr (a88.x + a92.x), a96.y, a96.d⟩ : Feat)).getD []) a78.i) fun a110 =>
    obind (getI (w14.getD []) a78.i) fun a116 =>
    obind (getI (w14.getD []) a78.i) fun a120 =>
    some (.inl ((setS (setS w13 a78.i (⟨wr (a88.x + a92.x), a96.y, a96.d⟩ : Feat)) a78.i (⟨a110.x, wr (a102.y + a106.y), a110.d⟩ : Feat)), (setS w14 a78.i (wr (a116 + 1))), wr (w17 + 1)))
  else
    some (.inr (w13, w14))
def t_impl_BlendFeats (a_ : Sl Feat) (b_ : Sl Feat) (path_ : Sl Pair) : Option ((Sl Feat) × Int) :=
  obind (t_impl_pathable a_ b_ path_) fun c1 =>
  bif !decide (c1 = 0) then
    some ((none : Sl Feat), c1)
  else
    obind (makeO (⟨0, 0, 0⟩ : Feat) (((a_.getD []).length : Nat) : Int)) fun l7 =>
    obind (makeO 0 (((a_.getD []).length : Nat) : Int)) fun l12 =>
    obind (loopT (s0_impl_BlendFeats b_ path_) ((some l7), (some l12), 0)) fun (q20, q21) =>
    obind (loopT (s1_impl_BlendFeats a_ q20 q21) ((none : Sl Feat), 0)) fun q33 =>
    some (q33, 0)

theorem tl1_impl_BlendFeats (env : Nat → Contract) {B : Base} (he_impl_nearestDiv : env n_impl_nearestDiv = .pure (C2 (fun c : Int => enc c) t_impl_nearestDiv)) (he_impl_pathable : env n_impl_pathable = .pure (C3 (fun c : Int => enc c) t_impl_pathable)) (a_ : Sl Feat) (b_ : Sl Feat) (path_ : Sl Pair) (c1 : Int) (x3 : AV) (x8 : AV) (q20 : Sl Feat) (q21 : Sl Int) (z22 : AV)  {st : (Sl Feat) × Int} {tm : TM} {h : Heap} (R : (fun (st : (Sl Feat) × Int) tm h27 => match st with | (w26, w29) => ∃ z25, tm = [Sl.enc a_, Sl.enc b_, Sl.enc path_, und, und, und, nilS, iv 0, iv c1, x3, x8, und, z22, z25, AV.top, AV.top, AV.top, Sl.enc a_, Sl.enc b_, Sl.enc path_, iv c1, iv c1, bv (!decide (c1 = 0)), und, Sl.enc a_, iv (((a_.getD []).length : Nat) : Int), x3, Sl.enc a_, iv (((a_.getD []).length : Nat) : Int), x8, Sl.enc path_, iv (((path_.getD []).length : Nat) : Int), AV.top, AV.top, AV.top, AV.top, AV.top, AV.top, AV.top, AV.top, AV.top, AV.top, AV.top, AV.top, AV.top, AV.top, AV.top, AV.top, AV.top, AV.top, AV.top, AV.top, AV.top, AV.top, AV.top, AV.top, AV.top, AV.top, AV.top, AV.top, AV.top, AV.top, AV.top, AV.top, AV.top, AV.top, AV.top, AV.top, AV.top, AV.top, AV.top, AV.top, AV.top, AV.top, Sl.enc a_, iv (((a_.getD []).length : Nat) : Int), iv w29, AV.top, AV.top, AV.top, AV.top, AV.top, AV.top, AV.top, AV.top, AV.top, AV.top, AV.top, AV.top, AV.top, AV.top, AV.top, AV.top, AV.top, AV.top, AV.top, AV.top, AV.top, AV.top, AV.top, AV.top, AV.top, AV.top, AV.top, AV.top, AV.top, AV.top, AV.top, AV.top, AV.top, AV.top, AV.top, AV.top, AV.top, AV.top, AV.top, AV.top, AV.top, und] ∧ Hold B h27 [(x3, obS (q20 : Sl Feat)), (x8, obS (q21 : Sl Int)), (z25, obS (w26 : Sl Feat))]) st tm h) : Sim (loopP hm1_impl_BlendFeats xm1_impl_BlendFeats (lb1_impl_BlendFeats env) tm h) (loopT (s1_impl_BlendFeats a_ q20 q21) st) (fun (q : Sl Feat) (r : Res) => match q with | q33 => ∃ (z32 : AV) (z34 : AV) (z35 : AV) (z36 : AV) (h30 : Heap), r = (.exit 2, [Sl.enc a_, Sl.enc b_, Sl.enc path_, und, und, und, nilS, iv 0, iv c1, x3, x8, und, z22, z32, z34, z35, z36, Sl.enc a_, Sl.enc b_, Sl.enc path_, iv c1, iv c1, bv (!decide (c1 = 0)), und, Sl.enc a_, iv (((a_.getD []).length : Nat) : Int), x3, Sl.enc a_, iv (((a_.getD []).length : Nat) : Int), x8, Sl.enc path_, iv (((path_.getD []).length : Nat) : Int), AV.top, AV.top, AV.top, AV.top, AV.top, AV.top, AV.top, AV.top, AV.top, AV.top, AV.top, AV.top, AV.top, AV.top, AV.top, AV.top, AV.top, AV.top, AV.top, AV.top, AV.top, AV.top, AV.top, AV.top, AV.top, AV.top, AV.top, AV.top, AV.top, AV.top, AV.top, AV.top, AV.top, AV.top, AV.top, AV.top, AV.top, AV.top, AV.top, AV.top, AV.top, AV.top, Sl.enc a_, iv (((a_.getD []).length : Nat) : Int), AV.top, AV.top, AV.top, AV.top, AV.top, AV.top, AV.top, AV.top, AV.top, AV.top, AV.top, AV.top, AV.top, AV.top, AV.top, AV.top, AV.top, AV.top, AV.top, AV.top, AV.top, AV.top, AV.top, AV.top, AV.top, AV.top, AV.top, AV.top, AV.top, AV.top, AV.top, AV.top, AV.top, AV.top, AV.top, AV.top, AV.top, AV.top, AV.top, AV.top, AV.top, AV.top, und], h30) ∧ Hold B h30 [(x3, obS (q20 : Sl Feat)), (x8, obS (q21 : Sl Int)), (z32, obS (q33 : Sl Feat))]) := by
  refine loop_sim (Rel := fun (st : (Sl Feat) × Int) tm h27 => match st with | (w26, w29) => ∃ z25, tm = [Sl.enc a_, Sl.enc b_, Sl.enc path_, und, und, und, nilS, iv 0, iv c1, x3, x8, und, z22, z25, AV.top, AV.top, AV.top, Sl.enc a_, Sl.enc b_, Sl.enc path_, iv c1, iv c1, bv (!decide (c1 = 0)), und, Sl.enc a_, iv (((a_.getD []).length : Nat) : Int), x3, Sl.enc a_, iv (((a_.getD []).length : Nat) : Int), x8, Sl.enc path_, iv (((path_.getD []).length : Nat) : Int), AV.top, AV.top, AV.top, AV.top, AV.top, AV.top, AV.top, AV.top, AV.top, AV.top, AV.top, AV.top, AV.top, AV.top, AV.top, AV.top, AV.top, AV.top, AV.top, AV.top, AV.top, AV.top, AV.top, AV.top, AV.top, AV.top, AV.top, AV.top, AV.top, AV.top, AV.top, AV.top, AV.top, AV.top, AV.top, AV.top, AV.top, AV.top, AV.top, AV.top, AV.top, AV.top, Sl.enc a_, iv (((a_.getD []).length : Nat) : Int), iv w29, AV.top, AV.top, AV.top, AV.top, AV.top, AV.top, AV.top, AV.top, AV.top, AV.top, AV.top, AV.top, AV.top, AV.top, AV.top, AV.top, AV.top, AV.top, AV.top, AV.top, AV.top, AV.top, AV.top, AV.top, AV.top, AV.top, AV.top, AV.top, AV.top, AV.top, AV.top, AV.top, AV.top, AV.top, AV.top, AV.top, AV.top, AV.top, AV.top, AV.top, AV.top, und] ∧ Hold B h27 [(x3, obS (q20 : Sl Feat)), (x8, obS (q21 : Sl Int)), (z25, obS (w26 : Sl Feat))]) (fun st tm h27 R => ?_) R
  obtain ⟨w26, w29⟩ := st
  obtain ⟨z25, rfl, O28⟩ := R
  rw [e_lb1_impl_BlendFeats]
  unfold s1_impl_BlendFeats
  dsimp only
  refine sim_let (v := bv (decide (w29 < (((a_.getD []).length : Nat) : Int)))) (aBin_lss _ _) ?_
  refine sim_cond (fun c38 => ?_) (fun c38 => ?_)
  · refine sim_get (Tab.enc h27 a_) (fun m40 a39 hi41 hm42 => ?_)
    refine sim_let (v := AV.agg [iv a39.x, iv a39.y, iv a39.d]) ((Tab.enc h27 a_).ld hm42 true 3 0) ?_
    refine sim_box O28 (cs := [iv 0, iv 0, iv 0]) (by first | rfl | simp) (fun o43 h44 O45 => ?_)
    replace O45 : Hold B h44 [(x3, obS (q20 : Sl Feat)), (x8, obS (q21 : Sl Int)), (z25, obS (w26 : Sl Feat)), (AV.ptr o43 1 0 0, .pt 3 [iv 0, iv 0, iv 0])] := O45
    refine sim_store O45 3 (cs' := [iv a39.x, iv a39.y, iv a39.d]) rfl (by first | rfl | simp) (by simp) (by first | rfl | simp) (by first | rfl | simp [splice]) (fun h47 O48 => ?_)
    replace O48 : Hold B h47 [(x3, obS (q20 : Sl Feat)), (x8, obS (q21 : Sl Int)), (z25, obS (w26 : Sl Feat)), (AV.ptr o43 1 0 0, .pt 3 [iv a39.x, iv a39.y, iv a39.d])] := O48
    refine sim_get (O48.tab (A := Int) (s := q21) 1 rfl) (fun m50 a49 hi51 hm52 => ?_)
    refine sim_let (v := iv a49) ((O48.tab (A := Int) (s := q21) 1 rfl).ld hm52 false 1 0) ?_
    refine sim_get (O48.tab (A := Feat) (s := q20) 0 rfl) (fun m54 a53 hi55 hm56 => ?_)
    refine sim_let (v := elp x3 m54 0) ((O48.tab (A := Feat) (s := q20) 0 rfl).fld _ _ _) ?_
    refine sim_let (v := iv a53.x) ((O48.tab (A := Feat) (s := q20) 0 rfl).ld hm56 false 1 0) ?_
    refine sim_let (v := AV.ptr o43 1 0 0) rfl ?_
    refine sim_let (v := iv a39.x) (O48.ld 3 rfl false 1 0) ?_
    refine sim_let (v := iv (wr (a49 * a39.x))) (aBin_mul _ _) ?_
    refine sim_let (v := iv (wr (a53.x + (wr (a49 * a39.x))))) (aBin_add _ _) ?_
    refine sim_let (v := iv (wr (2 * a49))) (aBin_mul _ _) ?_
    refine sim_callQ2 he_impl_nearestDiv (snapD_int _ _) (snapD_int _ _) (fun c57 => ?_)
    refine sim_let2 (hand_plain (by rfl) _ _) ?_
    refine sim_get (O48.tab (A := Feat) (s := q20) 0 rfl) (fun m59 a58 hi60 hm61 => ?_)
    refine sim_let (v := elp x3 m59 1) ((O48.tab (A := Feat) (s := q20) 0 rfl).fld _ _ _) ?_
    refine sim_let (v := iv a58.y) ((O48.tab (A := Feat) (s := q20) 0 rfl).ld hm61 false 1 1) ?_
    refine sim_let (v := AV.ptr o43 1 0 1) rfl ?_
    refine sim_let (v := iv a39.y) (O48.ld 3 rfl false 1 1) ?_
    refine sim_let (v := iv (wr (a49 * a39.y))) (aBin_mul _ _) ?_
    refine sim_let (v := iv (wr (a58.y + (wr (a49 * a39.y))))) (aBin_add _ _) ?_
    refine sim_let (v := iv (wr (2 * a49))) (aBin_mul _ _) ?_
    refine sim_callQ2 he_impl_nearestDiv (snapD_int _ _) (snapD_int _ _) (fun c62 => ?_)
    refine sim_let2 (hand_plain (by rfl) _ _) ?_
    refine sim_let (v := AV.ptr o43 1 0 2) rfl ?_
    refine sim_let (v := iv a39.d) (O48.ld 3 rfl false 1 2) ?_
    refine sim_let (v := AV.agg [iv c57, iv c62, iv a39.d]) (by first | rfl | simp [aBuild, aFill, splice]) ?_
    refine sim_build (A := Feat) O48 ([(⟨c57, c62, a39.d⟩ : Feat)] : List Feat) rfl (by first | rfl | simp [aFillRows, zrows]) rfl (fun x63 h64 O65 => ?_)
    replace O65 : Hold B h64 [(x3, obS (q20 : Sl Feat)), (x8, obS (q21 : Sl Int)), (z25, obS (w26 : Sl Feat)), (AV.ptr o43 1 0 0, .pt 3 [iv a39.x, iv a39.y, iv a39.d]), (x63, obS ((some ([(⟨c57, c62, a39.d⟩ : Feat)] : List Feat)) : Sl Feat))] := O65
    refine sim_append (A := Feat) (s := w26) O65 2 ([(⟨c57, c62, a39.d⟩ : Feat)] : List Feat) rfl (O65.src (A := Feat) (s := (some ([(⟨c57, c62, a39.d⟩ : Feat)] : List Feat))) 4 rfl) (by decide) (fun x68 h69 O70 => ?_)
    replace O70 : Hold B h69 [(x3, obS (q20 : Sl Feat)), (x8, obS (q21 : Sl Int)), (x68, obS ((appS w26 ([(⟨c57, c62, a39.d⟩ : Feat)] : List Feat)) : Sl Feat)), (AV.ptr o43 1 0 0, .pt 3 [iv a39.x, iv a39.y, iv a39.d]), (x63, obS ((some ([(⟨c57, c62, a39.d⟩ : Feat)] : List Feat)) : Sl Feat))] := O70
    have O72 : Hold B h69 [(x3, obS (q20 : Sl Feat)), (x8, obS (q21 : Sl Int)), (x68, obS ((appS w26 ([(⟨c57, c62, a39.d⟩ : Feat)] : List Feat)) : Sl Feat)), (AV.ptr o43 1 0 0, .pt 3 [iv a39.x, iv a39.y, iv a39.d])] := O70.sel [0, 1, 2, 3] (by decide) rfl
    refine sim_let (v := iv (wr (w29 + 1))) (aBin_add _ _) ?_
    have O73 : Hold B h69 [(x3, obS (q20 : Sl Feat)), (x8, obS (q21 : Sl Int)), (x68, obS ((appS w26 ([(⟨c57, c62, a39.d⟩ : Feat)] : List Feat)) : Sl Feat))] := O72.sel [0, 1, 2] (by decide) rfl
    exact sim_ret ⟨rfl, _, rfl, O73⟩
  · exact sim_ret ⟨nofun, _, _, _, _, _, rfl, O28⟩
theorem tl0_impl_BlendFeats (env : Nat → Contract) {B : Base} (he_impl_nearestDiv : env n_impl_nearestDiv = .pure (C2 (fun c : Int => enc c) t_impl_nearestDiv)) (he_impl_pathable : env n_impl_pathable = .pure (C3 (fun c : Int => enc c) t_impl_pathable)) (a_ : Sl Feat) (b_ : Sl Feat) (path_ : Sl Pair) (c1 : Int) (x3 : AV) (x8 : AV)  {st : (Sl Feat) × (Sl Int) × Int} {tm : TM} {h : Heap} (R : (fun (st : (Sl Feat) × (Sl Int) × Int) tm h15 => match st with | (w13, w14, w17) => tm = [Sl.enc a_, Sl.enc b_, Sl.enc path_, und, und, und, nilS, iv 0, iv c1, x3, x8, und, AV.top, und, und, und, und, Sl.enc a_, Sl.enc b_, Sl.enc path_, iv c1, iv c1, bv (!decide (c1 = 0)), und, Sl.enc a_, iv (((a_.getD []).length : Nat) : Int), x3, Sl.enc a_, iv (((a_.getD []).length : Nat) : Int), x8, Sl.enc path_, iv (((path_.getD []).length : Nat) : Int), iv w17, AV.top, AV.top, AV.top, AV.top, AV.top, AV.top, AV.top, AV.top, AV.top, AV.top, AV.top, AV.top, AV.top, AV.top, AV.top, AV.top, AV.top, AV.top, AV.top, AV.top, AV.top, AV.top, AV.top, AV.top, AV.top, AV.top, AV.top, AV.top, AV.top, AV.top, AV.top, AV.top, AV.top, AV.top, AV.top, AV.top, AV.top, AV.top, AV.top, AV.top, AV.top, und, und, und, und, und, und, und, und, und, und, und, und, und, und, und, und, und, und, und, und, und, und, und, und, und, und, und, und, und, und, und, und, und, und, und, und, und, und, und, und, und, und, und, und, und] ∧ Hold B h15 [(x3, obS (w13 : Sl Feat)), (x8, obS (w14 : Sl Int))]) st tm h) : Sim (loopP hm0_impl_BlendFeats xm0_impl_BlendFeats (lb0_impl_BlendFeats env) tm h) (loopT (s0_impl_BlendFeats b_ path_) st) (fun (q : (Sl Feat) × (Sl Int)) (r : Res) => match q with | (q20, q21) => ∃ (z22 : AV) (h18 : Heap), r = (.exit 0, [Sl.enc a_, Sl.enc b_, Sl.enc path_, und, und, und, nilS, iv 0, iv c1, x3, x8, und, z22, und, und, und, und, Sl.enc a_, Sl.enc b_, Sl.enc path_, iv c1, iv c1, bv (!decide (c1 = 0)), und, Sl.enc a_, iv (((a_.getD []).length : Nat) : Int), x3, Sl.enc a_, iv (((a_.getD []).length : Nat) : Int), x8, Sl.enc path_, iv (((path_.getD []).length : Nat) : Int), AV.top, AV.top, AV.top, AV.top, AV.top, AV.top, AV.top, AV.top, AV.top, AV.top, AV.top, AV.top, AV.top, AV.top, AV.top, AV.top, AV.top, AV.top, AV.top, AV.top, AV.top, AV.top, AV.top, AV.top, AV.top, AV.top, AV.top, AV.top, AV.top, AV.top, AV.top, AV.top, AV.top, AV.top, AV.top, AV.top, AV.top, AV.top, AV.top, AV.top, AV.top, AV.top, und, und, und, und, und, und, und, und, und, und, und, und, und, und, und, und, und, und, und, und, und, und, und, und, und, und, und, und, und, und, und, und, und, und, und, und, und, und, und, und, und, und, und, und, und], h18) ∧ Hold B h18 [(x3, obS (q20 : Sl Feat)), (x8, obS (q21 : Sl Int))]) := by
  refine loop_sim (Rel := fun (st : (Sl Feat) × (Sl Int) × Int) tm h15 => match st with | (w13, w14, w17) => tm = [Sl.enc a_, Sl.enc b_, Sl.enc path_, und, und, und, nilS, iv 0, iv c1, x3, x8, und, AV.top, und, und, und, und, Sl.enc a_, Sl.enc b_, Sl.enc path_, iv c1, iv c1, bv (!decide (c1 = 0)), und, Sl.enc a_, iv (((a_.getD []).length : Nat) : Int), x3, Sl.enc a_, iv (((a_.getD []).length : Nat) : Int), x8, Sl.enc path_, iv (((path_.getD []).length : Nat) : Int), iv w17, AV.top, AV.top, AV.top, AV.top, AV.top, AV.top, AV.top, AV.top, AV.top, AV.top, AV.top, AV.top, AV.top, AV.top, AV.top, AV.top, AV.top, AV.top, AV.top, AV.top, AV.top, AV.top, AV.top, AV.top, AV.top, AV.top, AV.top, AV.top, AV.top, AV.top, AV.top, AV.top, AV.top, AV.top, AV.top, AV.top, AV.top, AV.top, AV.top, AV.top, AV.top, und, und, und, und, und, und, und, und, und, und, und, und, und, und, und, und, und, und, und, und, und, und, und, und, und, und, und, und, und, und, und, und, und, und, und, und, und, und, und, und, und, und, und, und, und] ∧ Hold B h15 [(x3, obS (w13 : Sl Feat)), (x8, obS (w14 : Sl Int))]) (fun st tm h15 R => ?_) R
  obtain ⟨w13, w14, w17⟩ := st
  obtain ⟨rfl, O16⟩ := R
  rw [e_lb0_impl_BlendFeats]
  unfold s0_impl_BlendFeats
  dsimp only
  refine sim_let (v := bv (decide (w17 < (((path_.getD []).length : Nat) : Int)))) (aBin_lss _ _) ?_
  refine sim_cond (fun c77 => ?_) (fun c77 => ?_)
  · refine sim_get (Tab.enc h15 path_) (fun m79 a78 hi80 hm81 => ?_)
    refine sim_let (v := AV.agg [iv a78.i, iv a78.j]) ((Tab.enc h15 path_).ld hm81 true 2 0) ?_
    refine sim_box O16 (cs := [iv 0, iv 0]) (by first | rfl | simp) (fun o82 h83 O84 => ?_)
    replace O84 : Hold B h83 [(x3, obS (w13 : Sl Feat)), (x8, obS (w14 : Sl Int)), (AV.ptr o82 1 0 0, .pt 2 [iv 0, iv 0])] := O84
    refine sim_store O84 2 (cs' := [iv a78.i, iv a78.j]) rfl (by first | rfl | simp) (by simp) (by first | rfl | simp) (by first | rfl | simp [splice]) (fun h86 O87 => ?_)
    replace O87 : Hold B h86 [(x3, obS (w13 : Sl Feat)), (x8, obS (w14 : Sl Int)), (AV.ptr o82 1 0 0, .pt 2 [iv a78.i, iv a78.j])] := O87
    refine sim_let (v := AV.ptr o82 1 0 0) rfl ?_
    refine sim_let (v := iv a78.i) (O87.ld 2 rfl false 1 0) ?_
    refine sim_get (O87.tab (A := Feat) (s := w13) 0 rfl) (fun m89 a88 hi90 hm91 => ?_)
    refine sim_let (v := elp x3 m89 0) ((O87.tab (A := Feat) (s := w13) 0 rfl).fld _ _ _) ?_
    refine sim_let (v := iv a88.x) ((O87.tab (A := Feat) (s := w13) 0 rfl).ld hm91 false 1 0) ?_
    refine sim_let (v := AV.ptr o82 1 0 1) rfl ?_
    refine sim_let (v := iv a78.j) (O87.ld 2 rfl false 1 1) ?_
    refine sim_get (Tab.enc h86 b_) (fun m93 a92 hi94 hm95 => ?_)
    refine sim_let (v := elp (Sl.enc b_) m93 0) ((Tab.enc h86 b_).fld _ _ _) ?_
    refine sim_let (v := iv a92.x) ((Tab.enc h86 b_).ld hm95 false 1 0) ?_
    refine sim_let (v := iv (wr (a88.x + a92.x))) (aBin_add _ _) ?_
    refine sim_get (O87.tab (A := Feat) (s := w13) 0 rfl) (fun m97 a96 hi98 hm99 => ?_)
    refine sim_let (v := elp x3 m97 0) ((O87.tab (A := Feat) (s := w13) 0 rfl).fld _ _ _) ?_
    refine sim_set (A := Feat) O87 0 (⟨wr (a88.x + a92.x), a96.y, a96.d⟩ : Feat) rfl hi98 hm99 rfl (by simp) (by first | rfl | simp) (by first | rfl | simp [splice]) (fun h100 O101 => ?_)
    replace O101 : Hold B h100 [(x3, obS ((setS w13 a78.i (⟨wr (a88.x + a92.x), a96.y, a96.d⟩ : Feat)) : Sl Feat)), (x8, obS (w14 : Sl Int)), (AV.ptr o82 1 0 0, .pt 2 [iv a78.i, iv a78.j])] := O101
    refine sim_let (v := AV.ptr o82 1 0 0) rfl ?_
    refine sim_let (v := iv a78.i) (O101.ld 2 rfl false 1 0) ?_
    refine sim_get (O101.tab (A := Feat) (s := (setS w13 a78.i (⟨wr (a88.x + a92.x), a96.y, a96.d⟩ : Feat))) 0 rfl) (fun m103 a102 hi104 hm105 => ?_)
    refine sim_let (v := elp x3 m103 1) ((O101.tab (A := Feat) (s := (setS w13 a78.i (⟨wr (a88.x + a92.x), a96.y, a96.d⟩ : Feat))) 0 rfl).fld _ _ _) ?_
    refine sim_let (v := iv a102.y) ((O101.tab (A := Feat) (s := (setS w13 a78.i (⟨wr (a88.x + a92.x), a96.y, a96.d⟩ : Feat))) 0 rfl).ld hm105 false 1 1) ?_
    refine sim_let (v := AV.ptr o82 1 0 1) rfl ?_
    refine sim_let (v := iv a78.j) (O101.ld 2 rfl false 1 1) ?_
    refine sim_get (Tab.enc h100 b_) (fun m107 a106 hi108 hm109 => ?_)
    refine sim_let (v := elp (Sl.enc b_) m107 1) ((Tab.enc h100 b_).fld _ _ _) ?_
    refine sim_let (v := iv a106.y) ((Tab.enc h100 b_).ld hm109 false 1 1) ?_
    refine sim_let (v := iv (wr (a102.y + a106.y))) (aBin_add _ _) ?_
    refine sim_get (O101.tab (A := Feat) (s := (setS w13 a78.i (⟨wr (a88.x + a92.x), a96.y, a96.d⟩ : Feat))) 0 rfl) (fun m111 a110 hi112 hm113 => ?_)
    refine sim_let (v := elp x3 m111 1) ((O101.tab (A := Feat) (s := (setS w13 a78.i (⟨wr (a88.x + a92.x), a96.y, a96.d⟩ : Feat))) 0 rfl).fld _ _ _) ?_
    refine sim_set (A := Feat) O101 0 (⟨a110.x, wr (a102.y + a106.y), a110.d⟩ : Feat) rfl hi112 hm113 rfl (by simp) (by first | rfl | simp) (by first | rfl | simp [splice]) (fun h114 O115 => ?_)
    replace O115 : Hold B h114 [(x3, obS ((setS (setS w13 a78.i (⟨wr (a88.x + a92.x), a96.y, a96.d⟩ : Feat)) a78.i (⟨a110.x, wr (a102.y + a106.y), a110.d⟩ : Feat)) : Sl Feat)), (x8, obS (w14 : Sl Int)), (AV.ptr o82 1 0 0, .pt 2 [iv a78.i, iv a78.j])] := O115
    refine sim_let (v := AV.ptr o82 1 0 0) rfl ?_
    refine sim_let (v := iv a78.i) (O115.ld 2 rfl false 1 0) ?_
    refine sim_get (O115.tab (A := Int) (s := w14) 1 rfl) (fun m117 a116 hi118 hm119 => ?_)
    refine sim_let (v := iv a116) ((O115.tab (A := Int) (s := w14) 1 rfl).ld hm119 false 1 0) ?_
    refine sim_let (v := iv (wr (a116 + 1))) (aBin_add _ _) ?_
    refine sim_get (O115.tab (A := Int) (s := w14) 1 rfl) (fun m121 a120 hi122 hm123 => ?_)
    refine sim_set (A := Int) O115 1 (wr (a116 + 1)) rfl hi122 hm123 rfl (by simp) (by first | rfl | simp) (by first | rfl | simp [splice]) (fun h124 O125 => ?_)
    replace O125 : Hold B h124 [(x3, obS ((setS (setS w13 a78.i (⟨wr (a88.x + a92.x), a96.y, a96.d⟩ : Feat)) a78.i (⟨a110.x, wr (a102.y + a106.y), a110.d⟩ : Feat)) : Sl Feat)), (x8, obS ((setS w14 a78.i (wr (a116 + 1))) : Sl Int)), (AV.ptr o82 1 0 0, .pt 2 [iv a78.i, iv a78.j])] := O125
    refine sim_let (v := iv (wr (w17 + 1))) (aBin_add _ _) ?_
    have O126 : Hold B h124 [(x3, obS ((setS (setS w13 a78.i (⟨wr (a88.x + a92.x), a96.y, a96.d⟩ : Feat)) a78.i (⟨a110.x, wr (a102.y + a106.y), a110.d⟩ : Feat)) : Sl Feat)), (x8, obS ((setS w14 a78.i (wr (a116 + 1))) : Sl Int))] := O125.sel [0, 1] (by decide) rfl
    exact sim_ret ⟨rfl, rfl, O126⟩
  · exact sim_ret ⟨nofun, _, _, rfl, O16⟩
theorem ts_impl_BlendFeats (env : Nat → Contract) (he_impl_nearestDiv : env n_impl_nearestDiv = .pure (C2 (fun c : Int => enc c) t_impl_nearestDiv)) (he_impl_pathable : env n_impl_pathable = .pure (C3 (fun c : Int => enc c) t_impl_pathable)) (a_ : Sl Feat) (b_ : Sl Feat) (path_ : Sl Pair) : Sim (denFn Try.prog env n_impl_BlendFeats [Sl.enc a_, Sl.enc b_, Sl.enc path_] []) (t_impl_BlendFeats a_ b_ path_) fun c p => release p.2 depth p.1 = some ((fun c : (Sl Feat) × Int => AV.tup [rS c.1, enc c.2]) c) := by
  have O := Hold.nil []
  generalize hB : (⟨[], []⟩ : Base) = B at O
  clear hB
  rw [e_impl_BlendFeats]
  unfold t_impl_BlendFeats
  refine sim_call3 he_impl_pathable (snapD_enc _ _) (snapD_enc _ _) (snapD_enc _ _) (fun c1 => ?_)
  refine sim_let2 (hand_plain (by rfl) _ _) ?_
  refine sim_let (v := bv (!decide (c1 = 0))) (aCmp_ne _ _) ?_
  refine sim_cond (fun c2 => ?_) (fun c2 => ?_)
  · exact sim_ret (release_plain (by rfl) _)
  · refine sim_let (v := iv (((a_.getD []).length : Nat) : Int)) (Tab.enc [] a_).len ?_
    refine sim_make (A := Feat) O (⟨0, 0, 0⟩ : Feat) rfl (by decide) (fun l7 x3 h4 O5 => ?_)
    replace O5 : Hold B h4 [(x3, obS ((some l7) : Sl Feat))] := O5
    refine sim_let (v := iv (((a_.getD []).length : Nat) : Int)) (Tab.enc h4 a_).len ?_
    refine sim_make (A := Int) O5 0 rfl (by decide) (fun l12 x8 h9 O10 => ?_)
    replace O10 : Hold B h9 [(x3, obS ((some l7) : Sl Feat)), (x8, obS ((some l12) : Sl Int))] := O10
    refine sim_let (v := iv (((path_.getD []).length : Nat) : Int)) (Tab.enc h9 path_).len ?_
    refine sim_bind ((tl0_impl_BlendFeats env he_impl_nearestDiv he_impl_pathable a_ b_ path_ c1 x3 x8) ⟨rfl, O10⟩) (fun qq129 r hq => ?_)
    obtain ⟨q20, q21⟩ := qq129
    obtain ⟨z22, h18, rfl, O19⟩ := hq
    rw [e_lk0x0_impl_BlendFeats]
    refine sim_let (v := iv (((a_.getD []).length : Nat) : Int)) (Tab.enc h18 a_).len ?_
    have O23 : Hold B h18 [(x3, obS (q20 : Sl Feat)), (x8, obS (q21 : Sl Int)), (nilS, obS ((none : Sl Feat) : Sl Feat))] := O19.addnil
    refine sim_bind ((tl1_impl_BlendFeats env he_impl_nearestDiv he_impl_pathable a_ b_ path_ c1 x3 x8 q20 q21 z22) ⟨_, rfl, O23⟩) (fun qq76 r hq => ?_)
    revert hq
    revert qq76
    intro q33 hq
    obtain ⟨z32, z34, z35, z36, h30, rfl, O31⟩ := hq
    rw [e_lk1x2_impl_BlendFeats]
    have O37 : Hold B h30 [(z32, obS (q33 : Sl Feat))] := O31.sel [2] (by decide) rfl
    exact sim_ret (release_of (by simp only [ids_tup, ids_aggD, ids_agg, ids_iv, ids_bv, ids_sv, ids_bt, ids_nilS, ids_enc, O37.idsD (A := Feat) (s := q33) 0 rfl, List.map_append, List.map_nil, List.flatMap_cons, List.flatMap_nil, List.append_nil, List.nil_append]; simpa only [List.flatMap_cons, List.flatMap_nil, List.append_nil] using O37.nd2) (by simp only [rel_tup, rel_aggD, rel_agg, rel_iv, rel_bv, rel_sv, rel_bt, rel_nilS, rel_enc, O37.relD (A := Feat) (s := q33) 0 rfl, omapc, omapn, obind_sm] <;> rfl))
theorem tt_impl_BlendFeats : PureOK Try.prog n_impl_BlendFeats (C3 (fun c : (Sl Feat) × Int => AV.tup [rS c.1, enc c.2]) t_impl_BlendFeats) := pureC3 (Econs tt_impl_nearestDiv (Econs tt_impl_pathable E0)) mixed hb_impl_BlendFeats fun a_ b_ path_ => ts_impl_BlendFeats _ (by simp [envL]) (by simp [envL]) a_ b_ path_

def s0_spec_l08Same (a_ : Sl Feat) (b_ : Sl Feat) : Int → Option (Sum Int (Sum Unit Bool)) := fun w4 =>
  bif decide (w4 < (((a_.getD []).length : Nat) : Int)) then
    obind (getI (a_.getD []) w4) fun a14 =>
    obind (getI (b_.getD []) w4) fun a18 =>
    bif !decide (a14 = a18) then
      some (.inr (.inr false))
    else
      some (.inl (wr (w4 + 1)))
  else
    some (.inr (.inl ()))
def t_spec_l08Same (a_ : Sl Feat) (b_ : Sl Feat) : Option Bool :=
  bif !decide ((((a_.getD []).length : Nat) : Int) = (((b_.getD []).length : Nat) : Int)) then
    some false
  else
    obind (loopT (s0_spec_l08Same a_ b_) 0) fun qq27 => match qq27 with
    | (.inl _) =>
        some true
    | (.inr q11) =>
        some q11

theorem tl0_spec_l08Same (env : Nat → Contract) {B : Base}  (a_ : Sl Feat) (b_ : Sl Feat)  {st : Int} {tm : TM} {h : Heap} (R : (fun (st : Int) tm h2 => match st with | w4 => tm = [Sl.enc a_, Sl.enc b_, und, und, AV.top, iv w4, Sl.enc a_, iv (((a_.getD []).length : Nat) : Int), Sl.enc b_, iv (((b_.getD []).length : Nat) : Int), bv (!decide ((((a_.getD []).length : Nat) : Int) = (((b_.getD []).length : Nat) : Int))), AV.top, AV.top, AV.top, AV.top, AV.top, AV.top, AV.top, AV.top, AV.top, AV.top, AV.top, AV.top, AV.top, AV.top, AV.top] ∧ Hold B h2 []) st tm h) : Sim (loopP hm0_spec_l08Same xm0_spec_l08Same (lb0_spec_l08Same env) tm h) (loopT (s0_spec_l08Same a_ b_) st) (fun (q : Sum Unit Bool) (r : Res) => match q with | .inl _ => ∃ (q8 : Int) (z7 : AV) (h5 : Heap), r = (.exit 0, [Sl.enc a_, Sl.enc b_, und, und, z7, iv q8, Sl.enc a_, iv (((a_.getD []).length : Nat) : Int), Sl.enc b_, iv (((b_.getD []).length : Nat) : Int), bv (!decide ((((a_.getD []).length : Nat) : Int) = (((b_.getD []).length : Nat) : Int))), AV.top, AV.top, AV.top, AV.top, AV.top, AV.top, AV.top, AV.top, AV.top, AV.top, AV.top, AV.top, AV.top, AV.top, AV.top], h5) ∧ Hold B h5 [] | .inr q11 => ∃ (q12 : Int) (h9 : Heap), r = (.ret, [Sl.enc a_, Sl.enc b_, und, und, bv q11, iv q12, Sl.enc a_, iv (((a_.getD []).length : Nat) : Int), Sl.enc b_, iv (((b_.getD []).length : Nat) : Int), bv (!decide ((((a_.getD []).length : Nat) : Int) = (((b_.getD []).length : Nat) : Int))), AV.top, AV.top, AV.top, AV.top, AV.top, AV.top, AV.top, AV.top, AV.top, AV.top, AV.top, AV.top, AV.top, AV.top, AV.top], h9) ∧ Hold B h9 []) := by
  refine loop_sim (Rel := fun (st : Int) tm h2 => match st with | w4 => tm = [Sl.enc a_, Sl.enc b_, und, und, AV.top, iv w4, Sl.enc a_, iv (((a_.getD []).length : Nat) : Int), Sl.enc b_, iv (((b_.getD []).length : Nat) : Int), bv (!decide ((((a_.getD []).length : Nat) : Int) = (((b_.getD []).length : Nat) : Int))), AV.top, AV.top, AV.top, AV.top, AV.top, AV.top, AV.top, AV.top, AV.top, AV.top, AV.top, AV.top, AV.top, AV.top, AV.top] ∧ Hold B h2 []) (fun w4 tm h2 R => ?_) R
  obtain ⟨rfl, O3⟩ := R
  rw [e_lb0_spec_l08Same]
  unfold s0_spec_l08Same
  dsimp only
  refine sim_let (v := iv (((a_.getD []).length : Nat) : Int)) (Tab.enc h2 a_).len ?_
  refine sim_let (v := bv (decide (w4 < (((a_.getD []).length : Nat) : Int)))) (aBin_lss _ _) ?_
  refine sim_cond (fun c13 => ?_) (fun c13 => ?_)
  · refine sim_get (Tab.enc h2 a_) (fun m15 a14 hi16 hm17 => ?_)
    refine sim_let (v := AV.agg [iv a14.x, iv a14.y, iv a14.d]) ((Tab.enc h2 a_).ld hm17 true 3 0) ?_
    refine sim_get (Tab.enc h2 b_) (fun m19 a18 hi20 hm21 => ?_)
    refine sim_let (v := AV.agg [iv a18.x, iv a18.y, iv a18.d]) ((Tab.enc h2 b_).ld hm21 true 3 0) ?_
    refine sim_let (v := bv (!decide (a14 = a18))) (aCmp_Feat a14 a18).2 ?_
    refine sim_cond (fun c22 => ?_) (fun c22 => ?_)
    · exact sim_ret ⟨nofun, _, _, rfl, O3⟩
    · refine sim_let (v := iv (wr (w4 + 1))) (aBin_add _ _) ?_
      exact sim_ret ⟨rfl, rfl, O3⟩
  · exact sim_ret ⟨nofun, _, _, _, rfl, O3⟩
theorem ts_spec_l08Same (env : Nat → Contract)  (a_ : Sl Feat) (b_ : Sl Feat) : Sim (denFn Try.prog env n_spec_l08Same [Sl.enc a_, Sl.enc b_] []) (t_spec_l08Same a_ b_) fun c p => release p.2 depth p.1 = some ((fun c : Bool => enc c) c) := by
  have O := Hold.nil []
  generalize hB : (⟨[], []⟩ : Base) = B at O
  clear hB
  rw [e_spec_l08Same]
  unfold t_spec_l08Same
  refine sim_let (v := iv (((a_.getD []).length : Nat) : Int)) (Tab.enc [] a_).len ?_
  refine sim_let (v := iv (((b_.getD []).length : Nat) : Int)) (Tab.enc [] b_).len ?_
  refine sim_let (v := bv (!decide ((((a_.getD []).length : Nat) : Int) = (((b_.getD []).length : Nat) : Int)))) (aCmp_ne _ _) ?_
  refine sim_cond (fun c1 => ?_) (fun c1 => ?_)
  · exact sim_ret (release_plain (by rfl) _)
  · refine sim_bind ((tl0_spec_l08Same env a_ b_) ⟨rfl, O⟩) (fun qq27 r hq => ?_)
    rcases qq27 with _ | q11
    · obtain ⟨q8, z7, h5, rfl, O6⟩ := hq
      rw [e_lk0x0_spec_l08Same]
      exact sim_ret (release_plain (by rfl) _)
    · obtain ⟨q12, h9, rfl, O10⟩ := hq
      rw [e_lk0r_spec_l08Same]
      exact sim_ret (release_plain (by rfl) _)
theorem tt_spec_l08Same : PureOK Try.prog n_spec_l08Same (C2 (fun c : Bool => enc c) t_spec_l08Same) := pureC2 E0 mixed hb_spec_l08Same fun a_ b_ => ts_spec_l08Same _  a_ b_

def t_spec_SameFeats (a_ : Sl Feat) (b_ : Sl Feat) : Option Bool :=
  obind (t_spec_l08Same a_ b_) fun c1 =>
  some c1

theorem ts_spec_SameFeats (env : Nat → Contract) (he_spec_l08Same : env n_spec_l08Same = .pure (C2 (fun c : Bool => enc c) t_spec_l08Same)) (a_ : Sl Feat) (b_ : Sl Feat) : Sim (denFn Try.prog env n_spec_SameFeats [Sl.enc a_, Sl.enc b_] []) (t_spec_SameFeats a_ b_) fun c p => release p.2 depth p.1 = some ((fun c : Bool => enc c) c) := by
  have O := Hold.nil []
  generalize hB : (⟨[], []⟩ : Base) = B at O
  clear hB
  rw [e_spec_SameFeats]
  unfold t_spec_SameFeats
  refine sim_call2 he_spec_l08Same (snapD_enc _ _) (snapD_enc _ _) (fun c1 => ?_)
  refine sim_let2 (hand_plain (by rfl) _ _) ?_
  exact sim_ret (release_plain (by rfl) _)
theorem tt_spec_SameFeats : PureOK Try.prog n_spec_SameFeats (C2 (fun c : Bool => enc c) t_spec_SameFeats) := pureC2 (Econs tt_spec_l08Same E0) mixed hb_spec_SameFeats fun a_ b_ => ts_spec_SameFeats _ (by simp [envL]) a_ b_

def s2_laws_FnBlends (c3 : (Sl Feat) × (Sl Feat) × Int) (c29 : (Sl Pair)) (w49 : Int) : (Int × Int × Int) → Option (Sum (Int × Int × Int) (Int × Int)) := fun (w77, w78, w79) =>
  bif decide (w79 < (((c29.getD []).length : Nat) : Int)) then
    obind (getI (c29.getD []) w79) fun a126 =>
    bif decide (a126.i = w49) then
      obind (getI (c29.getD []) w79) fun a131 =>
      obind (getI (c3.2.1.getD []) a131.j) fun a135 =>
      bif decide (a135.x < w77) then
        bif decide (w78 < a135.x) then
          some (.inl (a135.x, a135.x, wr (w79 + 1)))
        else
          some (.inl (a135.x, w78, wr (w79 + 1)))
      else
        bif decide (w78 < a135.x) then
          some (.inl (w77, a135.x, wr (w79 + 1)))
        else
          some (.inl (w77, w78, wr (w79 + 1)))
    else
      some (.inl (w77, w78, wr (w79 + 1)))
  else
    some (.inr (w77, w78))
def s1_laws_FnBlends (c3 : (Sl Feat) × (Sl Feat) × Int) (c29 : (Sl Pair)) (c34 : (Sl Feat) × Int) : Int → Option (Sum Int (Sum Unit Bool)) := fun w49 =>
  bif decide (w49 < (((c3.1.getD []).length : Nat) : Int)) then
    obind (getI (c3.1.getD []) w49) fun a67 =>
    obind (getI (c3.1.getD []) w49) fun a71 =>
    obind (loopT (s2_laws_FnBlends c3 c29 w49) (a67.x, a71.x, 0)) fun (q82, q83) =>
    obind (getI (c34.1.getD []) w49) fun a86 =>
    obind (bif decide (a86.x < q82) then some false else (obind (getI (c34.1.getD []) w49) fun a91 => some (decide (q83 < a91.x)))) fun c95 =>
    obind (bif (bif decide (a86.x < q82) then true else c95) then some false else (obind (getI (c34.1.getD []) w49) fun a103 => obind (getI (c3.1.getD []) w49) fun a107 => some (!decide (a103.d = a107.d)))) fun c111 =>
    bif (bif (bif decide (a86.x < q82) then true else c95) then true else c111) then
      some (.inr (.inr false))
    else
      some (.inl (wr (w49 + 1)))
  else
    some (.inr (.inl ()))
def s0_laws_FnBlends (c3 : (Sl Feat) × (Sl Feat) × Int) : ((Sl Pair) × Int) → Option (Sum ((Sl Pair) × Int) (Sl Pair)) := fun (w15, w18) =>
  bif decide (w18 < (((c3.1.getD []).length : Nat) : Int)) then
    obind (appO w15 ([(⟨w18, w18⟩ : Pair)] : List Pair)) fun _ =>
    some (.inl ((appS w15 ([(⟨w18, w18⟩ : Pair)] : List Pair)), wr (w18 + 1)))
  else
    some (.inr w15)
def t_laws_FnBlends (code_ : Sl UInt8) (more_ : Sl UInt8) : Option Bool :=
  obind (t_laws_a2Long code_ more_) fun c1 =>
  bif c1 then
    some true
  else
    obind (t_spec_A2Two code_) fun c3 =>
    obind (loopT (s0_laws_FnBlends c3) ((some ([] : List Pair)), 0)) fun q22 =>
    obind (t_impl_BlendFeats c3.1 c3.1 q22) fun c24 =>
    obind (t_spec_A2Path more_ (((c3.1.getD []).length : Nat) : Int) (((c3.2.1.getD []).length : Nat) : Int)) fun c29 =>
    obind (t_impl_BlendFeats c3.1 c3.2.1 c29) fun c34 =>
    obind (bif !decide (c24.2 = 0) then some false else (some (!decide (c34.2 = 0)))) fun c40 =>
    obind (bif (bif !decide (c24.2 = 0) then true else c40) then some false else (obind (t_spec_SameFeats c24.1 c3.1) fun c42 => some (!c42))) fun c43 =>
    obind (bif (bif (bif !decide (c24.2 = 0) then true else c40) then true else c43) then some false else (some (!decide ((((c34.1.getD []).length : Nat) : Int) = (((c3.1.getD []).length : Nat) : Int))))) fun c45 =>
    bif (bif (bif (bif !decide (c24.2 = 0) then true else c40) then true else c43) then true else c45) then
      some false
    else
      obind (loopT (s1_laws_FnBlends c3 c29 c34) 0) fun qq152 => match qq152 with
      | (.inl _) =>
          some true
      | (.inr q60) =>
          some q60

theorem tl2_laws_FnBlends (env : Nat → Contract) {B : Base} (he_impl_BlendFeats : env n_impl_BlendFeats = .pure (C3 (fun c : (Sl Feat) × Int => AV.tup [rS c.1, enc c.2]) t_impl_BlendFeats)) (he_laws_a2Long : env n_laws_a2Long = .pure (C2 (fun c : Bool => enc c) t_laws_a2Long)) (he_spec_A2Path : env n_spec_A2Path = .pure (C3 (fun c : (Sl Pair) => rS c) t_spec_A2Path)) (he_spec_A2Two : env n_spec_A2Two = .pure (C1 (fun c : (Sl Feat) × (Sl Feat) × Int => AV.tup [rS c.1, rS c.2.1, enc c.2.2]) t_spec_A2Two)) (he_spec_SameFeats : env n_spec_SameFeats = .pure (C2 (fun c : Bool => enc c) t_spec_SameFeats)) (code_ : Sl UInt8) (more_ : Sl UInt8) (c1 : Bool) (c3 : (Sl Feat) × (Sl Feat) × Int) (x5 : AV) (x7 : AV) (x10 : AV) (z21 : AV) (q22 : Sl Pair) (q23 : Int) (c24 : (Sl Feat) × Int) (x26 : AV) (c29 : (Sl Pair)) (x31 : AV) (c34 : (Sl Feat) × Int) (x36 : AV) (c40 : Bool) (c43 : Bool) (c45 : Bool) (w49 : Int) (a67 : Feat) (m68 : Nat) (a71 : Feat) (m72 : Nat)  {st : Int × Int × Int} {tm : TM} {h : Heap} (R : (fun (st : Int × Int × Int) tm h75 => match st with | (w77, w78, w79) => tm = [Sl.enc code_, Sl.enc more_, und, und, AV.top, x5, x7, iv c3.2.2, z21, iv q23, x26, iv c24.2, x31, x36, iv c34.2, iv w49, iv w77, iv w78, iv w79, AV.top, Sl.enc code_, Sl.enc more_, bv c1, AV.tup [x5, x7, iv c3.2.2], Sl.enc code_, AV.tup [x5, x7, iv c3.2.2], x5, x7, iv c3.2.2, x10, AV.top, AV.top, AV.top, AV.top, AV.top, AV.top, AV.top, AV.top, AV.top, AV.top, AV.top, AV.top, AV.tup [x26, iv c24.2], x5, x5, z21, AV.tup [x26, iv c24.2], x26, iv c24.2, Sl.enc more_, x5, iv (((c3.1.getD []).length : Nat) : Int), x7, iv (((c3.2.1.getD []).length : Nat) : Int), x31, AV.tup [x36, iv c34.2], x5, x7, x31, AV.tup [x36, iv c34.2], x36, iv c34.2, iv c24.2, bv (!decide (c24.2 = 0)), bv (!decide (c24.2 = 0)), AV.top, cond (!decide (c24.2 = 0)) und (bv c40), bv (bif !decide (c24.2 = 0) then true else c40), bv (bif !decide (c24.2 = 0) then true else c40), AV.top, AV.top, AV.top, cond (bif !decide (c24.2 = 0) then true else c40) und (bv c43), bv (bif (bif !decide (c24.2 = 0) then true else c40) then true else c43), bv (bif (bif !decide (c24.2 = 0) then true else c40) then true else c43), AV.top, AV.top, AV.top, AV.top, cond (bif (bif !decide (c24.2 = 0) then true else c40) then true else c43) und (bv c45), bv (bif (bif (bif !decide (c24.2 = 0) then true else c40) then true else c43) then true else c45), iv w49, x5, iv (((c3.1.getD []).length : Nat) : Int), bv (decide (w49 < (((c3.1.getD []).length : Nat) : Int))), AV.top, AV.top, x5, iv w49, elp x5 m68 0, elp x5 m68 0, iv a67.x, x5, iv w49, elp x5 m72 0, elp x5 m72 0, iv a71.x, AV.top, AV.top, AV.top, AV.top, AV.top, AV.top, AV.top, AV.top, AV.top, AV.top, AV.top, AV.top, AV.top, AV.top, AV.top, AV.top, AV.top, AV.top, AV.top, AV.top, AV.top, AV.top, AV.top, AV.top, AV.top, AV.top, AV.top, AV.top, AV.top, AV.top, AV.top, AV.top, AV.top, AV.top, AV.top, AV.top, AV.top, AV.top, AV.top, AV.top, AV.top, AV.top, AV.top, AV.top, AV.top, AV.top, AV.top, AV.top, AV.top, AV.top, AV.top, AV.top, AV.top, AV.top, AV.top, AV.top, AV.top, AV.top, AV.top] ∧ Hold B h75 [(x5, obS (c3.1 : Sl Feat)), (x7, obS (c3.2.1 : Sl Feat)), (z21, obS (q22 : Sl Pair)), (x26, obS (c24.1 : Sl Feat)), (x31, obS (c29 : Sl Pair)), (x36, obS (c34.1 : Sl Feat))]) st tm h) : Sim (loopP hm2_laws_FnBlends xm2_laws_FnBlends (lb2_laws_FnBlends env) tm h) (loopT (s2_laws_FnBlends c3 c29 w49) st) (fun (q : Int × Int) (r : Res) => match q with | (q82, q83) => ∃ (q84 : Int) (z85 : AV) (h80 : Heap), r = (.exit 4, [Sl.enc code_, Sl.enc more_, und, und, AV.top, x5, x7, iv c3.2.2, z21, iv q23, x26, iv c24.2, x31, x36, iv c34.2, iv w49, iv q82, iv q83, iv q84, z85, Sl.enc code_, Sl.enc more_, bv c1, AV.tup [x5, x7, iv c3.2.2], Sl.enc code_, AV.tup [x5, x7, iv c3.2.2], x5, x7, iv c3.2.2, x10, AV.top, AV.top, AV.top, AV.top, AV.top, AV.top, AV.top, AV.top, AV.top, AV.top, AV.top, AV.top, AV.tup [x26, iv c24.2], x5, x5, z21, AV.tup [x26, iv c24.2], x26, iv c24.2, Sl.enc more_, x5, iv (((c3.1.getD []).length : Nat) : Int), x7, iv (((c3.2.1.getD []).length : Nat) : Int), x31, AV.tup [x36, iv c34.2], x5, x7, x31, AV.tup [x36, iv c34.2], x36, iv c34.2, iv c24.2, bv (!decide (c24.2 = 0)), bv (!decide (c24.2 = 0)), AV.top, cond (!decide (c24.2 = 0)) und (bv c40), bv (bif !decide (c24.2 = 0) then true else c40), bv (bif !decide (c24.2 = 0) then true else c40), AV.top, AV.top, AV.top, cond (bif !decide (c24.2 = 0) then true else c40) und (bv c43), bv (bif (bif !decide (c24.2 = 0) then true else c40) then true else c43), bv (bif (bif !decide (c24.2 = 0) then true else c40) then true else c43), AV.top, AV.top, AV.top, AV.top, cond (bif (bif !decide (c24.2 = 0) then true else c40) then true else c43) und (bv c45), bv (bif (bif (bif !decide (c24.2 = 0) then true else c40) then true else c43) then true else c45), iv w49, x5, iv (((c3.1.getD []).length : Nat) : Int), bv (decide (w49 < (((c3.1.getD []).length : Nat) : Int))), AV.top, AV.top, x5, iv w49, elp x5 m68 0, elp x5 m68 0, iv a67.x, x5, iv w49, elp x5 m72 0, elp x5 m72 0, iv a71.x, AV.top, AV.top, AV.top, AV.top, AV.top, AV.top, AV.top, AV.top, AV.top, AV.top, AV.top, AV.top, AV.top, AV.top, AV.top, AV.top, AV.top, AV.top, AV.top, AV.top, AV.top, AV.top, AV.top, AV.top, AV.top, AV.top, AV.top, AV.top, AV.top, AV.top, AV.top, AV.top, AV.top, AV.top, AV.top, AV.top, AV.top, AV.top, AV.top, AV.top, AV.top, AV.top, AV.top, AV.top, AV.top, AV.top, AV.top, AV.top, AV.top, AV.top, AV.top, AV.top, AV.top, AV.top, AV.top, AV.top, AV.top, AV.top, AV.top], h80) ∧ Hold B h80 [(x5, obS (c3.1 : Sl Feat)), (x7, obS (c3.2.1 : Sl Feat)), (z21, obS (q22 : Sl Pair)), (x26, obS (c24.1 : Sl Feat)), (x31, obS (c29 : Sl Pair)), (x36, obS (c34.1 : Sl Feat))]) := by
  refine loop_sim (Rel := fun (st : Int × Int × Int) tm h75 => match st with | (w77, w78, w79) => tm = [Sl.enc code_, Sl.enc more_, und, und, AV.top, x5, x7, iv c3.2.2, z21, iv q23, x26, iv c24.2, x31, x36, iv c34.2, iv w49, iv w77, iv w78, iv w79, AV.top, Sl.enc code_, Sl.enc more_, bv c1, AV.tup [x5, x7, iv c3.2.2], Sl.enc code_, AV.tup [x5, x7, iv c3.2.2], x5, x7, iv c3.2.2, x10, AV.top, AV.top, AV.top, AV.top, AV.top, AV.top, AV.top, AV.top, AV.top, AV.top, AV.top, AV.top, AV.tup [x26, iv c24.2], x5, x5, z21, AV.tup [x26, iv c24.2], x26, iv c24.2, Sl.enc more_, x5, iv (((c3.1.getD []).length : Nat) : Int), x7, iv (((c3.2.1.getD []).length : Nat) : Int), x31, AV.tup [x36, iv c34.2], x5, x7, x31, AV.tup [x36, iv c34.2], x36, iv c34.2, iv c24.2, bv (!decide (c24.2 = 0)), bv (!decide (c24.2 = 0)), AV.top, cond (!decide (c24.2 = 0)) und (bv c40), bv (bif !decide (c24.2 = 0) then true else c40), bv (bif !decide (c24.2 = 0) then true else c40), AV.top, AV.top, AV.top, cond (bif !decide (c24.2 = 0) then true else c40) und (bv c43), bv (bif (bif !decide (c24.2 = 0) then true else c40) then true else c43), bv (bif (bif !decide (c24.2 = 0) then true else c40) then true else c43), AV.top, AV.top, AV.top, AV.top, cond (bif (bif !decide (c24.2 = 0) then true else c40) then true else c43) und (bv c45), bv (bif (bif (bif !decide (c24.2 = 0) then true else c40) then true else c43) then true else c45), iv w49, x5, iv (((c3.1.getD []).length : Nat) : Int), bv (decide (w49 < (((c3.1.getD []).length : Nat) : Int))), AV.top, AV.top, x5, iv w49, elp x5 m68 0, elp x5 m68 0, iv a67.x, x5, iv w49, elp x5 m72 0, elp x5 m72 0, iv a71.x, AV.top, AV.top, AV.top, AV.top, AV.top, AV.top, AV.top, AV.top, AV.top, AV.top, AV.top, AV.top, AV.top, AV.top, AV.top, AV.top, AV.top, AV.top, AV.top, AV.top, AV.top, AV.top, AV.top, AV.top, AV.top, AV.top, AV.top, AV.top, AV.top, AV.top, AV.top, AV.top, AV.top, AV.top, AV.top, AV.top, AV.top, AV.top, AV.top, AV.top, AV.top, AV.top, AV.top, AV.top, AV.top, AV.top, AV.top, AV.top, AV.top, AV.top, AV.top, AV.top, AV.top, AV.top, AV.top, AV.top, AV.top, AV.top, AV.top] ∧ Hold B h75 [(x5, obS (c3.1 : Sl Feat)), (x7, obS (c3.2.1 : Sl Feat)), (z21, obS (q22 : Sl Pair)), (x26, obS (c24.1 : Sl Feat)), (x31, obS (c29 : Sl Pair)), (x36, obS (c34.1 : Sl Feat))]) (fun st tm h75 R => ?_) R
  obtain ⟨w77, w78, w79⟩ := st
  obtain ⟨rfl, O76⟩ := R
  rw [e_lb2_laws_FnBlends]
  unfold s2_laws_FnBlends
  dsimp only
  refine sim_let (v := iv (((c29.getD []).length : Nat) : Int)) (O76.tab (A := Pair) (s := c29) 4 rfl).len ?_
  refine sim_let (v := bv (decide (w79 < (((c29.getD []).length : Nat) : Int)))) (aBin_lss _ _) ?_
  refine sim_cond (fun c125 => ?_) (fun c125 => ?_)
  · refine sim_get (O76.tab (A := Pair) (s := c29) 4 rfl) (fun m127 a126 hi128 hm129 => ?_)
    refine sim_let (v := elp x31 m127 0) ((O76.tab (A := Pair) (s := c29) 4 rfl).fld _ _ _) ?_
    refine sim_let (v := iv a126.i) ((O76.tab (A := Pair) (s := c29) 4 rfl).ld hm129 false 1 0) ?_
    refine sim_let (v := bv (decide (a126.i = w49))) (aCmp_eq _ _) ?_
    refine sim_cond (fun c130 => ?_) (fun c130 => ?_)
    · refine sim_get (O76.tab (A := Pair) (s := c29) 4 rfl) (fun m132 a131 hi133 hm134 => ?_)
      refine sim_let (v := elp x31 m132 1) ((O76.tab (A := Pair) (s := c29) 4 rfl).fld _ _ _) ?_
      refine sim_let (v := iv a131.j) ((O76.tab (A := Pair) (s := c29) 4 rfl).ld hm134 false 1 1) ?_
      refine sim_get (O76.tab (A := Feat) (s := c3.2.1) 1 rfl) (fun m136 a135 hi137 hm138 => ?_)
      refine sim_let (v := elp x7 m136 0) ((O76.tab (A := Feat) (s := c3.2.1) 1 rfl).fld _ _ _) ?_
      refine sim_let (v := iv a135.x) ((O76.tab (A := Feat) (s := c3.2.1) 1 rfl).ld hm138 false 1 0) ?_
      refine sim_let (v := bv (decide (a135.x < w77))) (aBin_lss _ _) ?_
      refine sim_cond (fun c139 => ?_) (fun c139 => ?_)
      · refine sim_let (v := bv (decide (w78 < a135.x))) (aBin_gtr _ _) ?_
        refine sim_cond (fun c140 => ?_) (fun c140 => ?_)
        · refine sim_let (v := iv (wr (w79 + 1))) (aBin_add _ _) ?_
          exact sim_ret ⟨rfl, rfl, O76⟩
        · refine sim_let (v := iv (wr (w79 + 1))) (aBin_add _ _) ?_
          exact sim_ret ⟨rfl, rfl, O76⟩
      · refine sim_let (v := bv (decide (w78 < a135.x))) (aBin_gtr _ _) ?_
        refine sim_cond (fun c143 => ?_) (fun c143 => ?_)
        · refine sim_let (v := iv (wr (w79 + 1))) (aBin_add _ _) ?_
          exact sim_ret ⟨rfl, rfl, O76⟩
        · refine sim_let (v := iv (wr (w79 + 1))) (aBin_add _ _) ?_
          exact sim_ret ⟨rfl, rfl, O76⟩
    · refine sim_let (v := iv (wr (w79 + 1))) (aBin_add _ _) ?_
      exact sim_ret ⟨rfl, rfl, O76⟩
  · exact sim_ret ⟨nofun, _, _, _, rfl, O76⟩
theorem tl1_laws_FnBlends (env : Nat → Contract) {B : Base} (he_impl_BlendFeats : env n_impl_BlendFeats = .pure (C3 (fun c : (Sl Feat) × Int => AV.tup [rS c.1, enc c.2]) t_impl_BlendFeats)) (he_laws_a2Long : env n_laws_a2Long = .pure (C2 (fun c : Bool => enc c) t_laws_a2Long)) (he_spec_A2Path : env n_spec_A2Path = .pure (C3 (fun c : (Sl Pair) => rS c) t_spec_A2Path)) (he_spec_A2Two : env n_spec_A2Two = .pure (C1 (fun c : (Sl Feat) × (Sl Feat) × Int => AV.tup [rS c.1, rS c.2.1, enc c.2.2]) t_spec_A2Two)) (he_spec_SameFeats : env n_spec_SameFeats = .pure (C2 (fun c : Bool => enc c) t_spec_SameFeats)) (code_ : Sl UInt8) (more_ : Sl UInt8) (c1 : Bool) (c3 : (Sl Feat) × (Sl Feat) × Int) (x5 : AV) (x7 : AV) (x10 : AV) (z21 : AV) (q22 : Sl Pair) (q23 : Int) (c24 : (Sl Feat) × Int) (x26 : AV) (c29 : (Sl Pair)) (x31 : AV) (c34 : (Sl Feat) × Int) (x36 : AV) (c40 : Bool) (c43 : Bool) (c45 : Bool)  {st : Int} {tm : TM} {h : Heap} (R : (fun (st : Int) tm h47 => match st with | w49 => tm = [Sl.enc code_, Sl.enc more_, und, und, AV.top, x5, x7, iv c3.2.2, z21, iv q23, x26, iv c24.2, x31, x36, iv c34.2, iv w49, AV.top, AV.top, AV.top, AV.top, Sl.enc code_, Sl.enc more_, bv c1, AV.tup [x5, x7, iv c3.2.2], Sl.enc code_, AV.tup [x5, x7, iv c3.2.2], x5, x7, iv c3.2.2, x10, AV.top, AV.top, AV.top, AV.top, AV.top, AV.top, AV.top, AV.top, AV.top, AV.top, AV.top, AV.top, AV.tup [x26, iv c24.2], x5, x5, z21, AV.tup [x26, iv c24.2], x26, iv c24.2, Sl.enc more_, x5, iv (((c3.1.getD []).length : Nat) : Int), x7, iv (((c3.2.1.getD []).length : Nat) : Int), x31, AV.tup [x36, iv c34.2], x5, x7, x31, AV.tup [x36, iv c34.2], x36, iv c34.2, iv c24.2, bv (!decide (c24.2 = 0)), bv (!decide (c24.2 = 0)), AV.top, cond (!decide (c24.2 = 0)) und (bv c40), bv (bif !decide (c24.2 = 0) then true else c40), bv (bif !decide (c24.2 = 0) then true else c40), AV.top, AV.top, AV.top, cond (bif !decide (c24.2 = 0) then true else c40) und (bv c43), bv (bif (bif !decide (c24.2 = 0) then true else c40) then true else c43), bv (bif (bif !decide (c24.2 = 0) then true else c40) then true else c43), AV.top, AV.top, AV.top, AV.top, cond (bif (bif !decide (c24.2 = 0) then true else c40) then true else c43) und (bv c45), bv (bif (bif (bif !decide (c24.2 = 0) then true else c40) then true else c43) then true else c45), AV.top, AV.top, AV.top, AV.top, AV.top, AV.top, AV.top, AV.top, AV.top, AV.top, AV.top, AV.top, AV.top, AV.top, AV.top, AV.top, AV.top, AV.top, AV.top, AV.top, AV.top, AV.top, AV.top, AV.top, AV.top, AV.top, AV.top, AV.top, AV.top, AV.top, AV.top, AV.top, AV.top, AV.top, AV.top, AV.top, AV.top, AV.top, AV.top, AV.top, AV.top, AV.top, AV.top, AV.top, AV.top, AV.top, AV.top, AV.top, AV.top, AV.top, AV.top, AV.top, AV.top, AV.top, AV.top, AV.top, AV.top, AV.top, AV.top, AV.top, AV.top, AV.top, AV.top, AV.top, AV.top, AV.top, AV.top, AV.top, AV.top, AV.top, AV.top, AV.top, AV.top, AV.top, AV.top] ∧ Hold B h47 [(x5, obS (c3.1 : Sl Feat)), (x7, obS (c3.2.1 : Sl Feat)), (z21, obS (q22 : Sl Pair)), (x26, obS (c24.1 : Sl Feat)), (x31, obS (c29 : Sl Pair)), (x36, obS (c34.1 : Sl Feat))]) st tm h) : Sim (loopP hm1_laws_FnBlends xm1_laws_FnBlends (lb1_laws_FnBlends env) tm h) (loopT (s1_laws_FnBlends c3 c29 c34) st) (fun (q : Sum Unit Bool) (r : Res) => match q with | .inl _ => ∃ (q53 : Int) (z52 : AV) (z54 : AV) (z55 : AV) (z56 : AV) (z57 : AV) (h50 : Heap), r = (.exit 2, [Sl.enc code_, Sl.enc more_, und, und, z52, x5, x7, iv c3.2.2, z21, iv q23, x26, iv c24.2, x31, x36, iv c34.2, iv q53, z54, z55, z56, z57, Sl.enc code_, Sl.enc more_, bv c1, AV.tup [x5, x7, iv c3.2.2], Sl.enc code_, AV.tup [x5, x7, iv c3.2.2], x5, x7, iv c3.2.2, x10, AV.top, AV.top, AV.top, AV.top, AV.top, AV.top, AV.top, AV.top, AV.top, AV.top, AV.top, AV.top, AV.tup [x26, iv c24.2], x5, x5, z21, AV.tup [x26, iv c24.2], x26, iv c24.2, Sl.enc more_, x5, iv (((c3.1.getD []).length : Nat) : Int), x7, iv (((c3.2.1.getD []).length : Nat) : Int), x31, AV.tup [x36, iv c34.2], x5, x7, x31, AV.tup [x36, iv c34.2], x36, iv c34.2, iv c24.2, bv (!decide (c24.2 = 0)), bv (!decide (c24.2 = 0)), AV.top, cond (!decide (c24.2 = 0)) und (bv c40), bv (bif !decide (c24.2 = 0) then true else c40), bv (bif !decide (c24.2 = 0) then true else c40), AV.top, AV.top, AV.top, cond (bif !decide (c24.2 = 0) then true else c40) und (bv c43), bv (bif (bif !decide (c24.2 = 0) then true else c40) then true else c43), bv (bif (bif !decide (c24.2 = 0) then true else c40) then true else c43), AV.top, AV.top, AV.top, AV.top, cond (bif (bif !decide (c24.2 = 0) then true else c40) then true else c43) und (bv c45), bv (bif (bif (bif !decide (c24.2 = 0) then true else c40) then true else c43) then true else c45), AV.top, AV.top, AV.top, AV.top, AV.top, AV.top, AV.top, AV.top, AV.top, AV.top, AV.top, AV.top, AV.top, AV.top, AV.top, AV.top, AV.top, AV.top, AV.top, AV.top, AV.top, AV.top, AV.top, AV.top, AV.top, AV.top, AV.top, AV.top, AV.top, AV.top, AV.top, AV.top, AV.top, AV.top, AV.top, AV.top, AV.top, AV.top, AV.top, AV.top, AV.top, AV.top, AV.top, AV.top, AV.top, AV.top, AV.top, AV.top, AV.top, AV.top, AV.top, AV.top, AV.top, AV.top, AV.top, AV.top, AV.top, AV.top, AV.top, AV.top, AV.top, AV.top, AV.top, AV.top, AV.top, AV.top, AV.top, AV.top, AV.top, AV.top, AV.top, AV.top, AV.top, AV.top, AV.top], h50) ∧ Hold B h50 [(x5, obS (c3.1 : Sl Feat)), (x7, obS (c3.2.1 : Sl Feat)), (z21, obS (q22 : Sl Pair)), (x26, obS (c24.1 : Sl Feat)), (x31, obS (c29 : Sl Pair)), (x36, obS (c34.1 : Sl Feat))] | .inr q60 => ∃ (q61 : Int) (q62 : Int) (q63 : Int) (q64 : Int) (z65 : AV) (h58 : Heap), r = (.ret, [Sl.enc code_, Sl.enc more_, und, und, bv q60, x5, x7, iv c3.2.2, z21, iv q23, x26, iv c24.2, x31, x36, iv c34.2, iv q61, iv q62, iv q63, iv q64, z65, Sl.enc code_, Sl.enc more_, bv c1, AV.tup [x5, x7, iv c3.2.2], Sl.enc code_, AV.tup [x5, x7, iv c3.2.2], x5, x7, iv c3.2.2, x10, AV.top, AV.top, AV.top, AV.top, AV.top, AV.top, AV.top, AV.top, AV.top, AV.top, AV.top, AV.top, AV.tup [x26, iv c24.2], x5, x5, z21, AV.tup [x26, iv c24.2], x26, iv c24.2, Sl.enc more_, x5, iv (((c3.1.getD []).length : Nat) : Int), x7, iv (((c3.2.1.getD []).length : Nat) : Int), x31, AV.tup [x36, iv c34.2], x5, x7, x31, AV.tup [x36, iv c34.2], x36, iv c34.2, iv c24.2, bv (!decide (c24.2 = 0)), bv (!decide (c24.2 = 0)), AV.top, cond (!decide (c24.2 = 0)) und (bv c40), bv (bif !decide (c24.2 = 0) then true else c40), bv (bif !decide (c24.2 = 0) then true else c40), AV.top, AV.top, AV.top, cond (bif !decide (c24.2 = 0) then true else c40) und (bv c43), bv (bif (bif !decide (c24.2 = 0) then true else c40) then true else c43), bv (bif (bif !decide (c24.2 = 0) then true else c40) then true else c43), AV.top, AV.top, AV.top, AV.top, cond (bif (bif !decide (c24.2 = 0) then true else c40) then true else c43) und (bv c45), bv (bif (bif (bif !decide (c24.2 = 0) then true else c40) then true else c43) then true else c45), AV.top, AV.top, AV.top, AV.top, AV.top, AV.top, AV.top, AV.top, AV.top, AV.top, AV.top, AV.top, AV.top, AV.top, AV.top, AV.top, AV.top, AV.top, AV.top, AV.top, AV.top, AV.top, AV.top, AV.top, AV.top, AV.top, AV.top, AV.top, AV.top, AV.top, AV.top, AV.top, AV.top, AV.top, AV.top, AV.top, AV.top, AV.top, AV.top, AV.top, AV.top, AV.top, AV.top, AV.top, AV.top, AV.top, AV.top, AV.top, AV.top, AV.top, AV.top, AV.top, AV.top, AV.top, AV.top, AV.top, AV.top, AV.top, AV.top, AV.top, AV.top, AV.top, AV.top, AV.top, AV.top, AV.top, AV.top, AV.top, AV.top, AV.top, AV.top, AV.top, AV.top, AV.top, AV.top], h58) ∧ Hold B h58 [(x5, obS (c3.1 : Sl Feat)), (x7, obS (c3.2.1 : Sl Feat)), (z21, obS (q22 : Sl Pair)), (x26, obS (c24.1 : Sl Feat)), (x31, obS (c29 : Sl Pair)), (x36, obS (c34.1 : Sl Feat))]) := by
  refine loop_sim (Rel := fun (st : Int) tm h47 => match st with | w49 => tm = [Sl.enc code_, Sl.enc more_, und, und, AV.top, x5, x7, iv c3.2.2, z21, iv q23, x26, iv c24.2, x31, x36, iv c34.2, iv w49, AV.top, AV.top, AV.top, AV.top, Sl.enc code_, Sl.enc more_, bv c1, AV.tup [x5, x7, iv c3.2.2], Sl.enc code_, AV.tup [x5, x7, iv c3.2.2], x5, x7, iv c3.2.2, x10, AV.top, AV.top, AV.top, AV.top, AV.top, AV.top, AV.top, AV.top, AV.top, AV.top, AV.top, AV.top, AV.tup [x26, iv c24.2], x5, x5, z21, AV.tup [x26, iv c24.2], x26, iv c24.2, Sl.enc more_, x5, iv (((c3.1.getD []).length : Nat) : Int), x7, iv (((c3.2.1.getD []).length : Nat) : Int), x31, AV.tup [x36, iv c34.2], x5, x7, x31, AV.tup [x36, iv c34.2], x36, iv c34.2, iv c24.2, bv (!decide (c24.2 = 0)), bv (!decide (c24.2 = 0)), AV.top, cond (!decide (c24.2 = 0)) und (bv c40), bv (bif !decide (c24.2 = 0) then true else c40), bv (bif !decide (c24.2 = 0) then true else c40), AV.top, AV.top, AV.top, cond (bif !decide (c24.2 = 0) then true else c40) und (bv c43), bv (bif (bif !decide (c24.2 = 0) then true else c40) then true else c43), bv (bif (bif !decide (c24.2 = 0) then true else c40) then true else c43), AV.top, AV.top, AV.top, AV.top, cond (bif (bif !decide (c24.2 = 0) then true else c40) then true else c43) und (bv c45), bv (bif (bif (bif !decide (c24.2 = 0) then true else c40) then true else c43) then true else c45), AV.top, AV.top, AV.top, AV.top, AV.top, AV.top, AV.top, AV.top, AV.top, AV.top, AV.top, AV.top, AV.top, AV.top, AV.top, AV.top, AV.top, AV.top, AV.top, AV.top, AV.top, AV.top, AV.top, AV.top, AV.top, AV.top, AV.top, AV.top, AV.top, AV.top, AV.top, AV.top, AV.top, AV.top, AV.top, AV.top, AV.top, AV.top, AV.top, AV.top, AV.top, AV.top, AV.top, AV.top, AV.top, AV.top, AV.top, AV.top, AV.top, AV.top, AV.top, AV.top, AV.top, AV.top, AV.top, AV.top, AV.top, AV.top, AV.top, AV.top, AV.top, AV.top, AV.top, AV.top, AV.top, AV.top, AV.top, AV.top, AV.top, AV.top, AV.top, AV.top, AV.top, AV.top, AV.top] ∧ Hold B h47 [(x5, obS (c3.1 : Sl Feat)), (x7, obS (c3.2.1 : Sl Feat)), (z21, obS (q22 : Sl Pair)), (x26, obS (c24.1 : Sl Feat)), (x31, obS (c29 : Sl Pair)), (x36, obS (c34.1 : Sl Feat))]) (fun w49 tm h47 R => ?_) R
  obtain ⟨rfl, O48⟩ := R
  rw [e_lb1_laws_FnBlends]
  unfold s1_laws_FnBlends
  dsimp only
  refine sim_let (v := iv (((c3.1.getD []).length : Nat) : Int)) (O48.tab (A := Feat) (s := c3.1) 0 rfl).len ?_
  refine sim_let (v := bv (decide (w49 < (((c3.1.getD []).length : Nat) : Int)))) (aBin_lss _ _) ?_
  refine sim_cond (fun c66 => ?_) (fun c66 => ?_)
  · refine sim_get (O48.tab (A := Feat) (s := c3.1) 0 rfl) (fun m68 a67 hi69 hm70 => ?_)
    refine sim_let (v := elp x5 m68 0) ((O48.tab (A := Feat) (s := c3.1) 0 rfl).fld _ _ _) ?_
    refine sim_let (v := iv a67.x) ((O48.tab (A := Feat) (s := c3.1) 0 rfl).ld hm70 false 1 0) ?_
    refine sim_get (O48.tab (A := Feat) (s := c3.1) 0 rfl) (fun m72 a71 hi73 hm74 => ?_)
    refine sim_let (v := elp x5 m72 0) ((O48.tab (A := Feat) (s := c3.1) 0 rfl).fld _ _ _) ?_
    refine sim_let (v := iv a71.x) ((O48.tab (A := Feat) (s := c3.1) 0 rfl).ld hm74 false 1 0) ?_
    refine sim_bind ((tl2_laws_FnBlends env he_impl_BlendFeats he_laws_a2Long he_spec_A2Path he_spec_A2Two he_spec_SameFeats code_ more_ c1 c3 x5 x7 x10 z21 q22 q23 c24 x26 c29 x31 c34 x36 c40 c43 c45 w49 a67 m68 a71 m72) ⟨rfl, O48⟩) (fun qq149 r hq => ?_)
    obtain ⟨q82, q83⟩ := qq149
    obtain ⟨q84, z85, h80, rfl, O81⟩ := hq
    rw [e_lk2x4_laws_FnBlends]
    refine sim_get (O81.tab (A := Feat) (s := c34.1) 5 rfl) (fun m87 a86 hi88 hm89 => ?_)
    refine sim_let (v := elp x36 m87 0) ((O81.tab (A := Feat) (s := c34.1) 5 rfl).fld _ _ _) ?_
    refine sim_let (v := iv a86.x) ((O81.tab (A := Feat) (s := c34.1) 5 rfl).ld hm89 false 1 0) ?_
    refine sim_let (v := bv (decide (a86.x < q82))) (aBin_lss _ _) ?_
    refine sim_g7F (e := bv) (fun hb90 => ?_) (fun y96 y97 y98 y99 y100 y101 c95 => ?_)
    · refine sim_o0 ?_
      refine sim_o0 ?_
      refine sim_o1 ?_
      refine sim_get (O81.tab (A := Feat) (s := c34.1) 5 rfl) (fun m92 a91 hi93 hm94 => ?_)
      refine sim_o0 ?_
      refine sim_o1 ?_
      refine sim_let (v := elp x36 m92 0) ((O81.tab (A := Feat) (s := c34.1) 5 rfl).fld _ _ _) ?_
      refine sim_o0 ?_
      refine sim_o1 ?_
      refine sim_let (v := iv a91.x) ((O81.tab (A := Feat) (s := c34.1) 5 rfl).ld hm94 false 1 0) ?_
      refine sim_o0 ?_
      refine sim_o0 ?_
      refine sim_let (v := bv (decide (q83 < a91.x))) (aBin_gtr _ _) ?_
      exact sim_ret rfl
    · refine sim_let (v := bv (bif decide (a86.x < q82) then true else c95)) (pick_b' _ _ _) ?_
      refine sim_g11F (e := bv) (fun hb102 => ?_) (fun y112 y113 y114 y115 y116 y117 y118 y119 y120 y121 c111 => ?_)
      · refine sim_o0 ?_
        refine sim_o0 ?_
        refine sim_o1 ?_
        refine sim_get (O81.tab (A := Feat) (s := c34.1) 5 rfl) (fun m104 a103 hi105 hm106 => ?_)
        refine sim_o0 ?_
        refine sim_o1 ?_
        refine sim_let (v := elp x36 m104 2) ((O81.tab (A := Feat) (s := c34.1) 5 rfl).fld _ _ _) ?_
        refine sim_o0 ?_
        refine sim_o1 ?_
        refine sim_let (v := iv a103.d) ((O81.tab (A := Feat) (s := c34.1) 5 rfl).ld hm106 false 1 2) ?_
        refine sim_o0 ?_
        refine sim_o0 ?_
        refine sim_o0 ?_
        refine sim_o1 ?_
        refine sim_get (O81.tab (A := Feat) (s := c3.1) 0 rfl) (fun m108 a107 hi109 hm110 => ?_)
        refine sim_o0 ?_
        refine sim_o1 ?_
        refine sim_let (v := elp x5 m108 2) ((O81.tab (A := Feat) (s := c3.1) 0 rfl).fld _ _ _) ?_
        refine sim_o0 ?_
        refine sim_o1 ?_
        refine sim_let (v := iv a107.d) ((O81.tab (A := Feat) (s := c3.1) 0 rfl).ld hm110 false 1 2) ?_
        refine sim_o0 ?_
        refine sim_let (v := bv (!decide (a103.d = a107.d))) (aCmp_ne _ _) ?_
        exact sim_ret rfl
      · refine sim_let (v := bv (bif (bif decide (a86.x < q82) then true else c95) then true else c111)) (pick_b' _ _ _) ?_
        refine sim_cond (fun c122 => ?_) (fun c122 => ?_)
        · exact sim_ret ⟨nofun, _, _, _, _, _, _, rfl, O81⟩
        · refine sim_let (v := iv (wr (w49 + 1))) (aBin_add _ _) ?_
          exact sim_ret ⟨rfl, rfl, O81⟩
  · exact sim_ret ⟨nofun, _, _, _, _, _, _, _, rfl, O48⟩
theorem tl0_laws_FnBlends (env : Nat → Contract) {B : Base} (he_impl_BlendFeats : env n_impl_BlendFeats = .pure (C3 (fun c : (Sl Feat) × Int => AV.tup [rS c.1, enc c.2]) t_impl_BlendFeats)) (he_laws_a2Long : env n_laws_a2Long = .pure (C2 (fun c : Bool => enc c) t_laws_a2Long)) (he_spec_A2Path : env n_spec_A2Path = .pure (C3 (fun c : (Sl Pair) => rS c) t_spec_A2Path)) (he_spec_A2Two : env n_spec_A2Two = .pure (C1 (fun c : (Sl Feat) × (Sl Feat) × Int => AV.tup [rS c.1, rS c.2.1, enc c.2.2]) t_spec_A2Two)) (he_spec_SameFeats : env n_spec_SameFeats = .pure (C2 (fun c : Bool => enc c) t_spec_SameFeats)) (code_ : Sl UInt8) (more_ : Sl UInt8) (c1 : Bool) (c3 : (Sl Feat) × (Sl Feat) × Int) (x5 : AV) (x7 : AV) (x10 : AV)  {st : (Sl Pair) × Int} {tm : TM} {h : Heap} (R : (fun (st : (Sl Pair) × Int) tm h16 => match st with | (w15, w18) => ∃ z14, tm = [Sl.enc code_, Sl.enc more_, und, und, bv false, x5, x7, iv c3.2.2, z14, iv w18, und, und, und, und, und, und, und, und, und, und, Sl.enc code_, Sl.enc more_, bv c1, AV.tup [x5, x7, iv c3.2.2], Sl.enc code_, AV.tup [x5, x7, iv c3.2.2], x5, x7, iv c3.2.2, x10, AV.top, AV.top, AV.top, AV.top, AV.top, AV.top, AV.top, AV.top, AV.top, AV.top, AV.top, AV.top, und, und, und, und, und, und, und, und, und, und, und, und, und, und, und, und, und, und, und, und, und, und, und, und, und, und, und, und, und, und, und, und, und, und, und, und, und, und, und, und, und, und, und, und, und, und, und, und, und, und, und, und, und, und, und, und, und, und, und, und, und, und, und, und, und, und, und, und, und, und, und, und, und, und, und, und, und, und, und, und, und, und, und, und, und, und, und, und, und, und, und, und, und, und, und, und, und, und, und, und, und, und, und, und, und, und, und, und, und, und, und, und, und, und] ∧ Hold B h16 [(x5, obS (c3.1 : Sl Feat)), (x7, obS (c3.2.1 : Sl Feat)), (z14, obS (w15 : Sl Pair))]) st tm h) : Sim (loopP hm0_laws_FnBlends xm0_laws_FnBlends (lb0_laws_FnBlends env) tm h) (loopT (s0_laws_FnBlends c3) st) (fun (q : Sl Pair) (r : Res) => match q with | q22 => ∃ (q23 : Int) (z21 : AV) (h19 : Heap), r = (.exit 0, [Sl.enc code_, Sl.enc more_, und, und, bv false, x5, x7, iv c3.2.2, z21, iv q23, und, und, und, und, und, und, und, und, und, und, Sl.enc code_, Sl.enc more_, bv c1, AV.tup [x5, x7, iv c3.2.2], Sl.enc code_, AV.tup [x5, x7, iv c3.2.2], x5, x7, iv c3.2.2, x10, AV.top, AV.top, AV.top, AV.top, AV.top, AV.top, AV.top, AV.top, AV.top, AV.top, AV.top, AV.top, und, und, und, und, und, und, und, und, und, und, und, und, und, und, und, und, und, und, und, und, und, und, und, und, und, und, und, und, und, und, und, und, und, und, und, und, und, und, und, und, und, und, und, und, und, und, und, und, und, und, und, und, und, und, und, und, und, und, und, und, und, und, und, und, und, und, und, und, und, und, und, und, und, und, und, und, und, und, und, und, und, und, und, und, und, und, und, und, und, und, und, und, und, und, und, und, und, und, und, und, und, und, und, und, und, und, und, und, und, und, und, und, und, und], h19) ∧ Hold B h19 [(x5, obS (c3.1 : Sl Feat)), (x7, obS (c3.2.1 : Sl Feat)), (z21, obS (q22 : Sl Pair))]) := by
  refine loop_sim (Rel := fun (st : (Sl Pair) × Int) tm h16 => match st with | (w15, w18) => ∃ z14, tm = [Sl.enc code_, Sl.enc more_, und, und, bv false, x5, x7, iv c3.2.2, z14, iv w18, und, und, und, und, und, und, und, und, und, und, Sl.enc code_, Sl.enc more_, bv c1, AV.tup [x5, x7, iv c3.2.2], Sl.enc code_, AV.tup [x5, x7, iv c3.2.2], x5, x7, iv c3.2.2, x10, AV.top, AV.top, AV.top, AV.top, AV.top, AV.top, AV.top, AV.top, AV.top, AV.top, AV.top, AV.top, und, und, und, und, und, und, und, und, und, und, und, und, und, und, und, und, und, und, und, und, und, und, und, und, und, und, und, und, und, und, und, und, und, und, und, und, und, und, und, und, und, und, und, und, und, und, und, und, und, und, und, und, und, und, und, und, und, und, und, und, und, und, und, und, und, und, und, und, und, und, und, und, und, und, und, und, und, und, und, und, und, und, und, und, und, und, und, und, und, und, und, und, und, und, und, und, und, und, und, und, und, und, und, und, und, und, und, und, und, und, und, und, und, und] ∧ Hold B h16 [(x5, obS (c3.1 : Sl Feat)), (x7, obS (c3.2.1 : Sl Feat)), (z14, obS (w15 : Sl Pair))]) (fun st tm h16 R => ?_) R
  obtain ⟨w15, w18⟩ := st
  obtain ⟨z14, rfl, O17⟩ := R
  rw [e_lb0_laws_FnBlends]
  unfold s0_laws_FnBlends
  dsimp only
  refine sim_let (v := iv (((c3.1.getD []).length : Nat) : Int)) (O17.tab (A := Feat) (s := c3.1) 0 rfl).len ?_
  refine sim_let (v := bv (decide (w18 < (((c3.1.getD []).length : Nat) : Int)))) (aBin_lss _ _) ?_
  refine sim_cond (fun c153 => ?_) (fun c153 => ?_)
  · refine sim_let (v := AV.agg [iv w18, iv w18]) (by first | rfl | simp [aBuild, aFill, splice]) ?_
    refine sim_build (A := Pair) O17 ([(⟨w18, w18⟩ : Pair)] : List Pair) rfl (by first | rfl | simp [aFillRows, zrows]) rfl (fun x154 h155 O156 => ?_)
    replace O156 : Hold B h155 [(x5, obS (c3.1 : Sl Feat)), (x7, obS (c3.2.1 : Sl Feat)), (z14, obS (w15 : Sl Pair)), (x154, obS ((some ([(⟨w18, w18⟩ : Pair)] : List Pair)) : Sl Pair))] := O156
    refine sim_append (A := Pair) (s := w15) O156 2 ([(⟨w18, w18⟩ : Pair)] : List Pair) rfl (O156.src (A := Pair) (s := (some ([(⟨w18, w18⟩ : Pair)] : List Pair))) 3 rfl) (by decide) (fun x159 h160 O161 => ?_)
    replace O161 : Hold B h160 [(x5, obS (c3.1 : Sl Feat)), (x7, obS (c3.2.1 : Sl Feat)), (x159, obS ((appS w15 ([(⟨w18, w18⟩ : Pair)] : List Pair)) : Sl Pair)), (x154, obS ((some ([(⟨w18, w18⟩ : Pair)] : List Pair)) : Sl Pair))] := O161
    have O163 : Hold B h160 [(x5, obS (c3.1 : Sl Feat)), (x7, obS (c3.2.1 : Sl Feat)), (x159, obS ((appS w15 ([(⟨w18, w18⟩ : Pair)] : List Pair)) : Sl Pair))] := O161.sel [0, 1, 2] (by decide) rfl
    refine sim_let (v := iv (wr (w18 + 1))) (aBin_add _ _) ?_
    exact sim_ret ⟨rfl, _, rfl, O163⟩
  · exact sim_ret ⟨nofun, _, _, _, rfl, O17⟩
theorem ts_laws_FnBlends (env : Nat → Contract) (he_impl_BlendFeats : env n_impl_BlendFeats = .pure (C3 (fun c : (Sl Feat) × Int => AV.tup [rS c.1, enc c.2]) t_impl_BlendFeats)) (he_laws_a2Long : env n_laws_a2Long = .pure (C2 (fun c : Bool => enc c) t_laws_a2Long)) (he_spec_A2Path : env n_spec_A2Path = .pure (C3 (fun c : (Sl Pair) => rS c) t_spec_A2Path)) (he_spec_A2Two : env n_spec_A2Two = .pure (C1 (fun c : (Sl Feat) × (Sl Feat) × Int => AV.tup [rS c.1, rS c.2.1, enc c.2.2]) t_spec_A2Two)) (he_spec_SameFeats : env n_spec_SameFeats = .pure (C2 (fun c : Bool => enc c) t_spec_SameFeats)) (code_ : Sl UInt8) (more_ : Sl UInt8) : Sim (denFn Try.prog env n_laws_FnBlends [Sl.enc code_, Sl.enc more_] []) (t_laws_FnBlends code_ more_) fun c p => release p.2 depth p.1 = some ((fun c : Bool => enc c) c) := by
  have O := Hold.nil []
  generalize hB : (⟨[], []⟩ : Base) = B at O
  clear hB
  rw [e_laws_FnBlends]
  unfold t_laws_FnBlends
  refine sim_call2 he_laws_a2Long (snapD_enc _ _) (snapD_enc _ _) (fun c1 => ?_)
  refine sim_let2 (hand_plain (by rfl) _ _) ?_
  refine sim_cond (fun c2 => ?_) (fun c2 => ?_)
  · exact sim_ret (release_plain (by rfl) _)
  · refine sim_call1 he_spec_A2Two (snapD_enc _ _) (fun c3 => ?_)
    refine sim_hand2 O (c3.1 : Sl Feat) (c3.2.1 : Sl Feat) (fun z1 z2 => AV.tup [z1, z2, iv c3.2.2]) (by intro b; simp only [mat_tup, mat_aggD, mat_agg, matLc, matLn, mat_iv, mat_bv, mat_sv, mat_bt, mat_nilS, mat_rS, List.append_nil, List.nil_append, List.length_nil, Nat.add_zero]) (by simp only [noF_tup, noF_aggD, noF_agg, noF_iv, noF_bv, noF_sv, noF_bt, noF_nilS, noF_rS, List.all_cons, List.all_nil, Bool.and_self]) (fun x5 x7 h8 O9 => ?_)
    replace O9 : Hold B h8 [(x5, obS (c3.1 : Sl Feat)), (x7, obS (c3.2.1 : Sl Feat))] := O9
    refine sim_let (v := x5) rfl ?_
    refine sim_let (v := x7) rfl ?_
    refine sim_let (v := iv c3.2.2) rfl ?_
    refine sim_build (A := Pair) O9 ([] : List Pair) rfl (by first | rfl | simp [aFillRows, zrows]) rfl (fun x10 h11 O12 => ?_)
    replace O12 : Hold B h11 [(x5, obS (c3.1 : Sl Feat)), (x7, obS (c3.2.1 : Sl Feat)), (x10, obS ((some ([] : List Pair)) : Sl Pair))] := O12
    refine sim_bind ((tl0_laws_FnBlends env he_impl_BlendFeats he_laws_a2Long he_spec_A2Path he_spec_A2Two he_spec_SameFeats code_ more_ c1 c3 x5 x7 x10) ⟨_, rfl, O12⟩) (fun qq167 r hq => ?_)
    revert hq
    revert qq167
    intro q22 hq
    obtain ⟨q23, z21, h19, rfl, O20⟩ := hq
    rw [e_lk0x0_laws_FnBlends]
    refine sim_call3 he_impl_BlendFeats ((O20.tab (A := Feat) (s := c3.1) 0 rfl).snap) ((O20.tab (A := Feat) (s := c3.1) 0 rfl).snap) ((O20.tab (A := Pair) (s := q22) 2 rfl).snap) (fun c24 => ?_)
    refine sim_hand1 O20 (c24.1 : Sl Feat) (fun z1 => AV.tup [z1, iv c24.2]) (by intro b; simp only [mat_tup, mat_aggD, mat_agg, matLc, matLn, mat_iv, mat_bv, mat_sv, mat_bt, mat_nilS, mat_rS, List.append_nil, List.nil_append, List.length_nil, Nat.add_zero]) (by simp only [noF_tup, noF_aggD, noF_agg, noF_iv, noF_bv, noF_sv, noF_bt, noF_nilS, noF_rS, List.all_cons, List.all_nil, Bool.and_self]) (fun x26 h27 O28 => ?_)
    replace O28 : Hold B h27 [(x5, obS (c3.1 : Sl Feat)), (x7, obS (c3.2.1 : Sl Feat)), (z21, obS (q22 : Sl Pair)), (x26, obS (c24.1 : Sl Feat))] := O28
    refine sim_let (v := x26) rfl ?_
    refine sim_let (v := iv c24.2) rfl ?_
    refine sim_let (v := iv (((c3.1.getD []).length : Nat) : Int)) (O28.tab (A := Feat) (s := c3.1) 0 rfl).len ?_
    refine sim_let (v := iv (((c3.2.1.getD []).length : Nat) : Int)) (O28.tab (A := Feat) (s := c3.2.1) 1 rfl).len ?_
    refine sim_call3 he_spec_A2Path (snapD_enc _ _) (snapD_int _ _) (snapD_int _ _) (fun c29 => ?_)
    refine sim_hand (A := Pair) O28 (fun x31 h32 O33 => ?_)
    replace O33 : Hold B h32 [(x5, obS (c3.1 : Sl Feat)), (x7, obS (c3.2.1 : Sl Feat)), (z21, obS (q22 : Sl Pair)), (x26, obS (c24.1 : Sl Feat)), (x31, obS (c29 : Sl Pair))] := O33
    refine sim_call3 he_impl_BlendFeats ((O33.tab (A := Feat) (s := c3.1) 0 rfl).snap) ((O33.tab (A := Feat) (s := c3.2.1) 1 rfl).snap) ((O33.tab (A := Pair) (s := c29) 4 rfl).snap) (fun c34 => ?_)
    refine sim_hand1 O33 (c34.1 : Sl Feat) (fun z1 => AV.tup [z1, iv c34.2]) (by intro b; simp only [mat_tup, mat_aggD, mat_agg, matLc, matLn, mat_iv, mat_bv, mat_sv, mat_bt, mat_nilS, mat_rS, List.append_nil, List.nil_append, List.length_nil, Nat.add_zero]) (by simp only [noF_tup, noF_aggD, noF_agg, noF_iv, noF_bv, noF_sv, noF_bt, noF_nilS, noF_rS, List.all_cons, List.all_nil, Bool.and_self]) (fun x36 h37 O38 => ?_)
    replace O38 : Hold B h37 [(x5, obS (c3.1 : Sl Feat)), (x7, obS (c3.2.1 : Sl Feat)), (z21, obS (q22 : Sl Pair)), (x26, obS (c24.1 : Sl Feat)), (x31, obS (c29 : Sl Pair)), (x36, obS (c34.1 : Sl Feat))] := O38
    refine sim_let (v := x36) rfl ?_
    refine sim_let (v := iv c34.2) rfl ?_
    refine sim_let (v := bv (!decide (c24.2 = 0))) (aCmp_ne _ _) ?_
    refine sim_guardF (e := bv) (fun hb39 => ?_) (fun c40 => ?_)
    · refine sim_let (v := bv (!decide (c34.2 = 0))) (aCmp_ne _ _) ?_
      exact sim_ret rfl
    · refine sim_let (v := bv (bif !decide (c24.2 = 0) then true else c40)) (pick_b' _ _ _) ?_
      refine sim_guardF (e := bv) (fun hb41 => ?_) (fun c43 => ?_)
      · refine sim_call2 he_spec_SameFeats ((O38.tab (A := Feat) (s := c24.1) 3 rfl).snap) ((O38.tab (A := Feat) (s := c3.1) 0 rfl).snap) (fun c42 => ?_)
        refine sim_let2 (hand_plain (by rfl) _ _) ?_
        refine sim_let (v := bv (!c42)) (aUn_not _) ?_
        exact sim_ret rfl
      · refine sim_let (v := bv (bif (bif !decide (c24.2 = 0) then true else c40) then true else c43)) (pick_b' _ _ _) ?_
        refine sim_guardF (e := bv) (fun hb44 => ?_) (fun c45 => ?_)
        · refine sim_let (v := iv (((c34.1.getD []).length : Nat) : Int)) (O38.tab (A := Feat) (s := c34.1) 5 rfl).len ?_
          refine sim_let (v := iv (((c3.1.getD []).length : Nat) : Int)) (O38.tab (A := Feat) (s := c3.1) 0 rfl).len ?_
          refine sim_let (v := bv (!decide ((((c34.1.getD []).length : Nat) : Int) = (((c3.1.getD []).length : Nat) : Int)))) (aCmp_ne _ _) ?_
          exact sim_ret rfl
        · refine sim_let (v := bv (bif (bif (bif !decide (c24.2 = 0) then true else c40) then true else c43) then true else c45)) (pick_b' _ _ _) ?_
          refine sim_cond (fun c46 => ?_) (fun c46 => ?_)
          · exact sim_ret (release_plain (by rfl) _)
          · refine sim_bind ((tl1_laws_FnBlends env he_impl_BlendFeats he_laws_a2Long he_spec_A2Path he_spec_A2Two he_spec_SameFeats code_ more_ c1 c3 x5 x7 x10 z21 q22 q23 c24 x26 c29 x31 c34 x36 c40 c43 c45) ⟨rfl, O38⟩) (fun qq152 r hq => ?_)
            rcases qq152 with _ | q60
            · obtain ⟨q53, z52, z54, z55, z56, z57, h50, rfl, O51⟩ := hq
              rw [e_lk1x2_laws_FnBlends]
              exact sim_ret (release_plain (by rfl) _)
            · obtain ⟨q61, q62, q63, q64, z65, h58, rfl, O59⟩ := hq
              rw [e_lk1r_laws_FnBlends]
              exact sim_ret (release_plain (by rfl) _)
theorem tt_laws_FnBlends : PureOK Try.prog n_laws_FnBlends (C2 (fun c : Bool => enc c) t_laws_FnBlends) := pureC2 (Econs tt_impl_BlendFeats (Econs tt_laws_a2Long (Econs tt_spec_A2Path (Econs tt_spec_A2Two (Econs tt_spec_SameFeats E0))))) mixed hb_laws_FnBlends fun code_ more_ => ts_laws_FnBlends _ (by simp [envL]) (by simp [envL]) (by simp [envL]) (by simp [envL]) (by simp [envL]) code_ more_

def t_spec_l00Src_among (s_ : l00Src) (list_ : Sl Int) : Option (Int × l00Src) :=
  obind (t_spec_l00Src_pick s_ (((list_.getD []).length : Nat) : Int)) fun c1 =>
  obind (getI (list_.getD []) c1.1) fun a7 =>
  some (a7, (⟨c1.2.code, c1.2.pos, c1.2.seed⟩ : l00Src))

/-- The source has been read up to `k` at most. -/
structure SK (s : l00Src) (k : Int) : Prop where
  lo : 0 ≤ s.pos
  hi : s.pos ≤ k
theorem SK.mono {s : l00Src} {k k' : Int} (h : SK s k) (hk : k ≤ k') : SK s k' := ⟨h.lo, by have := h.hi; omega⟩
theorem and255 (a : Int) : 0 ≤ wr (IntKind.u64.wrap ((BitVec.ofInt 64 a &&& BitVec.ofInt 64 255).toNat : Nat)) ∧ wr (IntKind.u64.wrap ((BitVec.ofInt 64 a &&& BitVec.ofInt 64 255).toNat : Nat)) ≤ 255 := by
  have h1 : (BitVec.ofInt 64 a &&& BitVec.ofInt 64 255).toNat ≤ 255 := by
    rw [BitVec.toNat_and]
    have : (BitVec.ofInt 64 255).toNat = 255 := by decide
    rw [this]
    exact Nat.and_le_right
  generalize (BitVec.ofInt 64 a &&& BitVec.ofInt 64 255).toNat = r at h1
  have h2 : IntKind.u64.wrap (r : Int) = r := by
    simp only [IntKind.wrap, IntKind.bits, IntKind.signed]
    simp only [Bool.false_and, Bool.false_eq_true, if_false]
    omega
  rw [h2, wr_id (by omega) (by omega)]
  omega
theorem andFF (a : Int) : 0 ≤ wr (IntKind.u64.wrap ((BitVec.ofInt 64 a &&& BitVec.ofInt 64 16777215).toNat : Nat)) ∧ wr (IntKind.u64.wrap ((BitVec.ofInt 64 a &&& BitVec.ofInt 64 16777215).toNat : Nat)) ≤ 16777215 := by
  have h1 : (BitVec.ofInt 64 a &&& BitVec.ofInt 64 16777215).toNat ≤ 16777215 := by
    rw [BitVec.toNat_and]
    have : (BitVec.ofInt 64 16777215).toNat = 16777215 := by decide
    rw [this]
    exact Nat.and_le_right
  generalize (BitVec.ofInt 64 a &&& BitVec.ofInt 64 16777215).toNat = r at h1
  have h2 : IntKind.u64.wrap (r : Int) = r := by
    simp only [IntKind.wrap, IntKind.bits, IntKind.signed]
    simp only [Bool.false_and, Bool.false_eq_true, if_false]
    omega
  rw [h2, wr_id (by omega) (by omega)]
  omega
theorem getI_in {A : Type} {l : List A} {i : Int} (h0 : 0 ≤ i) (h1 : i < (l.length : Nat)) : ∃ a, getI l i = some a ∧ l[i.toNat]? = some a := by
  obtain ⟨m, rfl⟩ := Int.eq_ofNat_of_zero_le h0
  have h2 : m < l.length := by omega
  exact ⟨l[m], getI_nat (List.getElem?_eq_getElem h2), by simp [h2]⟩
theorem remI_pos {a b : Int} (ha : 0 ≤ a) (hb : 0 < b) : ∃ r, remI a b = some r ∧ 0 ≤ r ∧ r < b := by
  refine ⟨a.tmod b, ?_, Int.tmod_nonneg b ha, Int.tmod_lt_of_pos a hb⟩
  have : ¬ b = 0 := by omega
  simp [remI, this]
theorem dr_next {s : l00Src} {k : Int} (h : SK s k) (hk : k ≤ 1000000000000) : ∃ r s', t_spec_l00Src_next s = some (r, s') ∧ SK s' (k + 1) ∧ 0 ≤ r ∧ r ≤ 255 := by
  obtain ⟨h1, h2⟩ := h
  have w : wr (s.pos + 1) = s.pos + 1 := wr_id (by omega) (by omega)
  have b1 := fun a => (and255 a).1
  have b2 := fun a => (and255 a).2
  unfold t_spec_l00Src_next
  rw [w]
  by_cases c : s.pos < ((s.code.getD []).length : Nat)
  · obtain ⟨a, ha, _⟩ := getI_in h1 c
    have c2 : s.pos + 1 ≤ ((s.code.getD []).length : Nat) := by omega
    have := a.toNat_lt
    simp only [c, decide_true, cond_true, ha, obind_sm, c2]
    exact ⟨_, _, rfl, ⟨by simp only; omega, by simp only; omega⟩, by omega, by omega⟩
  · have c2 : ¬ s.pos + 1 ≤ ((s.code.getD []).length : Nat) := by omega
    simp only [c, decide_false, cond_false, c2]
    exact ⟨_, _, rfl, ⟨by simp only; omega, by simp only; omega⟩, b1 _, b2 _⟩
theorem dr_pick {s : l00Src} {k : Int} (h : SK s k) (hk : k ≤ 100000000000) {n : Int} (hn : n ≤ 60000) : ∃ r s', t_spec_l00Src_pick s n = some (r, s') ∧ SK s' (k + 2) ∧ 0 ≤ r ∧ (1 ≤ n → r < n) ∧ (n ≤ 1 → r = 0) := by
  unfold t_spec_l00Src_pick
  by_cases c : n ≤ 1
  · simp only [c, decide_true, cond_true]
    exact ⟨0, _, rfl, ⟨h.lo, by have := h.hi; simp only; omega⟩, by omega, fun _ => by omega, fun _ => rfl⟩
  · obtain ⟨r1, s1, e1, k1, p1, q1⟩ := dr_next h (by omega)
    simp only [c, decide_false, cond_false]
    have e1' : t_spec_l00Src_next ⟨s.code, s.pos, s.seed⟩ = some (r1, s1) := e1
    rw [e1', obind_sm]
    by_cases c2 : 200 < n
    · obtain ⟨r2, s2, e2, k2, p2, q2⟩ := dr_next k1 (by omega)
      have e2' : t_spec_l00Src_next ⟨s1.code, s1.pos, s1.seed⟩ = some (r2, s2) := e2
      have w1 : wr (r1 * 256) = r1 * 256 := wr_id (by omega) (by omega)
      have w2 : wr (r1 * 256 + r2) = r1 * 256 + r2 := wr_id (by omega) (by omega)
      obtain ⟨q, e3, p3, q3⟩ := remI_pos (a := r1 * 256 + r2) (b := n) (by omega) (by omega)
      simp only [c2, decide_true, cond_true, e2', obind_sm, w1, w2, e3]
      exact ⟨_, _, rfl, ⟨k2.lo, by have := k2.hi; simp only; omega⟩, p3, fun _ => q3, fun h => False.elim h⟩
    · obtain ⟨q, e3, p3, q3⟩ := remI_pos (a := r1) (b := n) (by omega) (by omega)
      simp only [c2, decide_false, cond_false, e3, obind_sm]
      exact ⟨_, _, rfl, ⟨k1.lo, by have := k1.hi; simp only; omega⟩, p3, fun _ => q3, fun h => False.elim h⟩
theorem dr_one {s : l00Src} {k : Int} (h : SK s k) (hk : k ≤ 100000000000) {n : Int} (hn : n ≤ 60000) : ∃ b s', t_spec_l00Src_one s n = some (b, s') ∧ SK s' (k + 2) := by
  obtain ⟨r, s', e, k', _⟩ := dr_pick h hk hn
  have e' : t_spec_l00Src_pick ⟨s.code, s.pos, s.seed⟩ n = some (r, s') := e
  unfold t_spec_l00Src_one
  simp only [e', obind_sm]
  exact ⟨_, _, rfl, k'⟩
theorem dr_among {s : l00Src} {k : Int} (h : SK s k) (hk : k ≤ 100000000000) {l : List Int} (h0 : l ≠ []) (hl : l.length ≤ 60000) : ∃ r s', t_spec_l00Src_among s (some l) = some (r, s') ∧ SK s' (k + 2) ∧ r ∈ l := by
  have hp : 0 < l.length := List.length_pos_iff.2 h0
  obtain ⟨r, s', e, k', p, q, _⟩ := dr_pick h hk (n := (l.length : Nat)) (by omega)
  have e' : t_spec_l00Src_pick ⟨s.code, s.pos, s.seed⟩ (l.length : Nat) = some (r, s') := e
  obtain ⟨a, ha, ha2⟩ := getI_in (l := l) p (q (by omega))
  unfold t_spec_l00Src_among
  simp only [Option.getD_some, e', obind_sm, ha]
  exact ⟨_, _, rfl, k', List.mem_of_getElem? ha2⟩

/-- A feature that is one. -/
structure FOK (f : Feat) : Prop where
  x0 : 0 ≤ f.x
  x1 : f.x ≤ 255
  y0 : 0 ≤ f.y
  y1 : f.y ≤ 255
  d0 : 0 ≤ f.d
  d1 : f.d ≤ 7
theorem clip_ok {x : Int} (h : -1000 ≤ x) (h' : x ≤ 1000) : 0 ≤ max (0 : Int) (min 255 x) ∧ max (0 : Int) (min 255 x) ≤ 255 := by omega
theorem dr_feats {s : l00Src} {k : Int} (h : SK s k) (hk : k ≤ 1000000) {most : Int} (h1 : 1 ≤ most) (h2 : most ≤ 100) : ∃ l s', t_spec_l09Draw s most = some (some l, s') ∧ SK s' (k + 1000) ∧ 1 ≤ l.length ∧ (l.length : Int) ≤ most ∧ ∀ f ∈ l, FOK f := by
  obtain ⟨r1, s1, e1, k1, p1, q1, _⟩ := dr_pick h (by omega) (n := 256) (by omega)
  obtain ⟨r2, s2, e2, k2, p2, q2, _⟩ := dr_pick k1 (by omega) (n := 256) (by omega)
  obtain ⟨r3, s3, e3, k3, p3, q3, _⟩ := dr_pick k2 (by omega) (n := most) (by omega)
  have q1' := q1 (by omega)
  have q2' := q2 (by omega)
  have q3' := q3 h1
  have w1 : wr (1 + r3) = 1 + r3 := wr_id (by omega) (by omega)
  obtain ⟨N, hN⟩ := Int.eq_ofNat_of_zero_le (a := 1 + r3) (by omega)
  unfold t_spec_l09Draw
  simp only [e1, e2, e3, obind_sm, w1]
  obtain ⟨⟨c1, c2, c3, c4⟩, f1, l, f2, f3, f4, f5⟩ := loopT_ex (step := s0_spec_l09Draw) (fun i (t : (Sl UInt8) × Int × Int × (Sl Feat) × Int × Int × Int) => SK ⟨t.1, t.2.1, t.2.2.1⟩ (k + 6 + 6 * i) ∧ (∃ l, t.2.2.2.1 = some l ∧ l.length = i ∧ ∀ f ∈ l, FOK f) ∧ (0 ≤ t.2.2.2.2.1 ∧ t.2.2.2.2.1 ≤ 255) ∧ (0 ≤ t.2.2.2.2.2.1 ∧ t.2.2.2.2.2.1 ≤ 255) ∧ t.2.2.2.2.2.2 = N - (i : Int))
    N (fun r => ∃ l, r.2.2.2 = some l ∧ l.length = N ∧ (∀ f ∈ l, FOK f) ∧ SK ⟨r.1, r.2.1, r.2.2.1⟩ (k + 6 + 6 * N))
    (fun i ⟨t1, t2, t3, t4, t5, t6, t7⟩ hi ⟨g1, ⟨l, g2, g3, g4⟩, g5, g6, g7⟩ => by
      simp only at g1 g2 g3 g4 g5 g6 g7
      subst g2
      obtain ⟨r4, s4, e4, k4, p4, q4, _⟩ := dr_pick g1 (by omega) (n := 8) (by omega)
      obtain ⟨r5, s5, e5, k5, p5, q5, _⟩ := dr_pick k4 (by omega) (n := 61) (by omega)
      obtain ⟨r6, s6, e6, k6, p6, q6, _⟩ := dr_pick k5 (by omega) (n := 61) (by omega)
      have q4' := q4 (by omega)
      have q5' := q5 (by omega)
      have q6' := q6 (by omega)
      have a1 : wr (t5 + r5) = t5 + r5 := wr_id (by omega) (by omega)
      have a2 : wr (t5 + r5 - 30) = t5 + r5 - 30 := wr_id (by omega) (by omega)
      have a3 : wr (t6 + r6) = t6 + r6 := wr_id (by omega) (by omega)
      have a4 : wr (t6 + r6 - 30) = t6 + r6 - 30 := wr_id (by omega) (by omega)
      have a5 : wr (t7 - 1) = t7 - 1 := wr_id (by omega) (by omega)
      have c : 0 < t7 := by omega
      have ap := appO_some (s := some l) (l := [(⟨t5, t6, r4⟩ : Feat)]) (by simp; omega)
      have e : s0_spec_l09Draw (t1, t2, t3, some l, t5, t6, t7) = some (.inl (s6.code, s6.pos, s6.seed, some (l ++ [⟨t5, t6, r4⟩]), max 0 (min 255 (t5 + r5 - 30)), max 0 (min 255 (t6 + r6 - 30)), t7 - 1)) := by
        unfold s0_spec_l09Draw
        simp only [c, decide_true, cond_true, e4, e5, e6, obind_sm, ap, a1, a2, a3, a4, a5]
        rfl
      refine .inl ⟨_, e, k6.mono (by omega), ⟨_, rfl, by simp [g3], fun f hf => ?_⟩, clip_ok (by omega) (by omega), clip_ok (by omega) (by omega), by simp only; omega⟩
      rcases List.mem_append.1 hf with hf | hf
      · exact g4 f hf
      · have : f = ⟨t5, t6, r4⟩ := by simpa using hf
        subst this
        exact ⟨g5.1, g5.2, g6.1, g6.2, p4, by simp only; omega⟩)
    (fun ⟨t1, t2, t3, t4, t5, t6, t7⟩ ⟨g1, ⟨l, g2, g3, g4⟩, g5, g6, g7⟩ => by
      simp only at g1 g2 g3 g4 g5 g6 g7
      have c : ¬ 0 < t7 := by omega
      have e : s0_spec_l09Draw (t1, t2, t3, t4, t5, t6, t7) = some (.inr (t1, t2, t3, t4)) := by
        unfold s0_spec_l09Draw
        simp only [c, decide_false, cond_false]
      exact ⟨_, e, l, g2, g3, g4, g1⟩)
    (s := (s3.code, s3.pos, s3.seed, some [], r1, r2, 1 + r3)) ⟨k3.mono (by omega), ⟨[], rfl, rfl, fun f hf => by cases hf⟩, ⟨p1, by simp only; omega⟩, ⟨p2, by simp only; omega⟩, by simp only; omega⟩
  simp only at f2 f5
  subst f2
  rw [f1]
  exact ⟨l, _, rfl, f5.mono (by omega), by omega, by omega, f4⟩

theorem size_ok {n : Int} (h : -1000000 ≤ n) (h' : n ≤ 1000000) : ∃ r, t_spec_l09Size n = some r ∧ 0 ≤ r ∧ (r = n ∨ r = -n) := by
  unfold t_spec_l09Size
  by_cases c : n < 0
  · have w : wr (0 - n) = -n := by rw [wr_id (by omega) (by omega)]; omega
    simp only [c, decide_true, cond_true, w]
    exact ⟨_, rfl, by omega, .inr rfl⟩
  · simp only [c, decide_false, cond_false]
    exact ⟨_, rfl, by omega, .inl rfl⟩
/-- Two sequences, and a band for both. -/
structure Two (a b : List Feat) (band : Int) : Prop where
  a1 : 1 ≤ a.length
  a2 : a.length ≤ 9
  b1 : 1 ≤ b.length
  b2 : b.length ≤ 9
  fa : ∀ f ∈ a, FOK f
  fb : ∀ f ∈ b, FOK f
  d1 : (a.length : Int) - b.length ≤ band
  d2 : (b.length : Int) - a.length ≤ band
  b0 : 0 ≤ band
  b3 : band ≤ 20
theorem two_ex (code : Sl UInt8) : ∃ a b band, t_spec_A2Two code = some (some a, some b, band) ∧ Two a b band := by
  obtain ⟨a, s1, e1, k1, la1, la2, fa⟩ := dr_feats (s := ⟨code, 0, 0⟩) (k := 0) ⟨by simp, by simp⟩ (by omega) (most := 8) (by omega) (by omega)
  obtain ⟨b, s2, e2, k2, lb1, lb2, fb⟩ := dr_feats k1 (by omega) (most := 8) (by omega) (by omega)
  obtain ⟨r3, s3, e3, k3⟩ := dr_one k2 (by omega) (n := 2) (by omega)
  unfold t_spec_A2Two
  simp only [e1, e2, e3, obind_sm]
  cases r3 with
  | true =>
    obtain ⟨r4, s4, e4, k4, p4, q4, _⟩ := dr_pick k3 (by omega) (n := 256) (by omega)
    have q4' := q4 (by omega)
    have ap := appO_some (s := some ([] : List Feat)) (l := a) (by simp; omega)
    obtain ⟨f, hf, hf2⟩ := getI_in (l := a) (i := 0) (by omega) (by omega)
    have fm := fa f (List.mem_of_getElem? hf2)
    have ee : appS (some ([] : List Feat)) a = some a := by simp [appS]
    have w1 : wr ((a.length : Int) - (a.length : Int)) = 0 := by rw [wr_id (by omega) (by omega)]; omega
    obtain ⟨r5, e5, p5, q5⟩ := size_ok (n := 0) (by omega) (by omega)
    obtain ⟨r6, s6, e6, k6, p6, q6, _⟩ := dr_pick k4 (by omega) (n := 4) (by omega)
    have q6' := q6 (by omega)
    have w2 : wr (r5 + r6) = r5 + r6 := wr_id (by omega) (by omega)
    simp only [cond_true, Option.getD_some, ap, obind_sm, e4, ee, hf, setS, Option.map_some, List.length_set, w1, e5, e6, w2]
    refine ⟨_, _, _, rfl, la1, by omega, by simp; omega, by simp; omega, fa, fun g hg => ?_, by simp; omega, by simp; omega, by omega, by omega⟩
    rcases List.mem_or_eq_of_mem_set hg with hg | hg
    · exact fa g hg
    · subst hg
      exact ⟨p4, by simp only; omega, fm.y0, fm.y1, fm.d0, fm.d1⟩
  | false =>
    have w1 : wr ((a.length : Int) - (b.length : Int)) = (a.length : Int) - b.length := wr_id (by omega) (by omega)
    obtain ⟨r5, e5, p5, q5⟩ := size_ok (n := (a.length : Int) - b.length) (by omega) (by omega)
    obtain ⟨r6, s6, e6, k6, p6, q6, _⟩ := dr_pick k3 (by omega) (n := 4) (by omega)
    have q6' := q6 (by omega)
    have w2 : wr (r5 + r6) = r5 + r6 := wr_id (by omega) (by omega)
    simp only [cond_false, Option.getD_some, w1, e5, obind_sm, e6, w2]
    exact ⟨_, _, _, rfl, la1, by omega, lb1, by omega, fa, fb, by omega, by omega, by omega, by omega⟩

/-- A path through two sequences of `n` and `m` elements: from the first pair to the last one by steps. -/
def stepOK (p q : Pair) : Prop := (q.i = p.i ∨ q.i = p.i + 1) ∧ (q.j = p.j ∨ q.j = p.j + 1) ∧ q ≠ p
def chain : List Pair → Prop
  | p :: q :: r => stepOK p q ∧ chain (q :: r)
  | _ => True
structure PathOK (l : List Pair) (n m : Int) : Prop where
  first : l.head? = some ⟨0, 0⟩
  last : l.getLast? = some ⟨n - 1, m - 1⟩
  steps : chain l
theorem pair_ne {a b c d : Int} (h : a ≠ c ∨ b ≠ d) : (⟨a, b⟩ : Pair) ≠ ⟨c, d⟩ := by
  intro e
  simp only [Pair.mk.injEq] at e
  rcases h with h | h
  · exact h e.1
  · exact h e.2
theorem chain_app {l : List Pair} {p q : Pair} (h : chain l) (hl : l.getLast? = some p) (hs : stepOK p q) : chain (l ++ [q]) := by
  induction l with
  | nil => simp at hl
  | cons a l ih =>
    cases l with
    | nil =>
      simp at hl
      subst hl
      exact ⟨hs, trivial⟩
    | cons b l => exact ⟨h.1, ih h.2 (by simpa [List.getLast?_cons_cons] using hl)⟩
theorem getLast_get {A : Type} {l : List A} {x : A} (h : l.getLast? = some x) (hl : l.length ≤ 1000000) : getI l (wr ((l.length : Int) - 1)) = some x := by
  have h1 : l ≠ [] := by rintro rfl; simp at h
  have hp : 0 < l.length := List.length_pos_iff.2 h1
  have w : wr ((l.length : Int) - 1) = ((l.length - 1 : Nat) : Int) := by rw [wr_id (by omega) (by omega)]; omega
  rw [w]
  apply getI_nat
  rw [List.getLast?_eq_getElem?] at h
  exact h
theorem path_ex (code : Sl UInt8) {n m : Int} (hn : 1 ≤ n) (hn2 : n ≤ 100) (hm : 1 ≤ m) (hm2 : m ≤ 100) : ∃ l, t_spec_A2Path code n m = some (some l) ∧ PathOK l n m ∧ l.length ≤ 200 := by
  have w1 : wr (n - 1) = n - 1 := wr_id (by omega) (by omega)
  have w2 : wr (m - 1) = m - 1 := wr_id (by omega) (by omega)
  unfold t_spec_A2Path
  -- the steps are counted by how far the path has come; every round goes on by one step at least
  have key : ∀ (k : Nat) (s : l00Src) (l : List Pair) (i j : Int), (n - 1 - i) + (m - 1 - j) ≤ k → 0 ≤ i → i ≤ n - 1 → 0 ≤ j → j ≤ m - 1 → l.head? = some ⟨0, 0⟩ → l.getLast? = some ⟨i, j⟩ → chain l → (l.length : Int) ≤ i + j + 1 → SK s (1000 - 4 * k) → k ≤ 200 →
      ∃ l', loopT (s0_spec_A2Path n m) (s.code, s.pos, s.seed, some l, i, j) = some (some l') ∧ PathOK l' n m ∧ l'.length ≤ 200 := by
    intro k
    induction k with
    | zero =>
      intro s l i j hk hi hi2 hj hj2 h1 h2 h3 h4 h5 h6
      have ei : i = n - 1 := by omega
      have ej : j = m - 1 := by omega
      subst ei ej
      have e : s0_spec_A2Path n m (s.code, s.pos, s.seed, some l, n - 1, m - 1) = some (.inr (some l)) := by
        unfold s0_spec_A2Path
        simp only [w1, w2, Int.lt_irrefl, decide_false, cond_false, obind_sm]
      exact ⟨l, loopT_end e, ⟨h1, h2, h3⟩, by omega⟩
    | succ k ih =>
      intro s l i j hk hi hi2 hj hj2 h1 h2 h3 h4 h5 h6
      by_cases hend : i = n - 1 ∧ j = m - 1
      · obtain ⟨ei, ej⟩ := hend
        subst ei ej
        have e : s0_spec_A2Path n m (s.code, s.pos, s.seed, some l, n - 1, m - 1) = some (.inr (some l)) := by
          unfold s0_spec_A2Path
          simp only [w1, w2, Int.lt_irrefl, decide_false, cond_false, obind_sm]
        exact ⟨l, loopT_end e, ⟨h1, h2, h3⟩, by omega⟩
      obtain ⟨r, s', er, k', p', q', _⟩ := dr_pick h5 (by omega) (n := 3) (by omega)
      have er' : t_spec_l00Src_pick ⟨s.code, s.pos, s.seed⟩ 3 = some (r, s') := er
      have a1 : wr (i + 1) = i + 1 := wr_id (by omega) (by omega)
      have a2 : wr (j + 1) = j + 1 := wr_id (by omega) (by omega)
      have gl := getLast_get h2 (by omega)
      have go : ∀ (i' j' : Int), i' ≤ n - 1 → j' ≤ m - 1 → stepOK ⟨i, j⟩ ⟨i', j'⟩ → ∃ l', loopT (s0_spec_A2Path n m) (s'.code, s'.pos, s'.seed, some (l ++ [⟨i', j'⟩]), i', j') = some (some l') ∧ PathOK l' n m ∧ l'.length ≤ 200 := by
        intro i' j' h7 h8 hs
        have hs' := hs
        obtain ⟨g1, g2, g3⟩ := hs
        simp only at g1 g2
        have : ¬ (i' = i ∧ j' = j) := fun ⟨e1, e2⟩ => g3 (by rw [e1, e2])
        refine ih s' (l ++ [⟨i', j'⟩]) i' j' (by omega) (by omega) h7 (by omega) h8 ?_ (by simp) (chain_app h3 h2 hs') (by simp; omega) (k'.mono (by omega)) (by omega)
        cases l with
        | nil => simp at h1
        | cons a l => simpa using h1
      have ap := fun x : Pair => appO_some (s := some l) (l := [x]) (by simp; omega)
      have tryit : ∀ (i' j' : Int), i' ≤ n - 1 → j' ≤ m - 1 → stepOK ⟨i, j⟩ ⟨i', j'⟩ → s0_spec_A2Path n m (s.code, s.pos, s.seed, some l, i, j) = some (.inl (s'.code, s'.pos, s'.seed, appS (some l) [⟨i', j'⟩], i', j')) → ∃ l', loopT (s0_spec_A2Path n m) (s.code, s.pos, s.seed, some l, i, j) = some (some l') ∧ PathOK l' n m ∧ l'.length ≤ 200 := by
        intro i' j' h7 h8 hs e
        rw [loopT_next e]
        exact go i' j' h7 h8 hs
      have ne1 : (⟨i, j⟩ : Pair) ≠ ⟨i + 1, j + 1⟩ := pair_ne (by omega)
      have ne2 : (⟨i, j⟩ : Pair) ≠ ⟨i + 1, j⟩ := pair_ne (by omega)
      have ne3 : (⟨i, j⟩ : Pair) ≠ ⟨i, j + 1⟩ := pair_ne (by omega)
      by_cases ci : i = n - 1
      · have cj : j ≠ m - 1 := fun h => hend ⟨ci, h⟩
        have cj2 : j < m - 1 := by omega
        refine tryit i (j + 1) (by omega) (by omega) ⟨.inl rfl, .inr rfl, pair_ne (by omega)⟩ ?_
        unfold s0_spec_A2Path
        subst ci
        by_cases r0 : r = 0 <;> simp [w1, w2, cj, cj2, er', a2, gl, ne3, ap, r0]
      · have ci2 : i < n - 1 := by omega
        by_cases cj : j = m - 1
        · refine tryit (i + 1) j (by omega) (by omega) ⟨.inr rfl, .inl rfl, pair_ne (by omega)⟩ ?_
          unfold s0_spec_A2Path
          subst cj
          by_cases r0 : r = 0 <;> by_cases c3 : i + 1 = n - 1 <;> simp [w1, w2, ci2, ci, er', a1, gl, ne2, ap, r0, c3]
        · have cj2 : j < m - 1 := by omega
          by_cases r1 : r = 1
          · refine tryit i (j + 1) (by omega) (by omega) ⟨.inl rfl, .inr rfl, pair_ne (by omega)⟩ ?_
            unfold s0_spec_A2Path
            simp [w1, w2, ci2, ci, cj, cj2, er', a1, a2, gl, ne3, ap, r1]
          · by_cases c4 : r = 0 ∧ i + 1 ≠ n - 1
            · refine tryit (i + 1) j (by omega) (by omega) ⟨.inr rfl, .inl rfl, pair_ne (by omega)⟩ ?_
              unfold s0_spec_A2Path
              simp [w1, w2, ci2, ci, cj, cj2, er', a1, a2, gl, ne2, ap, r1, c4]
            · refine tryit (i + 1) (j + 1) (by omega) (by omega) ⟨.inr rfl, .inr rfl, pair_ne (by omega)⟩ ?_
              unfold s0_spec_A2Path
              by_cases r0 : r = 0
              · have c5 : i + 1 = n - 1 := by
                  by_cases h : i + 1 = n - 1
                  · exact h
                  · exact absurd ⟨r0, h⟩ c4
                simp [w1, w2, ci2, ci, cj, cj2, er', a1, a2, gl, ne1, ap, r1, r0, c5]
              · simp [w1, w2, ci2, ci, cj, cj2, er', a1, a2, gl, ne1, ap, r1, r0]
  have h0 := key 200 ⟨code, 0, 0⟩ [⟨0, 0⟩] 0 0 (by omega) (by omega) (by omega) (by omega) (by omega) rfl rfl trivial (by simp) ⟨by simp, by simp⟩ (by omega)
  obtain ⟨l', e, h1, h2⟩ := h0
  simp only at e
  rw [e]
  exact ⟨l', rfl, h1, h2⟩

theorem wr_succ {k n : Nat} (h : k < n) (hn : n ≤ 4294967296) : wr ((k : Int) + 1) = ((k + 1 : Nat) : Int) := by
  rw [wr_id (by omega) (by omega)]
  omega
theorem get_lt {A : Type} {l : List A} {k : Nat} {a : A} (h : l[k]? = some a) : k < l.length := (List.getElem?_eq_some_iff.1 h).1
theorem cf_Feat {p : Feat → Option Bool} {f : Feat → Bool} (l : List Feat) (hl : l.length ≤ 4294967296) (hp : ∀ a ∈ l, p a = some (f a)) : t_slices_ContainsFunc_impl_Feat_impl_Feat p (some l) = some (l.any f) := by
  unfold t_slices_ContainsFunc_impl_Feat_impl_Feat t_slices_IndexFunc_impl_Feat_impl_Feat
  have h := loopT_first (step := s0_slices_IndexFunc_impl_Feat_impl_Feat p (some l)) l (fun k a => bif f a then some (k : Int) else none) (.inl ()) .inr
    (fun k a ha => by
      have hk := get_lt ha
      have c : (k : Int) < (l.length : Nat) := by omega
      have w := wr_succ hk hl
      unfold s0_slices_IndexFunc_impl_Feat_impl_Feat
      simp only [Option.getD_some, c, decide_true, cond_true, getI_nat ha, obind_sm, hp a (List.mem_of_getElem? ha), w]
      cases f a <;> rfl)
    (by
      unfold s0_slices_IndexFunc_impl_Feat_impl_Feat
      simp only [Option.getD_some, Int.lt_irrefl, decide_false, cond_false])
  have key : ∀ (l : List Feat) (k : Nat) (x : Option Int), firstL (fun (k : Nat) a => bif f a then some (k : Int) else none) l k = x → (x = none ∧ l.any f = false) ∨ ∃ r, x = some r ∧ 0 ≤ r ∧ l.any f = true := by
    intro l
    induction l with
    | nil => intro k x hx; exact .inl ⟨hx.symm, rfl⟩
    | cons a l ih =>
      intro k x hx
      unfold firstL at hx
      cases e : f a with
      | true =>
        rw [e] at hx
        exact .inr ⟨(k : Int), hx.symm, by omega, by simp [e]⟩
      | false =>
        rw [e] at hx
        rcases ih (k + 1) x hx with h | ⟨r, h1, h2, h3⟩
        · exact .inl ⟨h.1, by simp [e, h.2]⟩
        · exact .inr ⟨r, h1, h2, by simp [e, h3]⟩
  rcases key l 0 _ rfl with ⟨h1, h2⟩ | ⟨r, h1, h2, h3⟩
  · rw [h1] at h
    simp [h, h2]
  · rw [h1] at h
    simp [h, h2, h3]
theorem validFeat_ok {f : Feat} (h : FOK f) : t_impl_ValidFeat f = some true := by
  obtain ⟨h1, h2, h3, h4, h5, h6⟩ := h
  simp [t_impl_ValidFeat, within, h1, h2, h3, h4, h5, h6]
theorem validSeq_ok {l : List Feat} (h : ∀ f ∈ l, FOK f) (h1 : 1 ≤ l.length) (h2 : l.length ≤ 72) : t_impl_ValidSeq (some l) = some true := by
  have c := cf_Feat (p := t_impl_areFeats_1) (f := fun _ => false) l (by omega) (fun a ha => by simp [t_impl_areFeats_1, validFeat_ok (h a ha)])
  have e : l.any (fun _ => false) = false := by simp
  rw [e] at c
  have c1 : (1 : Int) ≤ (l.length : Nat) := by omega
  have c2 : ((l.length : Nat) : Int) ≤ 72 := by omega
  simp [t_impl_ValidSeq, t_impl_areFeats, c, c1, c2]

/-- Each pair of a path is in the table; its indices differ by the band at most. -/
theorem chain_get : ∀ {l : List Pair} {k : Nat} {p q : Pair}, chain l → l[k]? = some p → l[k + 1]? = some q → stepOK p q
  | a :: b :: r, 0, p, q, h, h1, h2 => by
    simp at h1 h2
    subst h1 h2
    exact h.1
  | a :: b :: r, k + 1, p, q, h, h1, h2 => chain_get (l := b :: r) h.2 (by simpa using h1) (by simpa using h2)
  | [a], 0, p, q, h, h1, h2 => by simp at h2
  | [a], k + 1, p, q, h, h1, h2 => by simp at h1
  | [], _, _, _, _, h1, _ => by simp at h1
theorem chain_mono : ∀ {l : List Pair}, chain l → ∀ (i : Nat) (d : Nat) {p q : Pair}, l[i]? = some p → l[i + d]? = some q → p.i ≤ q.i ∧ p.j ≤ q.j := by
  intro l h i d
  induction d with
  | zero =>
    intro p q h1 h2
    rw [Nat.add_zero, h1] at h2
    cases h2
    exact ⟨Int.le_refl _, Int.le_refl _⟩
  | succ d ih =>
    intro p q h1 h2
    have hlt := get_lt h2
    obtain ⟨m, hm⟩ : ∃ m, l[i + d]? = some m := ⟨l[i + d], List.getElem?_eq_getElem (by omega)⟩
    have h3 := ih h1 hm
    have h4 := chain_get h hm (by rw [Nat.add_assoc]; exact h2)
    obtain ⟨g1, g2, _⟩ := h4
    omega
theorem path_in {l : List Pair} {n m : Int} (P : PathOK l n m) {k : Nat} {p : Pair} (h : l[k]? = some p) : 0 ≤ p.i ∧ p.i ≤ n - 1 ∧ 0 ≤ p.j ∧ p.j ≤ m - 1 := by
  have hk := get_lt h
  have h0 : l[0]? = some ⟨0, 0⟩ := by rw [← P.first]; cases l <;> rfl
  have h1 : l[l.length - 1]? = some ⟨n - 1, m - 1⟩ := by rw [← P.last, List.getLast?_eq_getElem?]
  have a := chain_mono P.steps 0 k h0 (by simpa using h)
  have b := chain_mono P.steps k (l.length - 1 - k) h (by rw [← h1]; congr 1; omega)
  simp only at a b
  omega
theorem validPath_ok {l : List Pair} {n m : Int} (P : PathOK l n m) (hl : l.length ≤ 100000) (hn : n ≤ 73) (hm : m ≤ 73) : t_impl_ValidPath (some l) n m 72 = some true := by
  have hne : l ≠ [] := by
    rintro rfl
    have := P.first
    simp at this
  have hp : 0 < l.length := List.length_pos_iff.2 hne
  have h0 : l[0]? = some ⟨0, 0⟩ := by rw [← P.first]; cases l <;> rfl
  have g0 : getI l 0 = some ⟨0, 0⟩ := getI_nat (m := 0) h0
  have gl := getLast_get P.last (by omega)
  have hin := path_in P h0
  simp only at hin
  have w1 : wr (n - 1) = n - 1 := wr_id (by have := path_in P h0; omega) (by omega)
  have w2 : wr (m - 1) = m - 1 := wr_id (by have := path_in P h0; omega) (by omega)
  have c0 : ¬ ((l.length : Nat) : Int) = 0 := by omega
  have lp := loopT_first (step := s0_impl_ValidPath (some l) 72) l (fun _ _ => (none : Option Bool)) (.inl ()) .inr
    (fun k a ha => by
      have hk := get_lt ha
      have c : (k : Int) < (l.length : Nat) := by omega
      have w := wr_succ hk (by omega)
      have ia := path_in P ha
      have b1 : wr (a.i - a.j) = a.i - a.j := wr_id (by omega) (by omega)
      have b2 : wr (0 - 72 : Int) = -72 := rfl
      have b3 : within (a.i - a.j) (-72) 72 = true := by simp [within]; omega
      unfold s0_impl_ValidPath
      by_cases k0 : k = 0
      · subst k0
        have c' : (0 : Int) < (l.length : Nat) := by omega
        rw [h0] at ha
        cases ha
        have b4 : within (wr 0) (wr (-72)) 72 = true := rfl
        have w' : wr (1 : Int) = 1 := rfl
        simp [hp, g0, b4, w']
      · have c3 : (0 : Int) < (k : Int) := by omega
        have w3 : wr ((k : Int) - 1) = ((k - 1 : Nat) : Int) := by rw [wr_id (by omega) (by omega)]; omega
        obtain ⟨q, hq⟩ : ∃ q, l[k - 1]? = some q := ⟨l[k - 1], List.getElem?_eq_getElem (by omega)⟩
        have st := chain_get P.steps hq (by rw [Nat.sub_add_cancel (by omega)]; exact ha)
        obtain ⟨s1, s2, s3⟩ := st
        have iq := path_in P hq
        have d1 : wr (a.i - q.i) = a.i - q.i := wr_id (by omega) (by omega)
        have d2 : wr (a.j - q.j) = a.j - q.j := wr_id (by omega) (by omega)
        have d3 : wr (a.i - q.i + (a.j - q.j)) = a.i - q.i + (a.j - q.j) := wr_id (by omega) (by omega)
        have d4 : within (a.i - q.i) 0 1 = true := by simp [within]; omega
        have d5 : within (a.j - q.j) 0 1 = true := by simp [within]; omega
        have d6 : ¬ a.i - q.i + (a.j - q.j) = 0 := by
          intro h
          apply s3
          obtain ⟨a1, a2⟩ := a
          obtain ⟨q1, q2⟩ := q
          simp only [Pair.mk.injEq] at *
          omega
        simp only [Option.getD_some, c, c3, decide_true, cond_true, getI_nat ha, obind_sm, w3, getI_nat hq, d1, d2, d3, d4, d5, d6, decide_false, Bool.not_true, cond_false, b1, b2, b3, w])
    (by
      unfold s0_impl_ValidPath
      simp only [Option.getD_some, Int.lt_irrefl, decide_false, cond_false])
  rw [firstL_none (fun _ _ _ => rfl)] at lp
  unfold t_impl_ValidPath
  simp [hne, g0, gl, w1, w2, lp]
theorem pathable_ok {a b : List Feat} {band : Int} (T : Two a b band) {l : List Pair} (P : PathOK l (a.length : Nat) (b.length : Nat)) (hl : l.length ≤ 100000) : t_impl_pathable (some a) (some b) (some l) = some 0 := by
  have h1 := validSeq_ok T.fa T.a1 (by have := T.a2; omega)
  have h2 := validSeq_ok T.fb T.b1 (by have := T.b2; omega)
  have h3 := validPath_ok P hl (by have := T.a2; omega) (by have := T.b2; omega)
  simp [t_impl_pathable, h1, h2, h3]

/-- The nearest quotient lies between whole bounds. -/
theorem near_ok {n d : Int} (hn : 0 ≤ n) (hn2 : n ≤ 1000000000) (hd : 0 < d) (hd2 : d ≤ 1000000000) : ∃ z, t_impl_nearestDiv n d = some z ∧ 0 ≤ z ∧ (∀ lo, lo * d ≤ n → lo ≤ z) ∧ (∀ hi, n ≤ hi * d → z ≤ hi) := by
  have hne : ¬ d = 0 := by omega
  have e1 : n.tdiv d = n / d := Int.tdiv_eq_ediv_of_nonneg hn
  have e2 : n.tmod d = n % d := Int.tmod_eq_emod_of_nonneg hn
  have m0 := Int.emod_nonneg n hne
  have m1 := Int.emod_lt_of_pos n hd
  have md := Int.emod_add_mul_ediv n d
  have q0 : 0 ≤ n / d := Int.ediv_nonneg hn (by omega)
  have q1 : n / d ≤ n := Int.ediv_le_self d hn
  generalize hq : n / d = q at *
  generalize hr : n % d = r at *
  have w1 : wr q = q := wr_id (by omega) (by omega)
  have ec : q * d = d * q := Int.mul_comm q d
  have w2 : wr (q * d) = q * d := wr_id (by rw [ec]; omega) (by rw [ec]; omega)
  have w3 : wr (n - q * d) = r := by rw [wr_id (by rw [ec]; omega) (by rw [ec]; omega), ec]; omega
  have w4 : wr (d - r) = d - r := wr_id (by omega) (by omega)
  have w5 : wr (q + 1) = q + 1 := wr_id (by omega) (by omega)
  have f : t_impl_floorDiv n d = some q := by
    have c : ¬ r < 0 := by omega
    simp [t_impl_floorDiv, quoI, remI, hne, e1, e2, w1, c]
  have lo1 : ∀ lo, lo * d ≤ n → lo ≤ q := fun lo h => by
    rw [← hq]
    exact Int.le_ediv_of_mul_le hd h
  unfold t_impl_nearestDiv
  simp only [f, obind_sm, w2, w3, w4, w5]
  by_cases c : d - r ≤ r
  · simp only [c, decide_true, cond_true]
    refine ⟨_, rfl, by omega, fun lo h => by have := lo1 lo h; omega, fun hi h => ?_⟩
    by_cases h2 : q + 1 ≤ hi
    · exact h2
    · exfalso
      have h3 : hi ≤ q := by omega
      have h4 : hi * d ≤ q * d := Int.mul_le_mul_of_nonneg_right h3 (by omega)
      omega
  · simp only [c, decide_false, cond_false]
    refine ⟨_, rfl, q0, fun lo h => lo1 lo h, fun hi h => ?_⟩
    by_cases h2 : q ≤ hi
    · exact h2
    · exfalso
      have h3 : hi ≤ q - 1 := by omega
      have h4 : hi * d ≤ (q - 1) * d := Int.mul_le_mul_of_nonneg_right h3 (by omega)
      have h5 : (q - 1) * d = q * d - d := by rw [Int.sub_mul, Int.one_mul]
      omega

theorem mr_get {A : Type} {F : Nat → A} {n m : Nat} (h : m < n) : getI ((List.range n).map F) (m : Int) = some (F m) := getI_nat (by simp [h])
theorem mr_set {A : Type} {F : Nat → A} {n m : Nat} {v : A} : ((List.range n).map F).set m v = (List.range n).map fun i => if i = m then v else F i := by
  apply List.ext_getElem?
  intro i
  by_cases hi : i < n
  · by_cases e : i = m
    · subst e
      simp [hi]
    · rw [List.getElem?_set_ne (fun h => e h.symm)]
      simp [hi, e]
  · simp [hi]
def bAt (b : List Feat) (j : Int) : Feat := b.getD j.toNat ⟨0, 0, 0⟩
def accX (b : List Feat) (i : Nat) : List Pair → Int
  | [] => 0
  | p :: r => (if p.i = (i : Int) then (bAt b p.j).x else 0) + accX b i r
def accY (b : List Feat) (i : Nat) : List Pair → Int
  | [] => 0
  | p :: r => (if p.i = (i : Int) then (bAt b p.j).y else 0) + accY b i r
def accK (i : Nat) : List Pair → Int
  | [] => 0
  | p :: r => (if p.i = (i : Int) then 1 else 0) + accK i r
theorem accX_app (b : List Feat) (i : Nat) : ∀ (l r : List Pair), accX b i (l ++ r) = accX b i l + accX b i r
  | [], r => by simp [accX]
  | p :: l, r => by simp only [List.cons_append, accX, accX_app b i l r]; omega
theorem accY_app (b : List Feat) (i : Nat) : ∀ (l r : List Pair), accY b i (l ++ r) = accY b i l + accY b i r
  | [], r => by simp [accY]
  | p :: l, r => by simp only [List.cons_append, accY, accY_app b i l r]; omega
theorem accK_app (i : Nat) : ∀ (l r : List Pair), accK i (l ++ r) = accK i l + accK i r
  | [], r => by simp [accK]
  | p :: l, r => by simp only [List.cons_append, accK, accK_app i l r]; omega
theorem accK_le (i : Nat) : ∀ (l : List Pair), 0 ≤ accK i l ∧ accK i l ≤ l.length
  | [] => by simp [accK]
  | p :: l => by
    have := accK_le i l
    simp only [accK, List.length_cons]
    split <;> omega
theorem accX_le {b : List Feat} (hb : ∀ f ∈ b, FOK f) (i : Nat) {lo hi : Int} : ∀ (l : List Pair), (∀ p ∈ l, p.i = (i : Int) → lo ≤ (bAt b p.j).x ∧ (bAt b p.j).x ≤ hi) → lo * accK i l ≤ accX b i l ∧ accX b i l ≤ hi * accK i l
  | [], _ => by simp [accX, accK]
  | p :: l, h => by
    have ih := accX_le hb i l fun q hq => h q (List.mem_cons_of_mem _ hq)
    simp only [accX, accK]
    split
    · rename_i e
      have := h p (by simp) e
      rw [Int.mul_add, Int.mul_add, Int.mul_one, Int.mul_one]
      omega
    · simpa using ih
theorem accY_le {b : List Feat} (hb : ∀ f ∈ b, FOK f) (i : Nat) {lo hi : Int} : ∀ (l : List Pair), (∀ p ∈ l, p.i = (i : Int) → lo ≤ (bAt b p.j).y ∧ (bAt b p.j).y ≤ hi) → lo * accK i l ≤ accY b i l ∧ accY b i l ≤ hi * accK i l
  | [], _ => by simp [accY, accK]
  | p :: l, h => by
    have ih := accY_le hb i l fun q hq => h q (List.mem_cons_of_mem _ hq)
    simp only [accY, accK]
    split
    · rename_i e
      have := h p (by simp) e
      rw [Int.mul_add, Int.mul_add, Int.mul_one, Int.mul_one]
      omega
    · simpa using ih
theorem bAt_ok {b : List Feat} (hb : ∀ f ∈ b, FOK f) (j : Int) : 0 ≤ (bAt b j).x ∧ (bAt b j).x ≤ 255 ∧ 0 ≤ (bAt b j).y ∧ (bAt b j).y ≤ 255 := by
  unfold bAt
  rw [List.getD_eq_getElem?_getD]
  cases e : b[j.toNat]? with
  | none => simp
  | some f =>
    have := hb f (List.mem_of_getElem? e)
    obtain ⟨h1, h2, h3, h4, _, _⟩ := this
    simp only [Option.getD_some]
    omega
theorem accX_big {b : List Feat} (hb : ∀ f ∈ b, FOK f) (i : Nat) (l : List Pair) : 0 ≤ accX b i l ∧ accX b i l ≤ 255 * l.length := by
  have h := accX_le hb i (lo := 0) (hi := 255) l fun p _ _ => ⟨(bAt_ok hb p.j).1, (bAt_ok hb p.j).2.1⟩
  have := accK_le i l
  omega
theorem accY_big {b : List Feat} (hb : ∀ f ∈ b, FOK f) (i : Nat) (l : List Pair) : 0 ≤ accY b i l ∧ accY b i l ≤ 255 * l.length := by
  have h := accY_le hb i (lo := 0) (hi := 255) l fun p _ _ => ⟨(bAt_ok hb p.j).2.2.1, (bAt_ok hb p.j).2.2.2⟩
  have := accK_le i l
  omega
/-- Every row is met. -/
theorem accK_pos {l : List Pair} {n m : Int} (P : PathOK l n m) {i : Nat} (hi : (i : Int) ≤ n - 1) : 1 ≤ accK i l := by
  have key : ∀ (l : List Pair) (a : Pair), l.head? = some a → chain l → a.i ≤ i → (∃ z, l.getLast? = some z ∧ (i : Int) ≤ z.i) → 1 ≤ accK i l := by
    intro l
    induction l with
    | nil => intro a h; simp at h
    | cons p l ih =>
      intro a h1 h2 h3 h4
      simp at h1
      subst h1
      simp only [accK]
      have := accK_le i l
      by_cases e : p.i = (i : Int)
      · rw [if_pos e]; omega
      · rw [if_neg e]
        cases l with
        | nil =>
          obtain ⟨z, h5, h6⟩ := h4
          simp at h5
          subst h5
          omega
        | cons q l =>
          obtain ⟨z, h5, h6⟩ := h4
          have h7 := h2.1.1
          have := ih q rfl h2.2 (by omega) ⟨z, by simpa [List.getLast?_cons_cons] using h5, h6⟩
          omega
  exact key l ⟨0, 0⟩ P.first P.steps (by simp only; omega) ⟨_, P.last, hi⟩

def sumsL (b : List Feat) (n : Nat) (l : List Pair) : List Feat := (List.range n).map fun i => ⟨accX b i l, accY b i l, 0⟩
def cntsL (n : Nat) (l : List Pair) : List Int := (List.range n).map fun i => accK i l
theorem getI_bAt {b : List Feat} {j : Int} (h0 : 0 ≤ j) (h1 : j < (b.length : Nat)) : getI b j = some (bAt b j) := by
  obtain ⟨a, e1, e2⟩ := getI_in h0 h1
  rw [e1]
  unfold bAt
  rw [List.getD_eq_getElem?_getD, e2]
  rfl
theorem blend1 {b : List Feat} (hb : ∀ f ∈ b, FOK f) {path : List Pair} {n m : Nat} (P : PathOK path (n : Int) (m : Int)) (hm : m = b.length) (hl : path.length ≤ 100000) :
    loopT (s0_impl_BlendFeats (some b) (some path)) (some (sumsL b n []), some (cntsL n []), 0) = some (some (sumsL b n path), some (cntsL n path)) := by
  have key : ∀ (suf pre : List Pair), path = pre ++ suf → loopT (s0_impl_BlendFeats (some b) (some path)) (some (sumsL b n pre), some (cntsL n pre), (pre.length : Nat)) = some (some (sumsL b n path), some (cntsL n path)) := by
    intro suf
    induction suf with
    | nil =>
      intro pre h
      simp at h
      subst h
      apply loopT_end
      unfold s0_impl_BlendFeats
      simp only [Option.getD_some, Int.lt_irrefl, decide_false, cond_false]
    | cons p suf ih =>
      intro pre h
      have hp : path[pre.length]? = some p := by rw [h]; simp
      have hlt := get_lt hp
      have hin := path_in P hp
      obtain ⟨i, hi⟩ := Int.eq_ofNat_of_zero_le hin.1
      have hin' : i < n := by omega
      have c : ((pre.length : Nat) : Int) < ((path.length : Nat) : Int) := by omega
      have gb : getI b p.j = some (bAt b p.j) := getI_bAt hin.2.2.1 (by omega)
      have kx := accX_big hb i pre
      have ky := accY_big hb i pre
      have kk := accK_le i pre
      have bb := bAt_ok hb p.j
      have hpl : pre.length ≤ 100000 := by omega
      have w1 : wr (accX b i pre + (bAt b p.j).x) = accX b i pre + (bAt b p.j).x := wr_id (by omega) (by omega)
      have w2 : wr (accY b i pre + (bAt b p.j).y) = accY b i pre + (bAt b p.j).y := wr_id (by omega) (by omega)
      have w3 : wr (accK i pre + 1) = accK i pre + 1 := wr_id (by omega) (by omega)
      have w4 := wr_succ hlt (by omega)
      have e : s0_impl_BlendFeats (some b) (some path) (some (sumsL b n pre), some (cntsL n pre), (pre.length : Nat)) = some (.inl (some (sumsL b n (pre ++ [p])), some (cntsL n (pre ++ [p])), ((pre.length + 1 : Nat) : Int))) := by
        unfold s0_impl_BlendFeats
        simp only [Option.getD_some, c, decide_true, cond_true, getI_nat hp, obind_sm, hi, sumsL, cntsL, mr_get hin', gb, setS, Option.map_some, Int.toNat_natCast, mr_set, if_true, w1, w2, w3, w4]
        have e1 : ((List.range n).map fun j => if j = i then (⟨accX b i pre + (bAt b p.j).x, accY b i pre + (bAt b p.j).y, 0⟩ : Feat) else if j = i then ⟨accX b i pre + (bAt b p.j).x, accY b i pre, 0⟩ else ⟨accX b j pre, accY b j pre, 0⟩) = (List.range n).map fun j => (⟨accX b j (pre ++ [p]), accY b j (pre ++ [p]), 0⟩ : Feat) := by
          apply List.map_congr_left
          intro j hj
          rw [accX_app, accY_app]
          simp only [accX, accY, hi]
          by_cases ej : j = i
          · subst ej
            simp
          · have ej2 : ¬ (i : Int) = (j : Int) := by omega
            simp [ej, ej2]
        have e2 : ((List.range n).map fun j => if j = i then accK i pre + 1 else accK j pre) = (List.range n).map fun j => accK j (pre ++ [p]) := by
          apply List.map_congr_left
          intro j hj
          rw [accK_app]
          simp only [accK, hi]
          by_cases ej : j = i
          · subst ej
            simp
          · have ej2 : ¬ (i : Int) = (j : Int) := by omega
            simp [ej, ej2]
        rw [e1, e2]
      rw [loopT_next e]
      have := ih (pre ++ [p]) (by simp [h])
      simpa using this
  exact key path [] rfl
/-- The means of the elements of `a` and of those that the path matches with them. -/
structure Blend (a b : List Feat) (path : List Pair) (i : Nat) (f g : Feat) : Prop where
  d : g.d = f.d
  x : ∀ lo hi, lo ≤ f.x → f.x ≤ hi → (∀ p ∈ path, p.i = (i : Int) → lo ≤ (bAt b p.j).x ∧ (bAt b p.j).x ≤ hi) → lo ≤ g.x ∧ g.x ≤ hi
  y : ∀ lo hi, lo ≤ f.y → f.y ≤ hi → (∀ p ∈ path, p.i = (i : Int) → lo ≤ (bAt b p.j).y ∧ (bAt b p.j).y ≤ hi) → lo ≤ g.y ∧ g.y ≤ hi
theorem blend_ok {a b : List Feat} {band : Int} (T : Two a b band) {path : List Pair} (P : PathOK path (a.length : Nat) (b.length : Nat)) (hl : path.length ≤ 1000) :
    ∃ l, t_impl_BlendFeats (some a) (some b) (some path) = some (some l, 0) ∧ l.length = a.length ∧ ∀ (i : Nat) f g, a[i]? = some f → l[i]? = some g → Blend a b path i f g := by
  have a1 := T.a1
  have a2 := T.a2
  have mk : ∀ {A : Type} (v : A), makeO v ((a.length : Nat) : Int) = some (List.replicate a.length v) := fun v => by
    unfold makeO
    rw [if_pos ⟨by omega, by omega⟩]
    simp
  have r1 : List.replicate a.length (⟨0, 0, 0⟩ : Feat) = sumsL b a.length [] := by simp [sumsL, accX, accY, List.map_const']
  have r2 : List.replicate a.length (0 : Int) = cntsL a.length [] := by simp [cntsL, accK, List.map_const']
  unfold t_impl_BlendFeats
  simp only [pathable_ok T P (by omega), obind_sm, decide_true, Bool.not_true, cond_false, Option.getD_some, mk, r1, r2, blend1 T.fb P rfl (by omega)]
  -- the second loop
  have key : ∀ (suf pre : List Feat) (w : Sl Feat), a = pre ++ suf → (w.getD []).length = pre.length → (w = none → pre = []) → (∀ (i : Nat) f g, pre[i]? = some f → (w.getD [])[i]? = some g → Blend a b path i f g) →
      ∃ l, loopT (s1_impl_BlendFeats (some a) (some (sumsL b a.length path)) (some (cntsL a.length path))) (w, (pre.length : Nat)) = some (some l) ∧ l.length = a.length ∧ ∀ (i : Nat) f g, a[i]? = some f → l[i]? = some g → Blend a b path i f g := by
    intro suf
    induction suf with
    | nil =>
      intro pre w h h1 h2 h3
      simp at h
      subst h
      have e : s1_impl_BlendFeats (some a) (some (sumsL b a.length path)) (some (cntsL a.length path)) (w, (a.length : Nat)) = some (.inr w) := by
        unfold s1_impl_BlendFeats
        simp only [Option.getD_some, Int.lt_irrefl, decide_false, cond_false]
      rw [loopT_end e]
      cases w with
      | none =>
        have := h2 rfl
        rw [this] at a1
        simp at a1
      | some l => exact ⟨l, rfl, by simpa using h1, fun i f g => h3 i f g⟩
    | cons f suf ih =>
      intro pre w h h1 h2 h3
      have hf : a[pre.length]? = some f := by rw [h]; simp
      have hlt := get_lt hf
      have ff := T.fa f (List.mem_of_getElem? hf)
      have c : ((pre.length : Nat) : Int) < ((a.length : Nat) : Int) := by omega
      have k1 := accK_pos P (i := pre.length) (by omega)
      have k2 := accK_le pre.length path
      have kx := accX_big T.fb pre.length path
      have ky := accY_big T.fb pre.length path
      have hfx := ff.x0
      have hfx1 := ff.x1
      have hfy := ff.y0
      have hfy1 := ff.y1
      have px0 : 0 ≤ accK pre.length path * f.x := Int.mul_nonneg (by omega) hfx
      have px1 : accK pre.length path * f.x ≤ 1000 * 255 := Int.mul_le_mul (by omega) hfx1 hfx (by omega)
      have py0 : 0 ≤ accK pre.length path * f.y := Int.mul_nonneg (by omega) hfy
      have py1 : accK pre.length path * f.y ≤ 1000 * 255 := Int.mul_le_mul (by omega) hfy1 hfy (by omega)
      have w1 : wr (accK pre.length path * f.x) = accK pre.length path * f.x := wr_id (by omega) (by omega)
      have w2 : wr (accK pre.length path * f.y) = accK pre.length path * f.y := wr_id (by omega) (by omega)
      have w3 : wr (accX b pre.length path + accK pre.length path * f.x) = accX b pre.length path + accK pre.length path * f.x := wr_id (by omega) (by omega)
      have w4 : wr (accY b pre.length path + accK pre.length path * f.y) = accY b pre.length path + accK pre.length path * f.y := wr_id (by omega) (by omega)
      have w5 : wr (2 * accK pre.length path) = 2 * accK pre.length path := wr_id (by omega) (by omega)
      have w6 := wr_succ hlt (by omega)
      obtain ⟨zx, ex, zx0, xlo, xhi⟩ := near_ok (n := accX b pre.length path + accK pre.length path * f.x) (d := 2 * accK pre.length path) (by omega) (by omega) (by omega) (by omega)
      obtain ⟨zy, ey, zy0, ylo, yhi⟩ := near_ok (n := accY b pre.length path + accK pre.length path * f.y) (d := 2 * accK pre.length path) (by omega) (by omega) (by omega) (by omega)
      have ap := appO_some (s := w) (l := [(⟨zx, zy, f.d⟩ : Feat)]) (by simp; omega)
      have e : s1_impl_BlendFeats (some a) (some (sumsL b a.length path)) (some (cntsL a.length path)) (w, (pre.length : Nat)) = some (.inl (appS w [(⟨zx, zy, f.d⟩ : Feat)], ((pre.length + 1 : Nat) : Int))) := by
        unfold s1_impl_BlendFeats
        simp only [Option.getD_some, c, decide_true, cond_true, getI_nat hf, obind_sm, sumsL, cntsL, mr_get hlt, w1, w2, w3, w4, w5, ex, ey, ap, w6]
      rw [loopT_next e]
      have bl : Blend a b path pre.length f ⟨zx, zy, f.d⟩ := by
        refine ⟨rfl, fun lo hi h4 h5 h6 => ?_, fun lo hi h4 h5 h6 => ?_⟩
        · have := accX_le T.fb pre.length path h6
          have q1 : lo * accK pre.length path ≤ accK pre.length path * f.x := by rw [Int.mul_comm]; exact Int.mul_le_mul_of_nonneg_left h4 (by omega)
          have q2 : accK pre.length path * f.x ≤ hi * accK pre.length path := by rw [Int.mul_comm hi]; exact Int.mul_le_mul_of_nonneg_left h5 (by omega)
          have q3 : ∀ z : Int, z * (2 * accK pre.length path) = z * accK pre.length path + z * accK pre.length path := fun z => by rw [← Int.mul_add]; congr 1; omega
          exact ⟨xlo lo (by rw [q3]; omega), xhi hi (by rw [q3]; omega)⟩
        · have := accY_le T.fb pre.length path h6
          have q1 : lo * accK pre.length path ≤ accK pre.length path * f.y := by rw [Int.mul_comm]; exact Int.mul_le_mul_of_nonneg_left h4 (by omega)
          have q2 : accK pre.length path * f.y ≤ hi * accK pre.length path := by rw [Int.mul_comm hi]; exact Int.mul_le_mul_of_nonneg_left h5 (by omega)
          have q3 : ∀ z : Int, z * (2 * accK pre.length path) = z * accK pre.length path + z * accK pre.length path := fun z => by rw [← Int.mul_add]; congr 1; omega
          exact ⟨ylo lo (by rw [q3]; omega), yhi hi (by rw [q3]; omega)⟩
      have := ih (pre ++ [f]) (appS w [⟨zx, zy, f.d⟩]) (by simp [h]) (by rw [appS_getD]; simp [h1]) (fun h => by cases w <;> simp [appS] at h) (fun i f' g h4 h5 => by
        rw [appS_getD] at h5
        by_cases hi : i < pre.length
        · rw [List.getElem?_append_left hi] at h4
          rw [List.getElem?_append_left (by omega)] at h5
          exact h3 i f' g h4 h5
        · have hi2 : i = pre.length := by
            have := get_lt h4
            simp at this
            omega
          subst hi2
          rw [List.getElem?_append_right (by omega)] at h4 h5
          simp [h1] at h4 h5
          subst h4 h5
          exact bl)
      simpa using this
  obtain ⟨l, e1, e2, e3⟩ := key a [] none rfl rfl (fun _ => rfl) (fun i f g h => by simp at h)
  simp only [List.length_nil, Int.ofNat_zero] at e1
  have e1' : loopT (s1_impl_BlendFeats (some a) (some (sumsL b a.length path)) (some (cntsL a.length path))) (none, 0) = some (some l) := e1
  rw [e1']
  exact ⟨l, rfl, e2, e3⟩

theorem chain_diag : ∀ (l : List Pair), (∀ k p q, l[k]? = some p → l[k + 1]? = some q → stepOK p q) → chain l
  | [], _ => trivial
  | [_], _ => trivial
  | a :: b :: r, h => ⟨h 0 a b rfl rfl, chain_diag (b :: r) fun k p q h1 h2 => h (k + 1) p q (by simpa using h1) (by simpa using h2)⟩
def diag (n : Nat) : List Pair := (List.range n).map fun (k : Nat) => (⟨(k : Int), (k : Int)⟩ : Pair)
theorem diag_path {n : Nat} (h : 1 ≤ n) : PathOK (diag n) (n : Int) (n : Int) := by
  refine ⟨?_, ?_, chain_diag _ fun k p q h1 h2 => ?_⟩
  · cases n with
    | zero => omega
    | succ n => simp [diag, List.range_succ_eq_map]
  · rw [List.getLast?_eq_getElem?]
    have : n - 1 < n := by omega
    simp [diag, this]
    omega
  · have k1 := get_lt h2
    simp only [diag, List.length_map, List.length_range] at k1
    have k0 : k < n := by omega
    simp [diag, k0] at h1
    simp [diag, k1] at h2
    subst h1 h2
    exact ⟨.inr rfl, .inr rfl, pair_ne (by omega)⟩
theorem own_ok (c : (Sl Feat) × (Sl Feat) × Int) {a : List Feat} (hc : c.1 = some a) (ha : a.length ≤ 1000) : loopT (s0_laws_FnBlends c) (some [], 0) = some (some (diag a.length)) := by
  have h := loopT_at (step := s0_laws_FnBlends c) a.length (fun k => (some (diag k), ((k : Nat) : Int))) (some (diag a.length))
    (fun k hk => by
      have c1 : (k : Int) < ((a.length : Nat) : Int) := by omega
      have w := wr_succ hk (by omega)
      have ap := appO_some (s := some (diag k)) (l := [(⟨(k : Int), (k : Int)⟩ : Pair)]) (by simp [diag]; omega)
      have e : appS (some (diag k)) [(⟨(k : Int), (k : Int)⟩ : Pair)] = some (diag (k + 1)) := by simp [appS, diag, List.range_succ]
      unfold s0_laws_FnBlends
      simp only [hc, Option.getD_some, c1, decide_true, cond_true, ap, obind_sm, e, w])
    (by
      unfold s0_laws_FnBlends
      simp only [hc, Option.getD_some, Int.lt_irrefl, decide_false, cond_false]) 0 (by omega)
  exact h
theorem same_ok {a b : List Feat} (h : a = b) (hl : a.length ≤ 100000) : t_spec_SameFeats (some a) (some b) = some true := by
  subst h
  have lp := loopT_first (step := s0_spec_l08Same (some a) (some a)) a (fun _ _ => (none : Option Bool)) (.inl ()) .inr
    (fun k x ha => by
      have hk := get_lt ha
      have c : (k : Int) < (a.length : Nat) := by omega
      have w := wr_succ hk (by omega)
      unfold s0_spec_l08Same
      simp only [Option.getD_some, c, decide_true, cond_true, getI_nat ha, obind_sm, Bool.not_true, cond_false, w])
    (by
      unfold s0_spec_l08Same
      simp only [Option.getD_some, Int.lt_irrefl, decide_false, cond_false])
  rw [firstL_none (fun _ _ _ => rfl)] at lp
  simp [t_spec_SameFeats, t_spec_l08Same, lp]
theorem min_max_loop (c : (Sl Feat) × (Sl Feat) × Int) (pth : Sl Pair) (i : Nat) {b : List Feat} {path : List Pair} {n : Int} (hb : c.2.1 = some b) (hp : pth = some path) (P : PathOK path n (b.length : Nat)) (hl : path.length ≤ 100000) (x : Int) :
    ∃ lo hi, loopT (s2_laws_FnBlends c pth (i : Int)) (x, x, 0) = some (lo, hi) ∧ lo ≤ x ∧ x ≤ hi ∧ ∀ p ∈ path, p.i = (i : Int) → lo ≤ (bAt b p.j).x ∧ (bAt b p.j).x ≤ hi := by
  subst hp
  have key : ∀ (suf pre : List Pair) (lo hi : Int), path = pre ++ suf → lo ≤ x → x ≤ hi → (∀ p ∈ pre, p.i = (i : Int) → lo ≤ (bAt b p.j).x ∧ (bAt b p.j).x ≤ hi) →
      ∃ lo' hi', loopT (s2_laws_FnBlends c (some path) (i : Int)) (lo, hi, ((pre.length : Nat) : Int)) = some (lo', hi') ∧ lo' ≤ x ∧ x ≤ hi' ∧ ∀ p ∈ path, p.i = (i : Int) → lo' ≤ (bAt b p.j).x ∧ (bAt b p.j).x ≤ hi' := by
    intro suf
    induction suf with
    | nil =>
      intro pre lo hi h h1 h2 h3
      simp at h
      subst h
      have e : s2_laws_FnBlends c (some path) (i : Int) (lo, hi, ((path.length : Nat) : Int)) = some (.inr (lo, hi)) := by
        unfold s2_laws_FnBlends
        simp only [Option.getD_some, Int.lt_irrefl, decide_false, cond_false]
      exact ⟨lo, hi, loopT_end e, h1, h2, h3⟩
    | cons p suf ih =>
      intro pre lo hi h h1 h2 h3
      have hp : path[pre.length]? = some p := by rw [h]; simp
      have hlt := get_lt hp
      have hin := path_in P hp
      have cc : ((pre.length : Nat) : Int) < ((path.length : Nat) : Int) := by omega
      have w := wr_succ hlt (by omega)
      have gb : getI b p.j = some (bAt b p.j) := getI_bAt hin.2.2.1 (by omega)
      have go : ∀ lo' hi' : Int, lo' ≤ lo → hi ≤ hi' → (p.i = (i : Int) → lo' ≤ (bAt b p.j).x ∧ (bAt b p.j).x ≤ hi') → s2_laws_FnBlends c (some path) (i : Int) (lo, hi, ((pre.length : Nat) : Int)) = some (.inl (lo', hi', ((pre.length + 1 : Nat) : Int))) →
          ∃ lo' hi', loopT (s2_laws_FnBlends c (some path) (i : Int)) (lo, hi, ((pre.length : Nat) : Int)) = some (lo', hi') ∧ lo' ≤ x ∧ x ≤ hi' ∧ ∀ p ∈ path, p.i = (i : Int) → lo' ≤ (bAt b p.j).x ∧ (bAt b p.j).x ≤ hi' := by
        intro lo' hi' g1 g2 g3 e
        rw [loopT_next e]
        have := ih (pre ++ [p]) lo' hi' (by simp [h]) (by omega) (by omega) (fun q hq hqi => by
          rcases List.mem_append.1 hq with hq | hq
          · have := h3 q hq hqi
            omega
          · have : q = p := by simpa using hq
            subst this
            exact g3 hqi)
        simpa using this
      by_cases ci : p.i = (i : Int)
      · by_cases c1 : (bAt b p.j).x < lo
        · by_cases c2 : hi < (bAt b p.j).x
          · omega
          · refine go (bAt b p.j).x hi (by omega) (by omega) (fun _ => by omega) ?_
            unfold s2_laws_FnBlends
            simp only [Option.getD_some, cc, decide_true, cond_true, getI_nat hp, obind_sm, ci, hb, gb, c1, c2, decide_false, cond_false, w]
        · by_cases c2 : hi < (bAt b p.j).x
          · refine go lo (bAt b p.j).x (by omega) (by omega) (fun _ => by omega) ?_
            unfold s2_laws_FnBlends
            simp only [Option.getD_some, cc, decide_true, cond_true, getI_nat hp, obind_sm, ci, hb, gb, c1, c2, decide_false, cond_false, w]
          · refine go lo hi (by omega) (by omega) (fun _ => by omega) ?_
            unfold s2_laws_FnBlends
            simp only [Option.getD_some, cc, decide_true, cond_true, getI_nat hp, obind_sm, ci, hb, gb, c1, c2, decide_false, cond_false, w]
      · refine go lo hi (by omega) (by omega) (fun h => absurd h ci) ?_
        unfold s2_laws_FnBlends
        simp only [Option.getD_some, cc, decide_true, cond_true, getI_nat hp, obind_sm, ci, decide_false, cond_false, w]
  obtain ⟨lo, hi, e, h⟩ := key path [] x x rfl (Int.le_refl _) (Int.le_refl _) (fun p hp => by cases hp)
  exact ⟨lo, hi, e, h⟩
theorem bAt_get {a : List Feat} {i : Nat} {f : Feat} (h : a[i]? = some f) : bAt a (i : Int) = f := by
  unfold bAt
  rw [List.getD_eq_getElem?_getD, Int.toNat_natCast, h]
  rfl
theorem true_FnBlends (code more : Sl UInt8) : t_laws_FnBlends code more = some true := by
  unfold t_laws_FnBlends t_laws_a2Long
  by_cases c1 : 3000 < (((code.getD []).length : Nat) : Int)
  · simp [c1]
  by_cases c2 : 3000 < (((more.getD []).length : Nat) : Int)
  · simp [c1, c2]
  obtain ⟨a, b, band, e1, T⟩ := two_ex code
  have a1 := T.a1
  have a2 := T.a2
  have b1 := T.b1
  have b2 := T.b2
  obtain ⟨path, e2, P, hl⟩ := path_ex more (n := (a.length : Nat)) (m := (b.length : Nat)) (by omega) (by omega) (by omega) (by omega)
  have Ta : Two a a 0 := ⟨a1, a2, a1, a2, T.fa, T.fa, by omega, by omega, by omega, by omega⟩
  obtain ⟨l1, e3, g1, g2⟩ := blend_ok Ta (diag_path a1) (by simp [diag]; omega)
  obtain ⟨l2, e4, g3, g4⟩ := blend_ok T P (by omega)
  have same : l1 = a := by
    apply List.ext_getElem?
    intro i
    by_cases hi : i < a.length
    · have hf : a[i]? = some a[i] := List.getElem?_eq_getElem hi
      have hg : l1[i]? = some l1[i] := List.getElem?_eq_getElem (by omega)
      have B := g2 i _ _ hf hg
      have hd : ∀ p ∈ diag a.length, p.i = (i : Int) → bAt a p.j = a[i] := by
        intro p hp hpi
        simp only [diag, List.mem_map, List.mem_range] at hp
        obtain ⟨k, _, rfl⟩ := hp
        simp only at hpi
        have : k = i := by omega
        subst this
        exact bAt_get hf
      have bx := B.x a[i].x a[i].x (Int.le_refl _) (Int.le_refl _) fun p hp hpi => by rw [hd p hp hpi]; exact ⟨Int.le_refl _, Int.le_refl _⟩
      have by' := B.y a[i].y a[i].y (Int.le_refl _) (Int.le_refl _) fun p hp hpi => by rw [hd p hp hpi]; exact ⟨Int.le_refl _, Int.le_refl _⟩
      have bd := B.d
      rw [hf, hg]
      congr 1
      revert bx by' bd
      generalize l1[i] = g
      generalize a[i] = f
      obtain ⟨g1, g2, g3⟩ := g
      obtain ⟨f1, f2, f3⟩ := f
      simp only [Feat.mk.injEq]
      omega
    · rw [List.getElem?_eq_none (by omega), List.getElem?_eq_none (by omega)]
  have e5 := same_ok (a := l1) (b := a) same (by omega)
  have own := own_ok (some a, some b, band) (a := a) rfl (by omega)
  have last : loopT (s1_laws_FnBlends (some a, some b, band) (some path) (some l2, 0)) 0 = some (.inl ()) := by
    have lp := loopT_first (step := s1_laws_FnBlends (some a, some b, band) (some path) (some l2, 0)) a (fun _ _ => (none : Option Bool)) (.inl ()) .inr
      (fun k x ha => by
        have hk := get_lt ha
        have c : (k : Int) < (a.length : Nat) := by omega
        have w := wr_succ hk (by omega)
        obtain ⟨lo, hi, em, m1, m2, m3⟩ := min_max_loop (some a, some b, band) (some path) k (b := b) rfl rfl P (by omega) x.x
        have hg : l2[k]? = some l2[k] := List.getElem?_eq_getElem (by omega)
        have B := g4 k _ _ ha hg
        have bx := B.x lo hi m1 m2 m3
        have d1 : ¬ (l2[k].x < lo) := by omega
        have d2 : ¬ (hi < l2[k].x) := by omega
        unfold s1_laws_FnBlends
        simp only [Option.getD_some, c, decide_true, cond_true, getI_nat ha, obind_sm, em, getI_nat hg, d1, d2, decide_false, cond_false, B.d, Bool.not_true, w])
      (by
        unfold s1_laws_FnBlends
        simp only [Option.getD_some, Int.lt_irrefl, decide_false, cond_false])
    rw [firstL_none (fun _ _ _ => rfl)] at lp
    exact lp
  simp [c1, c2, e1, own, e2, e3, e4, e5, g3, last]

theorem ok_laws_FnBlends : PureOK Try.prog n_laws_FnBlends (G2 (fun a b : Sl UInt8 => Wt.big a && Wt.big b) fun _ _ => bv true) := lawC2 tt_laws_FnBlends fun a b _ => true_FnBlends a b
theorem law_FnBlends (a b : Sl UInt8) (ha : Row.fine a) (hb : Row.fine b) : G2 (fun a b : Sl UInt8 => Wt.big a && Wt.big b) (fun _ _ => bv true) [enc a, enc b] = some (bv true) := G2_enc _ _ a b (by simp [Wt.fb a ha, Wt.fb b hb])

theorem isC_5 {cs : List AV} (h : IsC Try.prog 5 cs) : ∃ x : UInt8, cs = Row.cells x ∧ Row.fine x := by
  obtain ⟨n, rfl, hn⟩ := IsC.intE Try.underlying5 h
  exact byte_of hn
theorem isC_22 {cs : List AV} (h : IsC Try.prog 22 cs) : ∃ x : (Sl UInt8), cs = Row.cells x ∧ Row.fine x := by
  rcases IsC.sliceE Try.underlying22 h with rfl | ⟨rows, rfl, h1, h2⟩
  · exact ⟨none, rfl, Sl.fineNil⟩
  · exact Sl.isC (by kernel_rfl) h1 fun row hr => isC_5 (h2 row hr)
theorem own : ownKnob Try.prog.godebug = none := by kernel_rfl
theorem laidOut : laidOutB Try.prog = true := by kernel_rfl

set_option maxRecDepth 100000 in
theorem holds : Rows.FnBlendsSaid :=
  OpenClaim.holds_of_wide 6 Try.f6 rfl rfl rfl rfl rfl rfl rfl ⟨rfl, rfl, rfl, rfl, rfl⟩ rfl rfl rfl rfl rfl (by kernel_rfl) Try.func6 (by kernel_rfl)
    (of_decide_eq_true (by kernel_rfl)) (by unfold Func.isWrapper; rw [if_neg (by decide +kernel)]; exact ⟨rfl, rfl⟩)
    (fun os started H enc _ => law_lifted (C := Try.checked) (s := Rows.fnBlendsSpec) own started (by kernel_rfl) Try.func6
      (ChangeSpec.witness6 (enc := enc) (C := Try.checked) false ⟨#[], #[.slice none 0 0, .slice none 0 0], []⟩ 8 (by kernel_rfl) (by kernel_rfl) (by kernel_rfl) (by kernel_rfl))
      laidOut rfl (tb := 4) rfl Try.underlying4 (ts := [22, 5]) (by kernel_rfl)
      (fun ds h => by match ds, h with | [d0, d1], _ => rfl)
      hb_laws_FnBlends ok_laws_FnBlends (by
    intro l h
    obtain ⟨a0, l0, rfl, g0, k0⟩ := h
    obtain ⟨a1, l1, rfl, g1, k1⟩ := k0
    cases k1
    obtain ⟨b0, e0, w0⟩ := isC_22 (isV_one (by kernel_rfl) g0)
    obtain rfl := one_enc e0
    obtain ⟨b1, e1, w1⟩ := isC_22 (isV_one (by kernel_rfl) g1)
    obtain rfl := one_enc e1
    exact law_FnBlends b0 b1 w0 w1))
#print axioms holds
end Go.Proofs.Ytdfdmelcnjggfaa
