/-
  The law FnElastic holds, for all arguments: it returns true, and its arguments read behind the call as before. No condition.
-/
import Derived.Test.YtdfdmelcnjggfaaFnElasticGen
import Derived.Test.YtdfdmelcnjggfaaRows
namespace Go.Proofs.Ytdfdmelcnjggfaa
open Go Go.Eng Go.Eng.Cod
set_option maxRecDepth 100000
set_option linter.unusedVariables false
set_option linter.unusedSimpArgs false

theorem nil_ok : EnvOK Try.prog (envL []) := E0

def within (a b c : Int) : Bool := decide (b ≤ a) && decide (a ≤ c)

theorem ok_impl_within : PureOK Try.prog n_impl_within (T3 within) := pureT3 nil_ok mixed hb_impl_within fun a b c => by
  simp [e_impl_within, within]

theorem ok_spec_l00In : PureOK Try.prog n_spec_l00In (T3 within) := pureT3 nil_ok mixed hb_spec_l00In fun a b c => by
  simp [e_spec_l00In, within]

def absI (a : Int) : Int := bif decide (a < 0) then wr (-a) else a

theorem ok_impl_abs : PureOK Try.prog n_impl_abs (T1 absI) := pureT1 nil_ok mixed hb_impl_abs fun a => by
  simp [e_impl_abs, absI]

theorem ok_spec_l00Min : PureOK Try.prog n_spec_l00Min (T2 fun a b : Int => min a b) := pureT2 nil_ok mixed hb_spec_l00Min fun a b => by
  simp [e_spec_l00Min, minI]

theorem ok_spec_l00Max : PureOK Try.prog n_spec_l00Max (T2 fun a b : Int => max a b) := pureT2 nil_ok mixed hb_spec_l00Max fun a b => by
  simp [e_spec_l00Max, maxI]

/-- The source of draws: how far it has read, its seed. -/
structure SS where
  at_ : Nat
  w : Int
def srow (q : Sl UInt8) (st : SS) : AObj := ⟨3, [[Sl.enc q, iv (st.at_ : Int), .sc (.int .u64 st.w)]]⟩
theorem store_head (s j k : Nat) (v : AV) (row : List AV) (t : Heap) (h1 : v.cells.length = s) (h2 : j + s ≤ row.length) (h3 : v.cells.all AV.flat = true) : aStore s (.ptr 0 1 0 j) v (⟨k, [row]⟩ :: t) = some (⟨k, [splice row j v.cells]⟩ :: t) := by
  simp only [aStore, List.getElem?_cons_zero, List.length_cons, List.length_nil, Nat.zero_add, if_true]
  rw [if_pos ⟨h1, h2, h3⟩]
  rfl
theorem v_mul (a b : Int) : aBin .mul (.sc (.int .u64 a)) (.sc (.int .u64 b)) = some (.sc (.int .u64 (IntKind.u64.wrap (a * b)))) := (rfl)
theorem v_add (a b : Int) : aBin .add (.sc (.int .u64 a)) (.sc (.int .u64 b)) = some (.sc (.int .u64 (IntKind.u64.wrap (a + b)))) := (rfl)
theorem v_shr40 (a : Int) : aBin .shr (.sc (.int .u64 a)) (.sc (.int .u64 40)) = some (.sc (.int .u64 (a.fdiv (2 ^ 40)))) := (rfl)
theorem v_conv (a : Int) : aConvInt .u64 (iv a) = some (.sc (.int .u64 (IntKind.u64.wrap a))) := (rfl)
theorem v_back (a : Int) : aConvInt .i64 (.sc (.int .u64 a)) = some (iv (wr a)) := (rfl)
theorem v_byte (b : UInt8) : aConvInt .i64 (bt b) = some (iv (b.toNat : Nat)) := by
  have h0 : aConvInt .i64 (bt b) = some (iv (wr (b.toNat : Int))) := rfl
  have := b.toNat_lt
  rw [h0, wr_id (by omega) (by omega)]
theorem v_and (a : Int) : ∃ r : Nat, r ≤ 255 ∧ aBin .and (.sc (.int .u64 a)) (.sc (.int .u64 255)) = some (.sc (.int .u64 (r : Int))) := by
  have h0 : aBin .and (.sc (.int .u64 a)) (.sc (.int .u64 255)) = some (.sc (.int .u64 (IntKind.u64.wrap ((BitVec.ofInt 64 a &&& BitVec.ofInt 64 255).toNat : Nat)))) := rfl
  have h1 : (BitVec.ofInt 64 a &&& BitVec.ofInt 64 255).toNat ≤ 255 := by
    rw [BitVec.toNat_and]
    have : (BitVec.ofInt 64 255).toNat = 255 := by decide
    rw [this]
    exact Nat.and_le_right
  refine ⟨(BitVec.ofInt 64 a &&& BitVec.ofInt 64 255).toNat, h1, ?_⟩
  rw [h0]
  generalize (BitVec.ofInt 64 a &&& BitVec.ofInt 64 255).toNat = r at h1
  congr 3
  simp only [IntKind.wrap, IntKind.bits, IntKind.signed]
  simp only [Bool.false_and, Bool.false_eq_true, if_false]
  omega

/-- What 'l00From' hands out. -/
def fromA (q : Sl UInt8) : AV := .np 3 [[Sl.enc q, iv 0, .sc (.int .u64 0)]] 0 0
theorem ok_spec_l00From : PureOK Try.prog n_spec_l00From (R1 fun q : Sl UInt8 => some (fromA q)) := pureR1 E0 mixed hb_spec_l00From fun q r h => by
  cases h
  apply pureG
  rw [e_spec_l00From]
  cases q <;> rfl
theorem hand_from (q : Sl UInt8) (h : Heap) : hand (fromA q) (noRef depth (Sl.enc q)) h = some (.ptr h.length 1 0 0, h ++ [srow q ⟨0, 0⟩]) := by
  cases q <;> rfl

theorem tt_spec_l00From : PureOK Try.prog n_spec_l00From (C1 fromA (fun q : Sl UInt8 => some q)) := pureR1 E0 mixed hb_spec_l00From fun q r h => by
  cases h
  apply pureG
  rw [e_spec_l00From]
  cases q <;> rfl

def t_laws_a2Long (code_ : Sl UInt8) (more_ : Sl UInt8) : Option Bool :=
  obind (bif decide (3000 < (((code_.getD []).length : Nat) : Int)) then some false else (some (decide (3000 < (((more_.getD []).length : Nat) : Int))))) fun c2 =>
  some (bif decide (3000 < (((code_.getD []).length : Nat) : Int)) then true else c2)

theorem ts_laws_a2Long (env : Nat → Contract)  (code_ : Sl UInt8) (more_ : Sl UInt8) : Sim (denFn Try.prog env n_laws_a2Long [Sl.enc code_, Sl.enc more_] []) (t_laws_a2Long code_ more_) fun c p => release p.2 depth p.1 = some ((fun c : Bool => enc c) c) := by
  have O := Hold.nil []
  generalize hB : (⟨[], []⟩ : Base) = B at O
  clear hB
  rw [e_laws_a2Long]
  unfold t_laws_a2Long
  refine sim_let (v := iv (((code_.getD []).length : Nat) : Int)) (Tab.enc [] code_).len ?_
  refine sim_let (v := bv (decide (3000 < (((code_.getD []).length : Nat) : Int)))) (aBin_gtr _ _) ?_
  refine sim_guardF (e := bv) (fun hb1 => ?_) (fun c2 => ?_)
  · refine sim_let (v := iv (((more_.getD []).length : Nat) : Int)) (Tab.enc [] more_).len ?_
    refine sim_let (v := bv (decide (3000 < (((more_.getD []).length : Nat) : Int)))) (aBin_gtr _ _) ?_
    exact sim_ret rfl
  · refine sim_let (v := bv (bif decide (3000 < (((code_.getD []).length : Nat) : Int)) then true else c2)) (pick_b' _ _ _) ?_
    exact sim_ret (release_plain (by rfl) _)
theorem tt_laws_a2Long : PureOK Try.prog n_laws_a2Long (C2 (fun c : Bool => enc c) t_laws_a2Long) := pureC2 E0 mixed hb_laws_a2Long fun code_ more_ => ts_laws_a2Long _  code_ more_

def t_spec_l00Src_next (s_ : l00Src) : Option (Int × l00Src) :=
  bif decide (s_.pos < (((s_.code.getD []).length : Nat) : Int)) then
    obind (getI (s_.code.getD []) s_.pos) fun a2 =>
    bif decide ((wr (s_.pos + 1)) ≤ (((s_.code.getD []).length : Nat) : Int)) then
      some ((a2.toNat : Int), (⟨s_.code, wr (s_.pos + 1), IntKind.u64.wrap ((IntKind.u64.wrap ((IntKind.u64.wrap (s_.seed * 6364136223846793005)) + (IntKind.u64.wrap (a2.toNat : Int)))) + 1442695040888963407)⟩ : l00Src))
    else
      some (wr (IntKind.u64.wrap ((BitVec.ofInt 64 (Int.fdiv (IntKind.u64.wrap ((IntKind.u64.wrap ((IntKind.u64.wrap (s_.seed * 6364136223846793005)) + (IntKind.u64.wrap (a2.toNat : Int)))) + 1442695040888963407)) (2 ^ 40)) &&& BitVec.ofInt 64 255).toNat : Nat)), (⟨s_.code, wr (s_.pos + 1), IntKind.u64.wrap ((IntKind.u64.wrap ((IntKind.u64.wrap (s_.seed * 6364136223846793005)) + (IntKind.u64.wrap (a2.toNat : Int)))) + 1442695040888963407)⟩ : l00Src))
  else
    bif decide ((wr (s_.pos + 1)) ≤ (((s_.code.getD []).length : Nat) : Int)) then
      some (0, (⟨s_.code, wr (s_.pos + 1), IntKind.u64.wrap ((IntKind.u64.wrap ((IntKind.u64.wrap (s_.seed * 6364136223846793005)) + (IntKind.u64.wrap 0))) + 1442695040888963407)⟩ : l00Src))
    else
      some (wr (IntKind.u64.wrap ((BitVec.ofInt 64 (Int.fdiv (IntKind.u64.wrap ((IntKind.u64.wrap ((IntKind.u64.wrap (s_.seed * 6364136223846793005)) + (IntKind.u64.wrap 0))) + 1442695040888963407)) (2 ^ 40)) &&& BitVec.ofInt 64 255).toNat : Nat)), (⟨s_.code, wr (s_.pos + 1), IntKind.u64.wrap ((IntKind.u64.wrap ((IntKind.u64.wrap (s_.seed * 6364136223846793005)) + (IntKind.u64.wrap 0))) + 1442695040888963407)⟩ : l00Src))

theorem ts_spec_l00Src_next (env : Nat → Contract)  {B : Base} {h : Heap} {o_ : Nat} (s_ : l00Src) (O : Hold B h [(AV.ptr o_ 1 0 0, .pt 3 [Sl.enc s_.code, iv s_.pos, AV.sc (.int .u64 s_.seed)])]) : Sim (denFn Try.prog env n_spec_l00Src_next [AV.ptr o_ 1 0 0] h) (t_spec_l00Src_next s_) (fun c p => p.1 = iv c.1 ∧ Hold B p.2 ([(AV.ptr o_ 1 0 0, .pt 3 [Sl.enc c.2.code, iv c.2.pos, AV.sc (.int .u64 c.2.seed)])])) := by
  rw [e_spec_l00Src_next]
  unfold t_spec_l00Src_next
  refine sim_let (v := AV.ptr o_ 1 0 0) rfl ?_
  refine sim_let (v := AV.ptr o_ 1 0 1) rfl ?_
  refine sim_let (v := iv s_.pos) (O.ld 0 rfl false 1 1) ?_
  refine sim_let (v := AV.ptr o_ 1 0 0) rfl ?_
  refine sim_let (v := AV.ptr o_ 1 0 0) rfl ?_
  refine sim_let (v := Sl.enc s_.code) (O.ld 0 rfl false 1 0) ?_
  refine sim_let (v := iv (((s_.code.getD []).length : Nat) : Int)) (Tab.enc h s_.code).len ?_
  refine sim_let (v := bv (decide (s_.pos < (((s_.code.getD []).length : Nat) : Int)))) (aBin_lss _ _) ?_
  refine sim_cond (fun c1 => ?_) (fun c1 => ?_)
  · refine sim_let (v := AV.ptr o_ 1 0 0) rfl ?_
    refine sim_let (v := AV.ptr o_ 1 0 0) rfl ?_
    refine sim_let (v := Sl.enc s_.code) (O.ld 0 rfl false 1 0) ?_
    refine sim_let (v := AV.ptr o_ 1 0 0) rfl ?_
    refine sim_let (v := AV.ptr o_ 1 0 1) rfl ?_
    refine sim_let (v := iv s_.pos) (O.ld 0 rfl false 1 1) ?_
    refine sim_get (Tab.enc h s_.code) (fun m3 a2 hi4 hm5 => ?_)
    refine sim_let (v := bt a2) ((Tab.enc h s_.code).ld hm5 false 1 0) ?_
    refine sim_let (v := iv (a2.toNat : Int)) (conv_byte _) ?_
    refine sim_let (v := AV.ptr o_ 1 0 0) rfl ?_
    refine sim_let (v := AV.ptr o_ 1 0 1) rfl ?_
    refine sim_let (v := iv s_.pos) (O.ld 0 rfl false 1 1) ?_
    refine sim_let (v := iv (wr (s_.pos + 1))) (aBin_add _ _) ?_
    refine sim_let (v := AV.ptr o_ 1 0 0) rfl ?_
    refine sim_let (v := AV.ptr o_ 1 0 1) rfl ?_
    refine sim_store O 0 (cs' := [Sl.enc s_.code, iv (wr (s_.pos + 1)), AV.sc (.int .u64 s_.seed)]) rfl (by first | rfl | simp) (by simp) (by first | rfl | simp) (by first | rfl | simp [splice]) (fun h6 O7 => ?_)
    replace O7 : Hold B h6 [(AV.ptr o_ 1 0 0, .pt 3 [Sl.enc s_.code, iv (wr (s_.pos + 1)), AV.sc (.int .u64 s_.seed)])] := O7
    refine sim_let (v := AV.ptr o_ 1 0 0) rfl ?_
    refine sim_let (v := AV.ptr o_ 1 0 2) rfl ?_
    refine sim_let (v := AV.sc (.int .u64 s_.seed)) (O7.ld 0 rfl false 1 2) ?_
    refine sim_let (v := AV.sc (.int .u64 (IntKind.u64.wrap (s_.seed * 6364136223846793005)))) rfl ?_
    refine sim_let (v := AV.sc (.int .u64 (IntKind.u64.wrap (a2.toNat : Int)))) rfl ?_
    refine sim_let (v := AV.sc (.int .u64 (IntKind.u64.wrap ((IntKind.u64.wrap (s_.seed * 6364136223846793005)) + (IntKind.u64.wrap (a2.toNat : Int)))))) rfl ?_
    refine sim_let (v := AV.sc (.int .u64 (IntKind.u64.wrap ((IntKind.u64.wrap ((IntKind.u64.wrap (s_.seed * 6364136223846793005)) + (IntKind.u64.wrap (a2.toNat : Int)))) + 1442695040888963407)))) rfl ?_
    refine sim_let (v := AV.ptr o_ 1 0 0) rfl ?_
    refine sim_let (v := AV.ptr o_ 1 0 2) rfl ?_
    refine sim_store O7 0 (cs' := [Sl.enc s_.code, iv (wr (s_.pos + 1)), AV.sc (.int .u64 (IntKind.u64.wrap ((IntKind.u64.wrap ((IntKind.u64.wrap (s_.seed * 6364136223846793005)) + (IntKind.u64.wrap (a2.toNat : Int)))) + 1442695040888963407)))]) rfl (by first | rfl | simp) (by simp) (by first | rfl | simp) (by first | rfl | simp [splice]) (fun h8 O9 => ?_)
    replace O9 : Hold B h8 [(AV.ptr o_ 1 0 0, .pt 3 [Sl.enc s_.code, iv (wr (s_.pos + 1)), AV.sc (.int .u64 (IntKind.u64.wrap ((IntKind.u64.wrap ((IntKind.u64.wrap (s_.seed * 6364136223846793005)) + (IntKind.u64.wrap (a2.toNat : Int)))) + 1442695040888963407)))])] := O9
    refine sim_let (v := AV.ptr o_ 1 0 0) rfl ?_
    refine sim_let (v := AV.ptr o_ 1 0 1) rfl ?_
    refine sim_let (v := iv (wr (s_.pos + 1))) (O9.ld 0 rfl false 1 1) ?_
    refine sim_let (v := AV.ptr o_ 1 0 0) rfl ?_
    refine sim_let (v := AV.ptr o_ 1 0 0) rfl ?_
    refine sim_let (v := Sl.enc s_.code) (O9.ld 0 rfl false 1 0) ?_
    refine sim_let (v := iv (((s_.code.getD []).length : Nat) : Int)) (Tab.enc h8 s_.code).len ?_
    refine sim_let (v := bv (decide ((wr (s_.pos + 1)) ≤ (((s_.code.getD []).length : Nat) : Int)))) (aBin_leq _ _) ?_
    refine sim_cond (fun c10 => ?_) (fun c10 => ?_)
    · exact sim_ret ⟨rfl, O9⟩
    · refine sim_let (v := AV.ptr o_ 1 0 0) rfl ?_
      refine sim_let (v := AV.ptr o_ 1 0 2) rfl ?_
      refine sim_let (v := AV.sc (.int .u64 (IntKind.u64.wrap ((IntKind.u64.wrap ((IntKind.u64.wrap (s_.seed * 6364136223846793005)) + (IntKind.u64.wrap (a2.toNat : Int)))) + 1442695040888963407)))) (O9.ld 0 rfl false 1 2) ?_
      refine sim_let (v := AV.sc (.int .u64 (Int.fdiv (IntKind.u64.wrap ((IntKind.u64.wrap ((IntKind.u64.wrap (s_.seed * 6364136223846793005)) + (IntKind.u64.wrap (a2.toNat : Int)))) + 1442695040888963407)) (2 ^ 40)))) rfl ?_
      refine sim_let (v := AV.sc (.int .u64 (IntKind.u64.wrap ((BitVec.ofInt 64 (Int.fdiv (IntKind.u64.wrap ((IntKind.u64.wrap ((IntKind.u64.wrap (s_.seed * 6364136223846793005)) + (IntKind.u64.wrap (a2.toNat : Int)))) + 1442695040888963407)) (2 ^ 40)) &&& BitVec.ofInt 64 255).toNat : Nat)))) rfl ?_
      refine sim_let (v := iv (wr (IntKind.u64.wrap ((BitVec.ofInt 64 (Int.fdiv (IntKind.u64.wrap ((IntKind.u64.wrap ((IntKind.u64.wrap (s_.seed * 6364136223846793005)) + (IntKind.u64.wrap (a2.toNat : Int)))) + 1442695040888963407)) (2 ^ 40)) &&& BitVec.ofInt 64 255).toNat : Nat)))) rfl ?_
      exact sim_ret ⟨rfl, O9⟩
  · refine sim_let (v := AV.ptr o_ 1 0 0) rfl ?_
    refine sim_let (v := AV.ptr o_ 1 0 1) rfl ?_
    refine sim_let (v := iv s_.pos) (O.ld 0 rfl false 1 1) ?_
    refine sim_let (v := iv (wr (s_.pos + 1))) (aBin_add _ _) ?_
    refine sim_let (v := AV.ptr o_ 1 0 0) rfl ?_
    refine sim_let (v := AV.ptr o_ 1 0 1) rfl ?_
    refine sim_store O 0 (cs' := [Sl.enc s_.code, iv (wr (s_.pos + 1)), AV.sc (.int .u64 s_.seed)]) rfl (by first | rfl | simp) (by simp) (by first | rfl | simp) (by first | rfl | simp [splice]) (fun h13 O14 => ?_)
    replace O14 : Hold B h13 [(AV.ptr o_ 1 0 0, .pt 3 [Sl.enc s_.code, iv (wr (s_.pos + 1)), AV.sc (.int .u64 s_.seed)])] := O14
    refine sim_let (v := AV.ptr o_ 1 0 0) rfl ?_
    refine sim_let (v := AV.ptr o_ 1 0 2) rfl ?_
    refine sim_let (v := AV.sc (.int .u64 s_.seed)) (O14.ld 0 rfl false 1 2) ?_
    refine sim_let (v := AV.sc (.int .u64 (IntKind.u64.wrap (s_.seed * 6364136223846793005)))) rfl ?_
    refine sim_let (v := AV.sc (.int .u64 (IntKind.u64.wrap 0))) rfl ?_
    refine sim_let (v := AV.sc (.int .u64 (IntKind.u64.wrap ((IntKind.u64.wrap (s_.seed * 6364136223846793005)) + (IntKind.u64.wrap 0))))) rfl ?_
    refine sim_let (v := AV.sc (.int .u64 (IntKind.u64.wrap ((IntKind.u64.wrap ((IntKind.u64.wrap (s_.seed * 6364136223846793005)) + (IntKind.u64.wrap 0))) + 1442695040888963407)))) rfl ?_
    refine sim_let (v := AV.ptr o_ 1 0 0) rfl ?_
    refine sim_let (v := AV.ptr o_ 1 0 2) rfl ?_
    refine sim_store O14 0 (cs' := [Sl.enc s_.code, iv (wr (s_.pos + 1)), AV.sc (.int .u64 (IntKind.u64.wrap ((IntKind.u64.wrap ((IntKind.u64.wrap (s_.seed * 6364136223846793005)) + (IntKind.u64.wrap 0))) + 1442695040888963407)))]) rfl (by first | rfl | simp) (by simp) (by first | rfl | simp) (by first | rfl | simp [splice]) (fun h15 O16 => ?_)
    replace O16 : Hold B h15 [(AV.ptr o_ 1 0 0, .pt 3 [Sl.enc s_.code, iv (wr (s_.pos + 1)), AV.sc (.int .u64 (IntKind.u64.wrap ((IntKind.u64.wrap ((IntKind.u64.wrap (s_.seed * 6364136223846793005)) + (IntKind.u64.wrap 0))) + 1442695040888963407)))])] := O16
    refine sim_let (v := AV.ptr o_ 1 0 0) rfl ?_
    refine sim_let (v := AV.ptr o_ 1 0 1) rfl ?_
    refine sim_let (v := iv (wr (s_.pos + 1))) (O16.ld 0 rfl false 1 1) ?_
    refine sim_let (v := AV.ptr o_ 1 0 0) rfl ?_
    refine sim_let (v := AV.ptr o_ 1 0 0) rfl ?_
    refine sim_let (v := Sl.enc s_.code) (O16.ld 0 rfl false 1 0) ?_
    refine sim_let (v := iv (((s_.code.getD []).length : Nat) : Int)) (Tab.enc h15 s_.code).len ?_
    refine sim_let (v := bv (decide ((wr (s_.pos + 1)) ≤ (((s_.code.getD []).length : Nat) : Int)))) (aBin_leq _ _) ?_
    refine sim_cond (fun c17 => ?_) (fun c17 => ?_)
    · exact sim_ret ⟨rfl, O16⟩
    · refine sim_let (v := AV.ptr o_ 1 0 0) rfl ?_
      refine sim_let (v := AV.ptr o_ 1 0 2) rfl ?_
      refine sim_let (v := AV.sc (.int .u64 (IntKind.u64.wrap ((IntKind.u64.wrap ((IntKind.u64.wrap (s_.seed * 6364136223846793005)) + (IntKind.u64.wrap 0))) + 1442695040888963407)))) (O16.ld 0 rfl false 1 2) ?_
      refine sim_let (v := AV.sc (.int .u64 (Int.fdiv (IntKind.u64.wrap ((IntKind.u64.wrap ((IntKind.u64.wrap (s_.seed * 6364136223846793005)) + (IntKind.u64.wrap 0))) + 1442695040888963407)) (2 ^ 40)))) rfl ?_
      refine sim_let (v := AV.sc (.int .u64 (IntKind.u64.wrap ((BitVec.ofInt 64 (Int.fdiv (IntKind.u64.wrap ((IntKind.u64.wrap ((IntKind.u64.wrap (s_.seed * 6364136223846793005)) + (IntKind.u64.wrap 0))) + 1442695040888963407)) (2 ^ 40)) &&& BitVec.ofInt 64 255).toNat : Nat)))) rfl ?_
      refine sim_let (v := iv (wr (IntKind.u64.wrap ((BitVec.ofInt 64 (Int.fdiv (IntKind.u64.wrap ((IntKind.u64.wrap ((IntKind.u64.wrap (s_.seed * 6364136223846793005)) + (IntKind.u64.wrap 0))) + 1442695040888963407)) (2 ^ 40)) &&& BitVec.ofInt 64 255).toNat : Nat)))) rfl ?_
      exact sim_ret ⟨rfl, O16⟩
noncomputable def ev_spec_l00Src_next : Nat → Contract := envL []
theorem eo_spec_l00Src_next : EnvOK Try.prog ev_spec_l00Src_next := E0
theorem tg_spec_l00Src_next {B : Base} {h : Heap} {o_ : Nat} (s_ : l00Src) (O : Hold B h [(AV.ptr o_ 1 0 0, .pt 3 [Sl.enc s_.code, iv s_.pos, AV.sc (.int .u64 s_.seed)])]) : Sim (denFn Try.prog ev_spec_l00Src_next n_spec_l00Src_next [AV.ptr o_ 1 0 0] h) (t_spec_l00Src_next s_) (fun c p => p.1 = iv c.1 ∧ Hold B p.2 ([(AV.ptr o_ 1 0 0, .pt 3 [Sl.enc c.2.code, iv c.2.pos, AV.sc (.int .u64 c.2.seed)])])) := ts_spec_l00Src_next ev_spec_l00Src_next  s_  O

def t_spec_l00Src_pick (s_ : l00Src) (n_ : Int) : Option (Int × l00Src) :=
  bif decide (n_ ≤ 1) then
    some (0, (⟨s_.code, s_.pos, s_.seed⟩ : l00Src))
  else
    obind (t_spec_l00Src_next s_) fun c3 =>
    bif decide (200 < n_) then
      obind (t_spec_l00Src_next c3.2) fun c10 =>
      obind (remI (wr ((wr (c3.1 * 256)) + c10.1)) n_) fun q16 =>
      some (q16, (⟨c10.2.code, c10.2.pos, c10.2.seed⟩ : l00Src))
    else
      obind (remI c3.1 n_) fun q18 =>
      some (q18, (⟨c3.2.code, c3.2.pos, c3.2.seed⟩ : l00Src))

theorem ts_spec_l00Src_pick (env : Nat → Contract) (he_spec_l00Src_next : env n_spec_l00Src_next = .gen (denFn Try.prog ev_spec_l00Src_next n_spec_l00Src_next)) {B : Base} {h : Heap} {o_ : Nat} (s_ : l00Src) (n_ : Int) (O : Hold B h [(AV.ptr o_ 1 0 0, .pt 3 [Sl.enc s_.code, iv s_.pos, AV.sc (.int .u64 s_.seed)])]) : Sim (denFn Try.prog env n_spec_l00Src_pick [AV.ptr o_ 1 0 0, iv n_] h) (t_spec_l00Src_pick s_ n_) (fun c p => p.1 = iv c.1 ∧ Hold B p.2 ([(AV.ptr o_ 1 0 0, .pt 3 [Sl.enc c.2.code, iv c.2.pos, AV.sc (.int .u64 c.2.seed)])])) := by
  rw [e_spec_l00Src_pick]
  unfold t_spec_l00Src_pick
  refine sim_let (v := bv (decide (n_ ≤ 1))) (aBin_leq _ _) ?_
  refine sim_cond (fun c1 => ?_) (fun c1 => ?_)
  · exact sim_ret ⟨rfl, O⟩
  · refine sim_gen he_spec_l00Src_next (tg_spec_l00Src_next s_ (O.start (i := 0) rfl rfl)) (fun c3 v4 h5 hq6 => ?_)
    obtain ⟨e_v4, O7⟩ := hq6
    dsimp only at e_v4
    subst v4
    have O8 : Hold B h5 [(AV.ptr o_ 1 0 0, .pt 3 [Sl.enc c3.2.code, iv c3.2.pos, AV.sc (.int .u64 c3.2.seed)])] := O.merge (i := 0) rfl rfl O7
    refine sim_let (v := bv (decide (200 < n_))) (aBin_gtr _ _) ?_
    refine sim_cond (fun c9 => ?_) (fun c9 => ?_)
    · refine sim_let (v := iv (wr (c3.1 * 256))) (aBin_mul _ _) ?_
      refine sim_gen he_spec_l00Src_next (tg_spec_l00Src_next c3.2 (O8.start (i := 0) rfl rfl)) (fun c10 v11 h12 hq13 => ?_)
      obtain ⟨e_v11, O14⟩ := hq13
      dsimp only at e_v11
      subst v11
      have O15 : Hold B h12 [(AV.ptr o_ 1 0 0, .pt 3 [Sl.enc c10.2.code, iv c10.2.pos, AV.sc (.int .u64 c10.2.seed)])] := O8.merge (i := 0) rfl rfl O14
      refine sim_let (v := iv (wr ((wr (c3.1 * 256)) + c10.1))) (aBin_add _ _) ?_
      refine sim_rem (fun q16 => ?_)
      exact sim_ret ⟨rfl, O15⟩
    · refine sim_rem (fun q18 => ?_)
      exact sim_ret ⟨rfl, O8⟩
noncomputable def ev_spec_l00Src_pick : Nat → Contract := envL [(n_spec_l00Src_next, .gen (denFn Try.prog ev_spec_l00Src_next n_spec_l00Src_next))]
theorem eo_spec_l00Src_pick : EnvOK Try.prog ev_spec_l00Src_pick := (EconsG (gen_of_den eo_spec_l00Src_next mixed hb_spec_l00Src_next) E0)
theorem tg_spec_l00Src_pick {B : Base} {h : Heap} {o_ : Nat} (s_ : l00Src) (n_ : Int) (O : Hold B h [(AV.ptr o_ 1 0 0, .pt 3 [Sl.enc s_.code, iv s_.pos, AV.sc (.int .u64 s_.seed)])]) : Sim (denFn Try.prog ev_spec_l00Src_pick n_spec_l00Src_pick [AV.ptr o_ 1 0 0, iv n_] h) (t_spec_l00Src_pick s_ n_) (fun c p => p.1 = iv c.1 ∧ Hold B p.2 ([(AV.ptr o_ 1 0 0, .pt 3 [Sl.enc c.2.code, iv c.2.pos, AV.sc (.int .u64 c.2.seed)])])) := ts_spec_l00Src_pick ev_spec_l00Src_pick (by simp [ev_spec_l00Src_pick, envL]) s_ n_  O

def s0_spec_l09Draw : ((Sl UInt8) × Int × Int × (Sl Feat) × Int × Int × Int) → Option (Sum ((Sl UInt8) × Int × Int × (Sl Feat) × Int × Int × Int) ((Sl UInt8) × Int × Int × (Sl Feat))) := fun (w23, w24, w25, w27, w30, w31, w32) =>
  bif decide (0 < w32) then
    obind (t_spec_l00Src_pick (⟨w23, w24, w25⟩ : l00Src) 8) fun c45 =>
    obind (appO w27 ([(⟨w30, w31, c45.1⟩ : Feat)] : List Feat)) fun _ =>
    obind (t_spec_l00Src_pick c45.2 61) fun c61 =>
    obind (some ((fun a b : Int => min a b) 255 (wr ((wr (w30 + c61.1)) - 30)))) fun c67 =>
    obind (some ((fun a b : Int => max a b) 0 c67)) fun c68 =>
    obind (t_spec_l00Src_pick c61.2 61) fun c69 =>
    obind (some ((fun a b : Int => min a b) 255 (wr ((wr (w31 + c69.1)) - 30)))) fun c75 =>
    obind (some ((fun a b : Int => max a b) 0 c75)) fun c76 =>
    some (.inl (c69.2.code, c69.2.pos, c69.2.seed, (appS w27 ([(⟨w30, w31, c45.1⟩ : Feat)] : List Feat)), c68, c76, wr (w32 - 1)))
  else
    some (.inr (w23, w24, w25, w27))
def t_spec_l09Draw (s_ : l00Src) (most_ : Int) : Option ((Sl Feat) × l00Src) :=
  obind (t_spec_l00Src_pick s_ 256) fun c5 =>
  obind (t_spec_l00Src_pick c5.2 256) fun c11 =>
  obind (t_spec_l00Src_pick c11.2 most_) fun c17 =>
  obind (loopT s0_spec_l09Draw (c17.2.code, c17.2.pos, c17.2.seed, (some ([] : List Feat)), c5.1, c11.1, wr (1 + c17.1))) fun (q35, q36, q37, q39) =>
  some (q39, (⟨q35, q36, q37⟩ : l00Src))

theorem tl0_spec_l09Draw (env : Nat → Contract) {B : Base} (he_spec_l00Max : env n_spec_l00Max = .pure (T2 (fun a b : Int => max a b))) (he_spec_l00Min : env n_spec_l00Min = .pure (T2 (fun a b : Int => min a b))) (he_spec_l00Src_pick : env n_spec_l00Src_pick = .gen (denFn Try.prog ev_spec_l00Src_pick n_spec_l00Src_pick)) (o_ : Nat) (most_ : Int) (x1 : AV) (c5 : Int × l00Src) (c11 : Int × l00Src) (c17 : Int × l00Src)  {st : (Sl UInt8) × Int × Int × (Sl Feat) × Int × Int × Int} {tm : TM} {h : Heap} (R : (fun (st : (Sl UInt8) × Int × Int × (Sl Feat) × Int × Int × Int) tm h28 => match st with | (w23, w24, w25, w27, w30, w31, w32) => ∃ z26, tm = [AV.ptr o_ 1 0 0, iv most_, und, und, nilS, z26, iv w30, iv w31, iv w32, x1, AV.ptr o_ 1 0 0, iv c5.1, AV.ptr o_ 1 0 0, iv c11.1, AV.ptr o_ 1 0 0, iv most_, iv c17.1, iv (wr (1 + c17.1)), AV.top, AV.top, AV.top, AV.top, AV.top, AV.top, AV.top, AV.top, AV.top, AV.top, AV.top, AV.top, AV.top, AV.top, AV.top, AV.top, AV.top, AV.top, AV.top, AV.top, AV.top, AV.top, AV.top, AV.top, AV.top, AV.top, und] ∧ Hold B h28 [(AV.ptr o_ 1 0 0, .pt 3 [Sl.enc w23, iv w24, AV.sc (.int .u64 w25)]), (z26, obS (w27 : Sl Feat))]) st tm h) : Sim (loopP hm0_spec_l09Draw xm0_spec_l09Draw (lb0_spec_l09Draw env) tm h) (loopT s0_spec_l09Draw st) (fun (q : (Sl UInt8) × Int × Int × (Sl Feat)) (r : Res) => match q with | (q35, q36, q37, q39) => ∃ (q40 : Int) (q41 : Int) (q42 : Int) (z38 : AV) (h33 : Heap), r = (.exit 0, [AV.ptr o_ 1 0 0, iv most_, und, und, nilS, z38, iv q40, iv q41, iv q42, x1, AV.ptr o_ 1 0 0, iv c5.1, AV.ptr o_ 1 0 0, iv c11.1, AV.ptr o_ 1 0 0, iv most_, iv c17.1, iv (wr (1 + c17.1)), AV.top, AV.top, AV.top, AV.top, AV.top, AV.top, AV.top, AV.top, AV.top, AV.top, AV.top, AV.top, AV.top, AV.top, AV.top, AV.top, AV.top, AV.top, AV.top, AV.top, AV.top, AV.top, AV.top, AV.top, AV.top, AV.top, und], h33) ∧ Hold B h33 [(AV.ptr o_ 1 0 0, .pt 3 [Sl.enc q35, iv q36, AV.sc (.int .u64 q37)]), (z38, obS (q39 : Sl Feat))]) := by
  refine loop_sim (Rel := fun (st : (Sl UInt8) × Int × Int × (Sl Feat) × Int × Int × Int) tm h28 => match st with | (w23, w24, w25, w27, w30, w31, w32) => ∃ z26, tm = [AV.ptr o_ 1 0 0, iv most_, und, und, nilS, z26, iv w30, iv w31, iv w32, x1, AV.ptr o_ 1 0 0, iv c5.1, AV.ptr o_ 1 0 0, iv c11.1, AV.ptr o_ 1 0 0, iv most_, iv c17.1, iv (wr (1 + c17.1)), AV.top, AV.top, AV.top, AV.top, AV.top, AV.top, AV.top, AV.top, AV.top, AV.top, AV.top, AV.top, AV.top, AV.top, AV.top, AV.top, AV.top, AV.top, AV.top, AV.top, AV.top, AV.top, AV.top, AV.top, AV.top, AV.top, und] ∧ Hold B h28 [(AV.ptr o_ 1 0 0, .pt 3 [Sl.enc w23, iv w24, AV.sc (.int .u64 w25)]), (z26, obS (w27 : Sl Feat))]) (fun st tm h28 R => ?_) R
  obtain ⟨w23, w24, w25, w27, w30, w31, w32⟩ := st
  obtain ⟨z26, rfl, O29⟩ := R
  rw [e_lb0_spec_l09Draw]
  unfold s0_spec_l09Draw
  dsimp only
  refine sim_let (v := bv (decide (0 < w32))) (aBin_gtr _ _) ?_
  refine sim_cond (fun c44 => ?_) (fun c44 => ?_)
  · refine sim_gen he_spec_l00Src_pick (tg_spec_l00Src_pick (⟨w23, w24, w25⟩ : l00Src) 8 (O29.start (i := 0) rfl rfl)) (fun c45 v46 h47 hq48 => ?_)
    obtain ⟨e_v46, O49⟩ := hq48
    dsimp only at e_v46
    subst v46
    have O50 : Hold B h47 [(AV.ptr o_ 1 0 0, .pt 3 [Sl.enc c45.2.code, iv c45.2.pos, AV.sc (.int .u64 c45.2.seed)]), (z26, obS (w27 : Sl Feat))] := O29.merge (i := 0) rfl rfl O49
    refine sim_let (v := AV.agg [iv w30, iv w31, iv c45.1]) (by first | rfl | simp [aBuild, aFill, splice]) ?_
    refine sim_build (A := Feat) O50 ([(⟨w30, w31, c45.1⟩ : Feat)] : List Feat) rfl (by first | rfl | simp [aFillRows, zrows]) rfl (fun x51 h52 O53 => ?_)
    replace O53 : Hold B h52 [(AV.ptr o_ 1 0 0, .pt 3 [Sl.enc c45.2.code, iv c45.2.pos, AV.sc (.int .u64 c45.2.seed)]), (z26, obS (w27 : Sl Feat)), (x51, obS ((some ([(⟨w30, w31, c45.1⟩ : Feat)] : List Feat)) : Sl Feat))] := O53
    refine sim_append (A := Feat) (s := w27) O53 1 ([(⟨w30, w31, c45.1⟩ : Feat)] : List Feat) rfl (O53.src (A := Feat) (s := (some ([(⟨w30, w31, c45.1⟩ : Feat)] : List Feat))) 2 rfl) (by decide) (fun x56 h57 O58 => ?_)
    replace O58 : Hold B h57 [(AV.ptr o_ 1 0 0, .pt 3 [Sl.enc c45.2.code, iv c45.2.pos, AV.sc (.int .u64 c45.2.seed)]), (x56, obS ((appS w27 ([(⟨w30, w31, c45.1⟩ : Feat)] : List Feat)) : Sl Feat)), (x51, obS ((some ([(⟨w30, w31, c45.1⟩ : Feat)] : List Feat)) : Sl Feat))] := O58
    have O60 : Hold B h57 [(AV.ptr o_ 1 0 0, .pt 3 [Sl.enc c45.2.code, iv c45.2.pos, AV.sc (.int .u64 c45.2.seed)]), (x56, obS ((appS w27 ([(⟨w30, w31, c45.1⟩ : Feat)] : List Feat)) : Sl Feat))] := O58.sel [0, 1] (by decide) rfl
    refine sim_gen he_spec_l00Src_pick (tg_spec_l00Src_pick c45.2 61 (O60.start (i := 0) rfl rfl)) (fun c61 v62 h63 hq64 => ?_)
    obtain ⟨e_v62, O65⟩ := hq64
    dsimp only at e_v62
    subst v62
    have O66 : Hold B h63 [(AV.ptr o_ 1 0 0, .pt 3 [Sl.enc c61.2.code, iv c61.2.pos, AV.sc (.int .u64 c61.2.seed)]), (x56, obS ((appS w27 ([(⟨w30, w31, c45.1⟩ : Feat)] : List Feat)) : Sl Feat))] := O60.merge (i := 0) rfl rfl O65
    refine sim_let (v := iv (wr (w30 + c61.1))) (aBin_add _ _) ?_
    refine sim_let (v := iv (wr ((wr (w30 + c61.1)) - 30))) (aBin_sub _ _) ?_
    refine sim_callV2 (t := (fun a b : Int => min a b)) he_spec_l00Min (snapD_int _ _) (snapD_int _ _) (fun c67 => ?_)
    refine sim_callV2 (t := (fun a b : Int => max a b)) he_spec_l00Max (snapD_int _ _) (snapD_int _ _) (fun c68 => ?_)
    refine sim_gen he_spec_l00Src_pick (tg_spec_l00Src_pick c61.2 61 (O66.start (i := 0) rfl rfl)) (fun c69 v70 h71 hq72 => ?_)
    obtain ⟨e_v70, O73⟩ := hq72
    dsimp only at e_v70
    subst v70
    have O74 : Hold B h71 [(AV.ptr o_ 1 0 0, .pt 3 [Sl.enc c69.2.code, iv c69.2.pos, AV.sc (.int .u64 c69.2.seed)]), (x56, obS ((appS w27 ([(⟨w30, w31, c45.1⟩ : Feat)] : List Feat)) : Sl Feat))] := O66.merge (i := 0) rfl rfl O73
    refine sim_let (v := iv (wr (w31 + c69.1))) (aBin_add _ _) ?_
    refine sim_let (v := iv (wr ((wr (w31 + c69.1)) - 30))) (aBin_sub _ _) ?_
    refine sim_callV2 (t := (fun a b : Int => min a b)) he_spec_l00Min (snapD_int _ _) (snapD_int _ _) (fun c75 => ?_)
    refine sim_callV2 (t := (fun a b : Int => max a b)) he_spec_l00Max (snapD_int _ _) (snapD_int _ _) (fun c76 => ?_)
    refine sim_let (v := iv (wr (w32 - 1))) (aBin_sub _ _) ?_
    exact sim_ret ⟨rfl, _, rfl, O74⟩
  · exact sim_ret ⟨nofun, _, _, _, _, _, rfl, O29⟩
theorem ts_spec_l09Draw (env : Nat → Contract) (he_spec_l00Max : env n_spec_l00Max = .pure (T2 (fun a b : Int => max a b))) (he_spec_l00Min : env n_spec_l00Min = .pure (T2 (fun a b : Int => min a b))) (he_spec_l00Src_pick : env n_spec_l00Src_pick = .gen (denFn Try.prog ev_spec_l00Src_pick n_spec_l00Src_pick)) {B : Base} {h : Heap} {o_ : Nat} (s_ : l00Src) (most_ : Int) (O : Hold B h [(AV.ptr o_ 1 0 0, .pt 3 [Sl.enc s_.code, iv s_.pos, AV.sc (.int .u64 s_.seed)])]) : Sim (denFn Try.prog env n_spec_l09Draw [AV.ptr o_ 1 0 0, iv most_] h) (t_spec_l09Draw s_ most_) (fun c p => ∃ x1, p.1 = x1 ∧ Hold B p.2 ([(AV.ptr o_ 1 0 0, .pt 3 [Sl.enc c.2.code, iv c.2.pos, AV.sc (.int .u64 c.2.seed)]), (x1, obS (c.1 : Sl Feat))])) := by
  rw [e_spec_l09Draw]
  unfold t_spec_l09Draw
  refine sim_build (A := Feat) O ([] : List Feat) rfl (by first | rfl | simp [aFillRows, zrows]) rfl (fun x1 h2 O3 => ?_)
  replace O3 : Hold B h2 [(AV.ptr o_ 1 0 0, .pt 3 [Sl.enc s_.code, iv s_.pos, AV.sc (.int .u64 s_.seed)]), (x1, obS ((some ([] : List Feat)) : Sl Feat))] := O3
  refine sim_gen he_spec_l00Src_pick (tg_spec_l00Src_pick s_ 256 (O3.start (i := 0) rfl rfl)) (fun c5 v6 h7 hq8 => ?_)
  obtain ⟨e_v6, O9⟩ := hq8
  dsimp only at e_v6
  subst v6
  have O10 : Hold B h7 [(AV.ptr o_ 1 0 0, .pt 3 [Sl.enc c5.2.code, iv c5.2.pos, AV.sc (.int .u64 c5.2.seed)]), (x1, obS ((some ([] : List Feat)) : Sl Feat))] := O3.merge (i := 0) rfl rfl O9
  refine sim_gen he_spec_l00Src_pick (tg_spec_l00Src_pick c5.2 256 (O10.start (i := 0) rfl rfl)) (fun c11 v12 h13 hq14 => ?_)
  obtain ⟨e_v12, O15⟩ := hq14
  dsimp only at e_v12
  subst v12
  have O16 : Hold B h13 [(AV.ptr o_ 1 0 0, .pt 3 [Sl.enc c11.2.code, iv c11.2.pos, AV.sc (.int .u64 c11.2.seed)]), (x1, obS ((some ([] : List Feat)) : Sl Feat))] := O10.merge (i := 0) rfl rfl O15
  refine sim_gen he_spec_l00Src_pick (tg_spec_l00Src_pick c11.2 most_ (O16.start (i := 0) rfl rfl)) (fun c17 v18 h19 hq20 => ?_)
  obtain ⟨e_v18, O21⟩ := hq20
  dsimp only at e_v18
  subst v18
  have O22 : Hold B h19 [(AV.ptr o_ 1 0 0, .pt 3 [Sl.enc c17.2.code, iv c17.2.pos, AV.sc (.int .u64 c17.2.seed)]), (x1, obS ((some ([] : List Feat)) : Sl Feat))] := O16.merge (i := 0) rfl rfl O21
  refine sim_let (v := iv (wr (1 + c17.1))) (aBin_add _ _) ?_
  refine sim_bind ((tl0_spec_l09Draw env he_spec_l00Max he_spec_l00Min he_spec_l00Src_pick o_ most_ x1 c5 c11 c17) ⟨_, rfl, O22⟩) (fun qq80 r hq => ?_)
  obtain ⟨q35, q36, q37, q39⟩ := qq80
  obtain ⟨q40, q41, q42, z38, h33, rfl, O34⟩ := hq
  rw [e_lk0x0_spec_l09Draw]
  exact sim_ret ⟨_, rfl, O34⟩
noncomputable def ev_spec_l09Draw : Nat → Contract := envL [(n_spec_l00Max, .pure (T2 (fun a b : Int => max a b))), (n_spec_l00Min, .pure (T2 (fun a b : Int => min a b))), (n_spec_l00Src_pick, .gen (denFn Try.prog ev_spec_l00Src_pick n_spec_l00Src_pick))]
theorem eo_spec_l09Draw : EnvOK Try.prog ev_spec_l09Draw := (Econs ok_spec_l00Max (Econs ok_spec_l00Min (EconsG (gen_of_den eo_spec_l00Src_pick mixed hb_spec_l00Src_pick) E0)))
theorem tg_spec_l09Draw {B : Base} {h : Heap} {o_ : Nat} (s_ : l00Src) (most_ : Int) (O : Hold B h [(AV.ptr o_ 1 0 0, .pt 3 [Sl.enc s_.code, iv s_.pos, AV.sc (.int .u64 s_.seed)])]) : Sim (denFn Try.prog ev_spec_l09Draw n_spec_l09Draw [AV.ptr o_ 1 0 0, iv most_] h) (t_spec_l09Draw s_ most_) (fun c p => ∃ x1, p.1 = x1 ∧ Hold B p.2 ([(AV.ptr o_ 1 0 0, .pt 3 [Sl.enc c.2.code, iv c.2.pos, AV.sc (.int .u64 c.2.seed)]), (x1, obS (c.1 : Sl Feat))])) := ts_spec_l09Draw ev_spec_l09Draw (by simp [ev_spec_l09Draw, envL]) (by simp [ev_spec_l09Draw, envL]) (by simp [ev_spec_l09Draw, envL]) s_ most_  O

def t_spec_l00Src_one (s_ : l00Src) (n_ : Int) : Option (Bool × l00Src) :=
  obind (t_spec_l00Src_pick s_ n_) fun c1 =>
  some (decide (c1.1 = 0), (⟨c1.2.code, c1.2.pos, c1.2.seed⟩ : l00Src))

theorem ts_spec_l00Src_one (env : Nat → Contract) (he_spec_l00Src_pick : env n_spec_l00Src_pick = .gen (denFn Try.prog ev_spec_l00Src_pick n_spec_l00Src_pick)) {B : Base} {h : Heap} {o_ : Nat} (s_ : l00Src) (n_ : Int) (O : Hold B h [(AV.ptr o_ 1 0 0, .pt 3 [Sl.enc s_.code, iv s_.pos, AV.sc (.int .u64 s_.seed)])]) : Sim (denFn Try.prog env n_spec_l00Src_one [AV.ptr o_ 1 0 0, iv n_] h) (t_spec_l00Src_one s_ n_) (fun c p => p.1 = bv c.1 ∧ Hold B p.2 ([(AV.ptr o_ 1 0 0, .pt 3 [Sl.enc c.2.code, iv c.2.pos, AV.sc (.int .u64 c.2.seed)])])) := by
  rw [e_spec_l00Src_one]
  unfold t_spec_l00Src_one
  refine sim_gen he_spec_l00Src_pick (tg_spec_l00Src_pick s_ n_ (O.start (i := 0) rfl rfl)) (fun c1 v2 h3 hq4 => ?_)
  obtain ⟨e_v2, O5⟩ := hq4
  dsimp only at e_v2
  subst v2
  have O6 : Hold B h3 [(AV.ptr o_ 1 0 0, .pt 3 [Sl.enc c1.2.code, iv c1.2.pos, AV.sc (.int .u64 c1.2.seed)])] := O.merge (i := 0) rfl rfl O5
  refine sim_let (v := bv (decide (c1.1 = 0))) (aCmp_eq _ _) ?_
  exact sim_ret ⟨rfl, O6⟩
noncomputable def ev_spec_l00Src_one : Nat → Contract := envL [(n_spec_l00Src_pick, .gen (denFn Try.prog ev_spec_l00Src_pick n_spec_l00Src_pick))]
theorem eo_spec_l00Src_one : EnvOK Try.prog ev_spec_l00Src_one := (EconsG (gen_of_den eo_spec_l00Src_pick mixed hb_spec_l00Src_pick) E0)
theorem tg_spec_l00Src_one {B : Base} {h : Heap} {o_ : Nat} (s_ : l00Src) (n_ : Int) (O : Hold B h [(AV.ptr o_ 1 0 0, .pt 3 [Sl.enc s_.code, iv s_.pos, AV.sc (.int .u64 s_.seed)])]) : Sim (denFn Try.prog ev_spec_l00Src_one n_spec_l00Src_one [AV.ptr o_ 1 0 0, iv n_] h) (t_spec_l00Src_one s_ n_) (fun c p => p.1 = bv c.1 ∧ Hold B p.2 ([(AV.ptr o_ 1 0 0, .pt 3 [Sl.enc c.2.code, iv c.2.pos, AV.sc (.int .u64 c.2.seed)])])) := ts_spec_l00Src_one ev_spec_l00Src_one (by simp [ev_spec_l00Src_one, envL]) s_ n_  O

def t_spec_l09Size (n_ : Int) : Option Int :=
  bif decide (n_ < 0) then
    some (wr (0 - n_))
  else
    some n_

theorem ts_spec_l09Size (env : Nat → Contract)  (n_ : Int) : Sim (denFn Try.prog env n_spec_l09Size [iv n_] []) (t_spec_l09Size n_) fun c p => release p.2 depth p.1 = some ((fun c : Int => enc c) c) := by
  have O := Hold.nil []
  generalize hB : (⟨[], []⟩ : Base) = B at O
  clear hB
  rw [e_spec_l09Size]
  unfold t_spec_l09Size
  refine sim_let (v := bv (decide (n_ < 0))) (aBin_lss _ _) ?_
  refine sim_cond (fun c1 => ?_) (fun c1 => ?_)
  · refine sim_let (v := iv (wr (0 - n_))) (aUn_neg _) ?_
    exact sim_ret (release_plain (by rfl) _)
  · exact sim_ret (release_plain (by rfl) _)
theorem tt_spec_l09Size : PureOK Try.prog n_spec_l09Size (C1 (fun c : Int => enc c) t_spec_l09Size) := pureC1 E0 mixed hb_spec_l09Size fun n_ => ts_spec_l09Size _  n_

def t_spec_A2Two (code_ : Sl UInt8) : Option ((Sl Feat) × (Sl Feat) × Int) :=
  obind (t_spec_l09Draw (⟨code_, 0, 0⟩ : l00Src) 8) fun c5 =>
  obind (t_spec_l09Draw c5.2 8) fun c13 =>
  obind (t_spec_l00Src_one c13.2 2) fun c21 =>
  bif c21.1 then
    obind (appO (some ([] : List Feat)) (c5.1.getD [])) fun _ =>
    obind (t_spec_l00Src_pick c21.2 256) fun c37 =>
    obind (getI ((appS (some ([] : List Feat)) (c5.1.getD [])).getD []) 0) fun a43 =>
    obind (t_spec_l09Size (wr ((((c5.1.getD []).length : Nat) : Int) - ((((setS (appS (some ([] : List Feat)) (c5.1.getD [])) 0 (⟨c37.1, a43.y, a43.d⟩ : Feat)).getD []).length : Nat) : Int)))) fun c49 =>
    obind (t_spec_l00Src_pick c37.2 4) fun c50 =>
    some (c5.1, (setS (appS (some ([] : List Feat)) (c5.1.getD [])) 0 (⟨c37.1, a43.y, a43.d⟩ : Feat)), wr (c49 + c50.1))
  else
    obind (t_spec_l09Size (wr ((((c5.1.getD []).length : Nat) : Int) - (((c13.1.getD []).length : Nat) : Int)))) fun c57 =>
    obind (t_spec_l00Src_pick c21.2 4) fun c58 =>
    some (c5.1, c13.1, wr (c57 + c58.1))

theorem ts_spec_A2Two (env : Nat → Contract) (he_spec_l00From : env n_spec_l00From = .pure (C1 fromA (fun q : Sl UInt8 => some q))) (he_spec_l00Src_one : env n_spec_l00Src_one = .gen (denFn Try.prog ev_spec_l00Src_one n_spec_l00Src_one)) (he_spec_l00Src_pick : env n_spec_l00Src_pick = .gen (denFn Try.prog ev_spec_l00Src_pick n_spec_l00Src_pick)) (he_spec_l09Draw : env n_spec_l09Draw = .gen (denFn Try.prog ev_spec_l09Draw n_spec_l09Draw)) (he_spec_l09Size : env n_spec_l09Size = .pure (C1 (fun c : Int => enc c) t_spec_l09Size)) (code_ : Sl UInt8) : Sim (denFn Try.prog env n_spec_A2Two [Sl.enc code_] []) (t_spec_A2Two code_) fun c p => release p.2 depth p.1 = some ((fun c : (Sl Feat) × (Sl Feat) × Int => AV.tup [rS c.1, rS c.2.1, enc c.2.2]) c) := by
  have O := Hold.nil []
  generalize hB : (⟨[], []⟩ : Base) = B at O
  clear hB
  rw [e_spec_A2Two]
  unfold t_spec_A2Two
  refine sim_src O he_spec_l00From (snapD_enc _ _) (by first | rfl | exact noRef_enc _) (fun o1 h2 O3 => ?_)
  replace O3 : Hold B h2 [(AV.ptr o1 1 0 0, .pt 3 [Sl.enc code_, iv 0, AV.sc (.int .u64 0)])] := O3
  refine sim_gen he_spec_l09Draw (tg_spec_l09Draw (⟨code_, 0, 0⟩ : l00Src) 8 (O3.start (i := 0) rfl rfl)) (fun c5 v6 h7 hq8 => ?_)
  obtain ⟨x11, e_v6, O9⟩ := hq8
  dsimp only at e_v6
  subst v6
  have O10 : Hold B h7 [(AV.ptr o1 1 0 0, .pt 3 [Sl.enc c5.2.code, iv c5.2.pos, AV.sc (.int .u64 c5.2.seed)]), (x11, obS (c5.1 : Sl Feat))] := O3.merge (i := 0) rfl rfl O9
  refine sim_gen he_spec_l09Draw (tg_spec_l09Draw c5.2 8 (O10.start (i := 0) rfl rfl)) (fun c13 v14 h15 hq16 => ?_)
  obtain ⟨x19, e_v14, O17⟩ := hq16
  dsimp only at e_v14
  subst v14
  have O18 : Hold B h15 [(AV.ptr o1 1 0 0, .pt 3 [Sl.enc c13.2.code, iv c13.2.pos, AV.sc (.int .u64 c13.2.seed)]), (x11, obS (c5.1 : Sl Feat)), (x19, obS (c13.1 : Sl Feat))] := O10.merge (i := 0) rfl rfl O17
  refine sim_gen he_spec_l00Src_one (tg_spec_l00Src_one c13.2 2 (O18.start (i := 0) rfl rfl)) (fun c21 v22 h23 hq24 => ?_)
  obtain ⟨e_v22, O25⟩ := hq24
  dsimp only at e_v22
  subst v22
  have O26 : Hold B h23 [(AV.ptr o1 1 0 0, .pt 3 [Sl.enc c21.2.code, iv c21.2.pos, AV.sc (.int .u64 c21.2.seed)]), (x11, obS (c5.1 : Sl Feat)), (x19, obS (c13.1 : Sl Feat))] := O18.merge (i := 0) rfl rfl O25
  refine sim_cond (fun c27 => ?_) (fun c27 => ?_)
  · refine sim_build (A := Feat) O26 ([] : List Feat) rfl (by first | rfl | simp [aFillRows, zrows]) rfl (fun x28 h29 O30 => ?_)
    replace O30 : Hold B h29 [(AV.ptr o1 1 0 0, .pt 3 [Sl.enc c21.2.code, iv c21.2.pos, AV.sc (.int .u64 c21.2.seed)]), (x11, obS (c5.1 : Sl Feat)), (x19, obS (c13.1 : Sl Feat)), (x28, obS ((some ([] : List Feat)) : Sl Feat))] := O30
    refine sim_append (A := Feat) (s := (some ([] : List Feat))) O30 3 (c5.1.getD []) rfl (O30.src (A := Feat) (s := c5.1) 1 rfl) (by decide) (fun x33 h34 O35 => ?_)
    replace O35 : Hold B h34 [(AV.ptr o1 1 0 0, .pt 3 [Sl.enc c21.2.code, iv c21.2.pos, AV.sc (.int .u64 c21.2.seed)]), (x11, obS (c5.1 : Sl Feat)), (x19, obS (c13.1 : Sl Feat)), (x33, obS ((appS (some ([] : List Feat)) (c5.1.getD [])) : Sl Feat))] := O35
    refine sim_gen he_spec_l00Src_pick (tg_spec_l00Src_pick c21.2 256 (O35.start (i := 0) rfl rfl)) (fun c37 v38 h39 hq40 => ?_)
    obtain ⟨e_v38, O41⟩ := hq40
    dsimp only at e_v38
    subst v38
    have O42 : Hold B h39 [(AV.ptr o1 1 0 0, .pt 3 [Sl.enc c37.2.code, iv c37.2.pos, AV.sc (.int .u64 c37.2.seed)]), (x11, obS (c5.1 : Sl Feat)), (x19, obS (c13.1 : Sl Feat)), (x33, obS ((appS (some ([] : List Feat)) (c5.1.getD [])) : Sl Feat))] := O35.merge (i := 0) rfl rfl O41
    refine sim_get (O42.tab (A := Feat) (s := (appS (some ([] : List Feat)) (c5.1.getD []))) 3 rfl) (fun m44 a43 hi45 hm46 => ?_)
    refine sim_let (v := elp x33 m44 0) ((O42.tab (A := Feat) (s := (appS (some ([] : List Feat)) (c5.1.getD []))) 3 rfl).fld _ _ _) ?_
    refine sim_set (A := Feat) O42 3 (⟨c37.1, a43.y, a43.d⟩ : Feat) rfl hi45 hm46 rfl (by simp) (by first | rfl | simp) (by first | rfl | simp [splice]) (fun h47 O48 => ?_)
    replace O48 : Hold B h47 [(AV.ptr o1 1 0 0, .pt 3 [Sl.enc c37.2.code, iv c37.2.pos, AV.sc (.int .u64 c37.2.seed)]), (x11, obS (c5.1 : Sl Feat)), (x19, obS (c13.1 : Sl Feat)), (x33, obS ((setS (appS (some ([] : List Feat)) (c5.1.getD [])) 0 (⟨c37.1, a43.y, a43.d⟩ : Feat)) : Sl Feat))] := O48
    refine sim_let (v := iv (((c5.1.getD []).length : Nat) : Int)) (O48.tab (A := Feat) (s := c5.1) 1 rfl).len ?_
    refine sim_let (v := iv ((((setS (appS (some ([] : List Feat)) (c5.1.getD [])) 0 (⟨c37.1, a43.y, a43.d⟩ : Feat)).getD []).length : Nat) : Int)) (O48.tab (A := Feat) (s := (setS (appS (some ([] : List Feat)) (c5.1.getD [])) 0 (⟨c37.1, a43.y, a43.d⟩ : Feat))) 3 rfl).len ?_
    refine sim_let (v := iv (wr ((((c5.1.getD []).length : Nat) : Int) - ((((setS (appS (some ([] : List Feat)) (c5.1.getD [])) 0 (⟨c37.1, a43.y, a43.d⟩ : Feat)).getD []).length : Nat) : Int)))) (aBin_sub _ _) ?_
    refine sim_call1 he_spec_l09Size (snapD_int _ _) (fun c49 => ?_)
    refine sim_let2 (hand_plain (by rfl) _ _) ?_
    refine sim_gen he_spec_l00Src_pick (tg_spec_l00Src_pick c37.2 4 (O48.start (i := 0) rfl rfl)) (fun c50 v51 h52 hq53 => ?_)
    obtain ⟨e_v51, O54⟩ := hq53
    dsimp only at e_v51
    subst v51
    have O55 : Hold B h52 [(AV.ptr o1 1 0 0, .pt 3 [Sl.enc c50.2.code, iv c50.2.pos, AV.sc (.int .u64 c50.2.seed)]), (x11, obS (c5.1 : Sl Feat)), (x19, obS (c13.1 : Sl Feat)), (x33, obS ((setS (appS (some ([] : List Feat)) (c5.1.getD [])) 0 (⟨c37.1, a43.y, a43.d⟩ : Feat)) : Sl Feat))] := O48.merge (i := 0) rfl rfl O54
    refine sim_let (v := iv (wr (c49 + c50.1))) (aBin_add _ _) ?_
    have O56 : Hold B h52 [(x11, obS (c5.1 : Sl Feat)), (x33, obS ((setS (appS (some ([] : List Feat)) (c5.1.getD [])) 0 (⟨c37.1, a43.y, a43.d⟩ : Feat)) : Sl Feat))] := O55.sel [1, 3] (by decide) rfl
    exact sim_ret (release_of (by simp only [ids_tup, ids_aggD, ids_agg, ids_iv, ids_bv, ids_sv, ids_bt, ids_nilS, ids_enc, O56.idsD (A := Feat) (s := c5.1) 0 rfl, O56.idsD (A := Feat) (s := (setS (appS (some ([] : List Feat)) (c5.1.getD [])) 0 (⟨c37.1, a43.y, a43.d⟩ : Feat))) 1 rfl, List.map_append, List.map_nil, List.flatMap_cons, List.flatMap_nil, List.append_nil, List.nil_append]; simpa only [List.flatMap_cons, List.flatMap_nil, List.append_nil, List.nil_append] using O56.nd2) (by simp only [rel_tup, rel_aggD, rel_agg, rel_iv, rel_bv, rel_sv, rel_bt, rel_nilS, rel_enc, O56.relD (A := Feat) (s := c5.1) 0 rfl, O56.relD (A := Feat) (s := (setS (appS (some ([] : List Feat)) (c5.1.getD [])) 0 (⟨c37.1, a43.y, a43.d⟩ : Feat))) 1 rfl, omapc, omapn, obind_sm] <;> rfl))
  · refine sim_let (v := iv (((c5.1.getD []).length : Nat) : Int)) (O26.tab (A := Feat) (s := c5.1) 1 rfl).len ?_
    refine sim_let (v := iv (((c13.1.getD []).length : Nat) : Int)) (O26.tab (A := Feat) (s := c13.1) 2 rfl).len ?_
    refine sim_let (v := iv (wr ((((c5.1.getD []).length : Nat) : Int) - (((c13.1.getD []).length : Nat) : Int)))) (aBin_sub _ _) ?_
    refine sim_call1 he_spec_l09Size (snapD_int _ _) (fun c57 => ?_)
    refine sim_let2 (hand_plain (by rfl) _ _) ?_
    refine sim_gen he_spec_l00Src_pick (tg_spec_l00Src_pick c21.2 4 (O26.start (i := 0) rfl rfl)) (fun c58 v59 h60 hq61 => ?_)
    obtain ⟨e_v59, O62⟩ := hq61
    dsimp only at e_v59
    subst v59
    have O63 : Hold B h60 [(AV.ptr o1 1 0 0, .pt 3 [Sl.enc c58.2.code, iv c58.2.pos, AV.sc (.int .u64 c58.2.seed)]), (x11, obS (c5.1 : Sl Feat)), (x19, obS (c13.1 : Sl Feat))] := O26.merge (i := 0) rfl rfl O62
    refine sim_let (v := iv (wr (c57 + c58.1))) (aBin_add _ _) ?_
    have O64 : Hold B h60 [(x11, obS (c5.1 : Sl Feat)), (x19, obS (c13.1 : Sl Feat))] := O63.sel [1, 2] (by decide) rfl
    exact sim_ret (release_of (by simp only [ids_tup, ids_aggD, ids_agg, ids_iv, ids_bv, ids_sv, ids_bt, ids_nilS, ids_enc, O64.idsD (A := Feat) (s := c5.1) 0 rfl, O64.idsD (A := Feat) (s := c13.1) 1 rfl, List.map_append, List.map_nil, List.flatMap_cons, List.flatMap_nil, List.append_nil, List.nil_append]; simpa only [List.flatMap_cons, List.flatMap_nil, List.append_nil, List.nil_append] using O64.nd2) (by simp only [rel_tup, rel_aggD, rel_agg, rel_iv, rel_bv, rel_sv, rel_bt, rel_nilS, rel_enc, O64.relD (A := Feat) (s := c5.1) 0 rfl, O64.relD (A := Feat) (s := c13.1) 1 rfl, omapc, omapn, obind_sm] <;> rfl))
theorem tt_spec_A2Two : PureOK Try.prog n_spec_A2Two (C1 (fun c : (Sl Feat) × (Sl Feat) × Int => AV.tup [rS c.1, rS c.2.1, enc c.2.2]) t_spec_A2Two) := pureC1 (Econs tt_spec_l00From (EconsG (gen_of_den eo_spec_l00Src_one mixed hb_spec_l00Src_one) (EconsG (gen_of_den eo_spec_l00Src_pick mixed hb_spec_l00Src_pick) (EconsG (gen_of_den eo_spec_l09Draw mixed hb_spec_l09Draw) (Econs tt_spec_l09Size E0))))) mixed hb_spec_A2Two fun code_ => ts_spec_A2Two _ (by simp [envL]) (by simp [envL]) (by simp [envL]) (by simp [envL]) (by simp [envL]) code_

def s0_slices_IndexFunc_impl_Feat_impl_Feat (p_ : Feat → Option Bool) (s_ : Sl Feat) : Int → Option (Sum Int (Sum Unit Int)) := fun w3 =>
  bif decide (w3 < (((s_.getD []).length : Nat) : Int)) then
    obind (getI (s_.getD []) w3) fun a13 =>
    obind (p_ a13) fun c17 =>
    bif c17 then
      some (.inr (.inr w3))
    else
      some (.inl (wr (w3 + 1)))
  else
    some (.inr (.inl ()))
def t_slices_IndexFunc_impl_Feat_impl_Feat (p_ : Feat → Option Bool) (s_ : Sl Feat) : Option Int :=
  obind (loopT (s0_slices_IndexFunc_impl_Feat_impl_Feat p_ s_) 0) fun qq26 => match qq26 with
  | (.inl _) =>
      some (-1)
  | (.inr q10) =>
      some q10

theorem tl0_slices_IndexFunc_impl_Feat_impl_Feat (env : Nat → Contract) {B : Base} {K : Type} [Cod K] {g : Nat} {caps : K → List AV} {P : K → Feat → Option Bool} (hp : ∀ k (a : Feat) h, Sim (aCall (env g) (AV.agg (Row.cells a) :: caps k) h) (P k a) fun b r => r = (bv b, h))  (s_ : Sl Feat) (f_ : K)  {st : Int} {tm : TM} {h : Heap} (R : (fun (st : Int) tm h1 => match st with | w3 => tm = [Sl.enc s_, AV.fn g (caps f_), und, und, AV.top, AV.top, Sl.enc s_, iv (((s_.getD []).length : Nat) : Int), iv w3, AV.top, AV.top, AV.top, AV.top, AV.top, AV.top, AV.top, AV.top, AV.top, AV.top] ∧ Hold B h1 []) st tm h) : Sim (loopP hm0_slices_IndexFunc_impl_Feat_impl_Feat xm0_slices_IndexFunc_impl_Feat_impl_Feat (lb0_slices_IndexFunc_impl_Feat_impl_Feat env) tm h) (loopT (s0_slices_IndexFunc_impl_Feat_impl_Feat (P f_) s_) st) (fun (q : Sum Unit Int) (r : Res) => match q with | .inl _ => ∃ (z6 : AV) (z7 : AV) (h4 : Heap), r = (.exit 0, [Sl.enc s_, AV.fn g (caps f_), und, und, z6, z7, Sl.enc s_, iv (((s_.getD []).length : Nat) : Int), AV.top, AV.top, AV.top, AV.top, AV.top, AV.top, AV.top, AV.top, AV.top, AV.top, AV.top], h4) ∧ Hold B h4 [] | .inr q10 => ∃ (q11 : Int) (h8 : Heap), r = (.ret, [Sl.enc s_, AV.fn g (caps f_), und, und, iv q10, iv q11, Sl.enc s_, iv (((s_.getD []).length : Nat) : Int), AV.top, AV.top, AV.top, AV.top, AV.top, AV.top, AV.top, AV.top, AV.top, AV.top, AV.top], h8) ∧ Hold B h8 []) := by
  refine loop_sim (Rel := fun (st : Int) tm h1 => match st with | w3 => tm = [Sl.enc s_, AV.fn g (caps f_), und, und, AV.top, AV.top, Sl.enc s_, iv (((s_.getD []).length : Nat) : Int), iv w3, AV.top, AV.top, AV.top, AV.top, AV.top, AV.top, AV.top, AV.top, AV.top, AV.top] ∧ Hold B h1 []) (fun w3 tm h1 R => ?_) R
  obtain ⟨rfl, O2⟩ := R
  rw [e_lb0_slices_IndexFunc_impl_Feat_impl_Feat]
  unfold s0_slices_IndexFunc_impl_Feat_impl_Feat
  dsimp only
  refine sim_let (v := bv (decide (w3 < (((s_.getD []).length : Nat) : Int)))) (aBin_lss _ _) ?_
  refine sim_cond (fun c12 => ?_) (fun c12 => ?_)
  · refine sim_get (Tab.enc h1 s_) (fun m14 a13 hi15 hm16 => ?_)
    refine sim_let (v := AV.agg [iv a13.x, iv a13.y, iv a13.d]) ((Tab.enc h1 s_).ld hm16 true 3 0) ?_
    refine sim_bind2 (hp f_ a13 _) (fun c17 v18 hh19 hq20 => ?_)
    cases hq20
    refine sim_cond (fun c21 => ?_) (fun c21 => ?_)
    · exact sim_ret ⟨nofun, _, _, rfl, O2⟩
    · refine sim_let (v := iv (wr (w3 + 1))) (aBin_add _ _) ?_
      exact sim_ret ⟨rfl, rfl, O2⟩
  · exact sim_ret ⟨nofun, _, _, _, rfl, O2⟩
theorem ts_slices_IndexFunc_impl_Feat_impl_Feat (env : Nat → Contract) {K : Type} [Cod K] {g : Nat} {caps : K → List AV} {P : K → Feat → Option Bool} (hp : ∀ k (a : Feat) h, Sim (aCall (env g) (AV.agg (Row.cells a) :: caps k) h) (P k a) fun b r => r = (bv b, h))  (s_ : Sl Feat) (f_ : K) : Sim (denFn Try.prog env n_slices_IndexFunc_impl_Feat_impl_Feat [Sl.enc s_, AV.fn g (caps f_)] []) (t_slices_IndexFunc_impl_Feat_impl_Feat (P f_) s_) fun c p => release p.2 depth p.1 = some ((fun c : Int => enc c) c) := by
  have O := Hold.nil []
  generalize hB : (⟨[], []⟩ : Base) = B at O
  clear hB
  rw [e_slices_IndexFunc_impl_Feat_impl_Feat]
  unfold t_slices_IndexFunc_impl_Feat_impl_Feat
  refine sim_let (v := iv (((s_.getD []).length : Nat) : Int)) (Tab.enc [] s_).len ?_
  refine sim_bind ((tl0_slices_IndexFunc_impl_Feat_impl_Feat env hp s_ f_) ⟨rfl, O⟩) (fun qq26 r hq => ?_)
  rcases qq26 with _ | q10
  · obtain ⟨z6, z7, h4, rfl, O5⟩ := hq
    rw [e_lk0x0_slices_IndexFunc_impl_Feat_impl_Feat]
    exact sim_ret (release_plain (by rfl) _)
  · obtain ⟨q11, h8, rfl, O9⟩ := hq
    rw [e_lk0r_slices_IndexFunc_impl_Feat_impl_Feat]
    exact sim_ret (release_plain (by rfl) _)
theorem tt0_slices_IndexFunc_impl_Feat_impl_Feat {g : Nat} {t : Feat → Option Bool} (hg : PureOK Try.prog g (C1 (fun c : Bool => enc c) t)) : PureOK Try.prog n_slices_IndexFunc_impl_Feat_impl_Feat (C2 (fun c : Int => enc c) (fun (q : Sl Feat) (k : Clo0 g) => t_slices_IndexFunc_impl_Feat_impl_Feat ((fun _ : Clo0 g => t) k) q)) := pureC2 (Econs hg E0) mixed hb_slices_IndexFunc_impl_Feat_impl_Feat fun q k => ts_slices_IndexFunc_impl_Feat_impl_Feat _ (caps := fun _ => []) (P := (fun _ : Clo0 g => t)) (fun k a h => callP0 (by simp [envL]) (snapD_nr _ a rfl)) q k
theorem tt1_slices_IndexFunc_impl_Feat_impl_Feat {g : Nat} {X : Type} [Row X] {tp : Feat → Pt X → Option Bool} (hg : PureOK Try.prog g (C2 (fun c : Bool => enc c) tp)) : PureOK Try.prog n_slices_IndexFunc_impl_Feat_impl_Feat (C2 (fun c : Int => enc c) (fun (q : Sl Feat) (k : Clo g (Pt X)) => t_slices_IndexFunc_impl_Feat_impl_Feat ((fun (k : Clo g (Pt X)) a => tp a k.val) k) q)) := pureC2 (Econs hg E0) mixed hb_slices_IndexFunc_impl_Feat_impl_Feat fun q k => ts_slices_IndexFunc_impl_Feat_impl_Feat _ (caps := fun k : Clo g (Pt X) => [enc k.val]) (P := (fun (k : Clo g (Pt X)) a => tp a k.val)) (fun k a h => callP1 (by simp [envL]) (snapD_nr _ a rfl) (snapD_fptr _ _ _ _ rfl)) q k

def t_slices_ContainsFunc_impl_Feat_impl_Feat (p_ : Feat → Option Bool) (s_ : Sl Feat) : Option Bool :=
  obind (t_slices_IndexFunc_impl_Feat_impl_Feat p_ s_) fun c1 =>
  some (decide (0 ≤ c1))

theorem ts_slices_ContainsFunc_impl_Feat_impl_Feat (env : Nat → Contract) {K : Type} [Cod K] {g : Nat} {caps : K → List AV} {P : K → Feat → Option Bool} (hs : ∀ k h, snapD h (AV.fn g (caps k)) = some k) (he_slices_IndexFunc_impl_Feat_impl_Feat : env n_slices_IndexFunc_impl_Feat_impl_Feat = .pure (C2 (fun c : Int => enc c) (fun (q : Sl Feat) (k : K) => t_slices_IndexFunc_impl_Feat_impl_Feat (P k) q))) (s_ : Sl Feat) (f_ : K) : Sim (denFn Try.prog env n_slices_ContainsFunc_impl_Feat_impl_Feat [Sl.enc s_, AV.fn g (caps f_)] []) (t_slices_ContainsFunc_impl_Feat_impl_Feat (P f_) s_) fun c p => release p.2 depth p.1 = some ((fun c : Bool => enc c) c) := by
  have O := Hold.nil []
  generalize hB : (⟨[], []⟩ : Base) = B at O
  clear hB
  rw [e_slices_ContainsFunc_impl_Feat_impl_Feat]
  unfold t_slices_ContainsFunc_impl_Feat_impl_Feat
  refine sim_call2 (t := fun (q : Sl Feat) (k : K) => t_slices_IndexFunc_impl_Feat_impl_Feat (P k) q) he_slices_IndexFunc_impl_Feat_impl_Feat (snapD_enc _ _) (hs f_ _) (fun c1 => ?_)
  refine sim_let2 (hand_plain (by rfl) _ _) ?_
  refine sim_let (v := bv (decide (0 ≤ c1))) (aBin_geq _ _) ?_
  exact sim_ret (release_plain (by rfl) _)
theorem tt0_slices_ContainsFunc_impl_Feat_impl_Feat {g : Nat} {t : Feat → Option Bool} (hg : PureOK Try.prog g (C1 (fun c : Bool => enc c) t)) : PureOK Try.prog n_slices_ContainsFunc_impl_Feat_impl_Feat (C2 (fun c : Bool => enc c) (fun (q : Sl Feat) (k : Clo0 g) => t_slices_ContainsFunc_impl_Feat_impl_Feat ((fun _ : Clo0 g => t) k) q)) := pureC2 (Econs (tt0_slices_IndexFunc_impl_Feat_impl_Feat hg) E0) mixed hb_slices_ContainsFunc_impl_Feat_impl_Feat fun q k => ts_slices_ContainsFunc_impl_Feat_impl_Feat _ (caps := fun _ => []) (P := (fun _ : Clo0 g => t)) (fun k h => snapD_clo0 h g) (by simp [envL]) q k
theorem tt1_slices_ContainsFunc_impl_Feat_impl_Feat {g : Nat} {X : Type} [Row X] {tp : Feat → Pt X → Option Bool} (hg : PureOK Try.prog g (C2 (fun c : Bool => enc c) tp)) : PureOK Try.prog n_slices_ContainsFunc_impl_Feat_impl_Feat (C2 (fun c : Bool => enc c) (fun (q : Sl Feat) (k : Clo g (Pt X)) => t_slices_ContainsFunc_impl_Feat_impl_Feat ((fun (k : Clo g (Pt X)) a => tp a k.val) k) q)) := pureC2 (Econs (tt1_slices_IndexFunc_impl_Feat_impl_Feat hg) E0) mixed hb_slices_ContainsFunc_impl_Feat_impl_Feat fun q k => ts_slices_ContainsFunc_impl_Feat_impl_Feat _ (caps := fun k : Clo g (Pt X) => [enc k.val]) (P := (fun (k : Clo g (Pt X)) a => tp a k.val)) (fun k h => snapD_cloE h k) (by simp [envL]) q k

def t_impl_ValidFeat (f_ : Feat) : Option Bool :=
  obind (some (within f_.x 0 255)) fun c5 =>
  obind (bif c5 then (obind (some (within f_.y 0 255)) fun c7 => some c7) else some false) fun c8 =>
  obind (bif (bif c5 then c8 else false) then (obind (some (within f_.d 0 7)) fun c10 => some c10) else some false) fun c11 =>
  some (bif (bif c5 then c8 else false) then c11 else false)

theorem ts_impl_ValidFeat (env : Nat → Contract) (he_impl_within : env n_impl_within = .pure (T3 within)) (f_ : Feat) : Sim (denFn Try.prog env n_impl_ValidFeat [AV.agg [iv f_.x, iv f_.y, iv f_.d]] []) (t_impl_ValidFeat f_) fun c p => release p.2 depth p.1 = some ((fun c : Bool => enc c) c) := by
  have O := Hold.nil []
  generalize hB : (⟨[], []⟩ : Base) = B at O
  clear hB
  rw [e_impl_ValidFeat]
  unfold t_impl_ValidFeat
  refine sim_box O (cs := [iv f_.x, iv f_.y, iv f_.d]) (by first | rfl | simp) (fun o1 h2 O3 => ?_)
  replace O3 : Hold B h2 [(AV.ptr o1 1 0 0, .pt 3 [iv f_.x, iv f_.y, iv f_.d])] := O3
  refine sim_let (v := AV.ptr o1 1 0 0) rfl ?_
  refine sim_let (v := iv f_.x) (O3.ld 0 rfl false 1 0) ?_
  refine sim_callV3 (t := within) he_impl_within (snapD_int _ _) (snapD_int _ _) (snapD_int _ _) (fun c5 => ?_)
  refine sim_guardT (e := bv) (fun hb6 => ?_) (fun c8 => ?_)
  · refine sim_let (v := AV.ptr o1 1 0 1) rfl ?_
    refine sim_let (v := iv f_.y) (O3.ld 0 rfl false 1 1) ?_
    refine sim_callV3 (t := within) he_impl_within (snapD_int _ _) (snapD_int _ _) (snapD_int _ _) (fun c7 => ?_)
    exact sim_ret rfl
  · refine sim_let (v := bv (bif c5 then c8 else false)) (pick_b _ _ _) ?_
    refine sim_guardT (e := bv) (fun hb9 => ?_) (fun c11 => ?_)
    · refine sim_let (v := AV.ptr o1 1 0 2) rfl ?_
      refine sim_let (v := iv f_.d) (O3.ld 0 rfl false 1 2) ?_
      refine sim_callV3 (t := within) he_impl_within (snapD_int _ _) (snapD_int _ _) (snapD_int _ _) (fun c10 => ?_)
      exact sim_ret rfl
    · refine sim_let (v := bv (bif (bif c5 then c8 else false) then c11 else false)) (pick_b _ _ _) ?_
      exact sim_ret (release_plain (by rfl) _)
theorem tt_impl_ValidFeat : PureOK Try.prog n_impl_ValidFeat (C1 (fun c : Bool => enc c) t_impl_ValidFeat) := pureC1 (Econs ok_impl_within E0) mixed hb_impl_ValidFeat fun f_ => ts_impl_ValidFeat _ (by simp [envL]) f_

def t_impl_areFeats_1 (f_ : Feat) : Option Bool :=
  obind (t_impl_ValidFeat f_) fun c5 =>
  some (!c5)

theorem ts_impl_areFeats_1 (env : Nat → Contract) (he_impl_ValidFeat : env n_impl_ValidFeat = .pure (C1 (fun c : Bool => enc c) t_impl_ValidFeat)) (f_ : Feat) : Sim (denFn Try.prog env n_impl_areFeats_1 [AV.agg [iv f_.x, iv f_.y, iv f_.d]] []) (t_impl_areFeats_1 f_) fun c p => release p.2 depth p.1 = some ((fun c : Bool => enc c) c) := by
  have O := Hold.nil []
  generalize hB : (⟨[], []⟩ : Base) = B at O
  clear hB
  rw [e_impl_areFeats_1]
  unfold t_impl_areFeats_1
  refine sim_box O (cs := [iv f_.x, iv f_.y, iv f_.d]) (by first | rfl | simp) (fun o1 h2 O3 => ?_)
  replace O3 : Hold B h2 [(AV.ptr o1 1 0 0, .pt 3 [iv f_.x, iv f_.y, iv f_.d])] := O3
  refine sim_let (v := AV.agg [iv f_.x, iv f_.y, iv f_.d]) (O3.ld 0 rfl true 3 0) ?_
  refine sim_call1 he_impl_ValidFeat (snapD_nr _ f_ rfl) (fun c5 => ?_)
  refine sim_let2 (hand_plain (by rfl) _ _) ?_
  refine sim_let (v := bv (!c5)) (aUn_not _) ?_
  exact sim_ret (release_plain (by rfl) _)
theorem tt_impl_areFeats_1 : PureOK Try.prog n_impl_areFeats_1 (C1 (fun c : Bool => enc c) t_impl_areFeats_1) := pureC1 (Econs tt_impl_ValidFeat E0) mixed hb_impl_areFeats_1 fun f_ => ts_impl_areFeats_1 _ (by simp [envL]) f_

def t_impl_areFeats (list_ : Sl Feat) (most_ : Int) : Option Bool :=
  obind (bif decide (1 ≤ (((list_.getD []).length : Nat) : Int)) then (some (decide ((((list_.getD []).length : Nat) : Int) ≤ most_))) else some false) fun c2 =>
  obind (bif (bif decide (1 ≤ (((list_.getD []).length : Nat) : Int)) then c2 else false) then (obind (t_slices_ContainsFunc_impl_Feat_impl_Feat t_impl_areFeats_1 list_) fun c4 => some (!c4)) else some false) fun c5 =>
  some (bif (bif decide (1 ≤ (((list_.getD []).length : Nat) : Int)) then c2 else false) then c5 else false)

theorem ts_impl_areFeats (env : Nat → Contract) (he_slices_ContainsFunc_impl_Feat_impl_Feat : env n_slices_ContainsFunc_impl_Feat_impl_Feat = .pure (C2 (fun c : Bool => enc c) (fun (q : Sl Feat) (k : Clo0 n_impl_areFeats_1) => t_slices_ContainsFunc_impl_Feat_impl_Feat ((fun _ : Clo0 n_impl_areFeats_1 => t_impl_areFeats_1) k) q))) (list_ : Sl Feat) (most_ : Int) : Sim (denFn Try.prog env n_impl_areFeats [Sl.enc list_, iv most_] []) (t_impl_areFeats list_ most_) fun c p => release p.2 depth p.1 = some ((fun c : Bool => enc c) c) := by
  have O := Hold.nil []
  generalize hB : (⟨[], []⟩ : Base) = B at O
  clear hB
  rw [e_impl_areFeats]
  unfold t_impl_areFeats
  refine sim_let (v := iv (((list_.getD []).length : Nat) : Int)) (Tab.enc [] list_).len ?_
  refine sim_let (v := bv (decide (1 ≤ (((list_.getD []).length : Nat) : Int)))) (aBin_geq _ _) ?_
  refine sim_guardT (e := bv) (fun hb1 => ?_) (fun c2 => ?_)
  · refine sim_let (v := iv (((list_.getD []).length : Nat) : Int)) (Tab.enc [] list_).len ?_
    refine sim_let (v := bv (decide ((((list_.getD []).length : Nat) : Int) ≤ most_))) (aBin_leq _ _) ?_
    exact sim_ret rfl
  · refine sim_let (v := bv (bif decide (1 ≤ (((list_.getD []).length : Nat) : Int)) then c2 else false)) (pick_b _ _ _) ?_
    refine sim_guardT (e := bv) (fun hb3 => ?_) (fun c5 => ?_)
    · refine sim_call2 (t := fun (q : Sl Feat) (k : Clo0 n_impl_areFeats_1) => t_slices_ContainsFunc_impl_Feat_impl_Feat ((fun _ : Clo0 n_impl_areFeats_1 => t_impl_areFeats_1) k) q) he_slices_ContainsFunc_impl_Feat_impl_Feat (snapD_enc _ _) (snapD_clo0 _ _) (fun c4 => ?_)
      refine sim_let2 (hand_plain (by rfl) _ _) ?_
      refine sim_let (v := bv (!c4)) (aUn_not _) ?_
      exact sim_ret rfl
    · refine sim_let (v := bv (bif (bif decide (1 ≤ (((list_.getD []).length : Nat) : Int)) then c2 else false) then c5 else false)) (pick_b _ _ _) ?_
      exact sim_ret (release_plain (by rfl) _)
theorem tt_impl_areFeats : PureOK Try.prog n_impl_areFeats (C2 (fun c : Bool => enc c) t_impl_areFeats) := pureC2 (Econs (tt0_slices_ContainsFunc_impl_Feat_impl_Feat tt_impl_areFeats_1) E0) mixed hb_impl_areFeats fun list_ most_ => ts_impl_areFeats _ (by simp [envL]) list_ most_

def t_impl_ValidSeq (list_ : Sl Feat) : Option Bool :=
  obind (t_impl_areFeats list_ 72) fun c1 =>
  some c1

theorem ts_impl_ValidSeq (env : Nat → Contract) (he_impl_areFeats : env n_impl_areFeats = .pure (C2 (fun c : Bool => enc c) t_impl_areFeats)) (list_ : Sl Feat) : Sim (denFn Try.prog env n_impl_ValidSeq [Sl.enc list_] []) (t_impl_ValidSeq list_) fun c p => release p.2 depth p.1 = some ((fun c : Bool => enc c) c) := by
  have O := Hold.nil []
  generalize hB : (⟨[], []⟩ : Base) = B at O
  clear hB
  rw [e_impl_ValidSeq]
  unfold t_impl_ValidSeq
  refine sim_call2 he_impl_areFeats (snapD_enc _ _) (snapD_int _ _) (fun c1 => ?_)
  refine sim_let2 (hand_plain (by rfl) _ _) ?_
  exact sim_ret (release_plain (by rfl) _)
theorem tt_impl_ValidSeq : PureOK Try.prog n_impl_ValidSeq (C1 (fun c : Bool => enc c) t_impl_ValidSeq) := pureC1 (Econs tt_impl_areFeats E0) mixed hb_impl_ValidSeq fun list_ => ts_impl_ValidSeq _ (by simp [envL]) list_

def t_impl_isBand (band_ : Int) (n_ : Int) (m_ : Int) : Option Bool :=
  obind (some (within band_ 0 72)) fun c1 =>
  obind (bif c1 then (obind (some (absI (wr (n_ - m_)))) fun c3 => some (decide (c3 ≤ band_))) else some false) fun c4 =>
  some (bif c1 then c4 else false)

theorem ts_impl_isBand (env : Nat → Contract) (he_impl_abs : env n_impl_abs = .pure (T1 absI)) (he_impl_within : env n_impl_within = .pure (T3 within)) (band_ : Int) (n_ : Int) (m_ : Int) : Sim (denFn Try.prog env n_impl_isBand [iv band_, iv n_, iv m_] []) (t_impl_isBand band_ n_ m_) fun c p => release p.2 depth p.1 = some ((fun c : Bool => enc c) c) := by
  have O := Hold.nil []
  generalize hB : (⟨[], []⟩ : Base) = B at O
  clear hB
  rw [e_impl_isBand]
  unfold t_impl_isBand
  refine sim_callV3 (t := within) he_impl_within (snapD_int _ _) (snapD_int _ _) (snapD_int _ _) (fun c1 => ?_)
  refine sim_guardT (e := bv) (fun hb2 => ?_) (fun c4 => ?_)
  · refine sim_let (v := iv (wr (n_ - m_))) (aBin_sub _ _) ?_
    refine sim_callV1 (t := absI) he_impl_abs (snapD_int _ _) (fun c3 => ?_)
    refine sim_let (v := bv (decide (c3 ≤ band_))) (aBin_leq _ _) ?_
    exact sim_ret rfl
  · refine sim_let (v := bv (bif c1 then c4 else false)) (pick_b _ _ _) ?_
    exact sim_ret (release_plain (by rfl) _)
theorem tt_impl_isBand : PureOK Try.prog n_impl_isBand (C3 (fun c : Bool => enc c) t_impl_isBand) := pureC3 (Econs ok_impl_abs (Econs ok_impl_within E0)) mixed hb_impl_isBand fun band_ n_ m_ => ts_impl_isBand _ (by simp [envL]) (by simp [envL]) band_ n_ m_

def t_impl_matchable (a_ : Sl Feat) (b_ : Sl Feat) (band_ : Int) : Option Int :=
  obind (t_impl_ValidSeq a_) fun c1 =>
  obind (bif !c1 then some false else (obind (t_impl_ValidSeq b_) fun c3 => some (!c3))) fun c4 =>
  bif (bif !c1 then true else c4) then
    some 1
  else
    obind (t_impl_isBand band_ (((a_.getD []).length : Nat) : Int) (((b_.getD []).length : Nat) : Int)) fun c6 =>
    bif !c6 then
      some 2
    else
      some 0

theorem ts_impl_matchable (env : Nat → Contract) (he_impl_ValidSeq : env n_impl_ValidSeq = .pure (C1 (fun c : Bool => enc c) t_impl_ValidSeq)) (he_impl_isBand : env n_impl_isBand = .pure (C3 (fun c : Bool => enc c) t_impl_isBand)) (a_ : Sl Feat) (b_ : Sl Feat) (band_ : Int) : Sim (denFn Try.prog env n_impl_matchable [Sl.enc a_, Sl.enc b_, iv band_] []) (t_impl_matchable a_ b_ band_) fun c p => release p.2 depth p.1 = some ((fun c : Int => enc c) c) := by
  have O := Hold.nil []
  generalize hB : (⟨[], []⟩ : Base) = B at O
  clear hB
  rw [e_impl_matchable]
  unfold t_impl_matchable
  refine sim_call1 he_impl_ValidSeq (snapD_enc _ _) (fun c1 => ?_)
  refine sim_let2 (hand_plain (by rfl) _ _) ?_
  refine sim_let (v := bv (!c1)) (aUn_not _) ?_
  refine sim_guardF (e := bv) (fun hb2 => ?_) (fun c4 => ?_)
  · refine sim_call1 he_impl_ValidSeq (snapD_enc _ _) (fun c3 => ?_)
    refine sim_let2 (hand_plain (by rfl) _ _) ?_
    refine sim_let (v := bv (!c3)) (aUn_not _) ?_
    exact sim_ret rfl
  · refine sim_let (v := bv (bif !c1 then true else c4)) (pick_b' _ _ _) ?_
    refine sim_cond (fun c5 => ?_) (fun c5 => ?_)
    · exact sim_ret (release_plain (by rfl) _)
    · refine sim_let (v := iv (((a_.getD []).length : Nat) : Int)) (Tab.enc [] a_).len ?_
      refine sim_let (v := iv (((b_.getD []).length : Nat) : Int)) (Tab.enc [] b_).len ?_
      refine sim_call3 he_impl_isBand (snapD_int _ _) (snapD_int _ _) (snapD_int _ _) (fun c6 => ?_)
      refine sim_let2 (hand_plain (by rfl) _ _) ?_
      refine sim_let (v := bv (!c6)) (aUn_not _) ?_
      refine sim_cond (fun c7 => ?_) (fun c7 => ?_)
      · exact sim_ret (release_plain (by rfl) _)
      · exact sim_ret (release_plain (by rfl) _)
theorem tt_impl_matchable : PureOK Try.prog n_impl_matchable (C3 (fun c : Int => enc c) t_impl_matchable) := pureC3 (Econs tt_impl_ValidSeq (Econs tt_impl_isBand E0)) mixed hb_impl_matchable fun a_ b_ band_ => ts_impl_matchable _ (by simp [envL]) (by simp [envL]) a_ b_ band_

def t_impl_stepsBack : Option Ar6 :=
  some (⟨1, 1, 1, 0, 0, 1⟩ : Ar6)

theorem ts_impl_stepsBack (env : Nat → Contract)  : Sim (denFn Try.prog env n_impl_stepsBack [] []) (t_impl_stepsBack ) fun c p => release p.2 depth p.1 = some ((fun c : Ar6 => enc c) c) := by
  have O := Hold.nil []
  generalize hB : (⟨[], []⟩ : Base) = B at O
  clear hB
  rw [e_impl_stepsBack]
  unfold t_impl_stepsBack
  refine sim_box O (cs := [iv 0, iv 0, iv 0, iv 0, iv 0, iv 0]) (by first | rfl | simp) (fun o1 h2 O3 => ?_)
  replace O3 : Hold B h2 [(AV.ptr o1 1 0 0, .pt 6 [iv 0, iv 0, iv 0, iv 0, iv 0, iv 0])] := O3
  refine sim_let (v := AV.agg [iv 1, iv 1]) (by first | rfl | simp [aBuild, aFill, splice]) ?_
  refine sim_let (v := AV.agg [iv 1, iv 0]) (by first | rfl | simp [aBuild, aFill, splice]) ?_
  refine sim_let (v := AV.agg [iv 0, iv 1]) (by first | rfl | simp [aBuild, aFill, splice]) ?_
  refine sim_let (v := AV.agg [iv 1, iv 1, iv 1, iv 0, iv 0, iv 1]) (by first | rfl | simp [aBuild, aFill, splice]) ?_
  refine sim_store O3 0 (cs' := [iv 1, iv 1, iv 1, iv 0, iv 0, iv 1]) rfl (by first | rfl | simp) (by simp) (by first | rfl | simp) (by first | rfl | simp [splice]) (fun h5 O6 => ?_)
  replace O6 : Hold B h5 [(AV.ptr o1 1 0 0, .pt 6 [iv 1, iv 1, iv 1, iv 0, iv 0, iv 1])] := O6
  refine sim_retL (resL_c (v := AV.agg [iv 1, iv 1, iv 1, iv 0, iv 0, iv 1]) (O6.ld 0 rfl true 6 0) (resL_nil _)) ?_
  dsimp only [pack]
  exact sim_ret (release_plain (by rfl) _)
theorem tt_impl_stepsBack : PureOK Try.prog n_impl_stepsBack (C0 (fun c : Ar6 => enc c) t_impl_stepsBack) := pureC0 E0 mixed hb_impl_stepsBack <| ts_impl_stepsBack _

def s0_impl_leastBefore (table_ : Sl (Sl Int)) (i_ : Int) (j_ : Int) (c1 : Ar6) : (Int × Int) → Option (Sum (Int × Int) Int) := fun (w4, w5) =>
  bif decide (w5 < 3) then
    obind (getI [(⟨c1.a0, c1.a1⟩ : Ar2), ⟨c1.a2, c1.a3⟩, ⟨c1.a4, c1.a5⟩] w5) fun a11 =>
    obind (bif decide (a11.a0 ≤ i_) then (some (decide (a11.a1 ≤ j_))) else some false) fun c19 =>
    bif (bif decide (a11.a0 ≤ i_) then c19 else false) then
      obind (getI (table_.getD []) (wr (i_ - a11.a0))) fun a21 =>
      obind (getI (a21.getD []) (wr (j_ - a11.a1))) fun a25 =>
      some (.inl (min w4 a25, wr (w5 + 1)))
    else
      some (.inl (w4, wr (w5 + 1)))
  else
    some (.inr w4)
def t_impl_leastBefore (table_ : Sl (Sl Int)) (i_ : Int) (j_ : Int) : Option Int :=
  obind (t_impl_stepsBack ) fun c1 =>
  obind (loopT (s0_impl_leastBefore table_ i_ j_ c1) (1099511627776, 0)) fun q8 =>
  some q8

theorem tl0_impl_leastBefore (env : Nat → Contract) {B : Base} (he_impl_stepsBack : env n_impl_stepsBack = .pure (C0 (fun c : Ar6 => enc c) t_impl_stepsBack)) (table_ : Sl (Sl Int)) (i_ : Int) (j_ : Int) (c1 : Ar6)  {st : Int × Int} {tm : TM} {h : Heap} (R : (fun (st : Int × Int) tm h2 => match st with | (w4, w5) => tm = [Sl.enc table_, iv i_, iv j_, und, und, und, iv 0, iv w4, und, AV.top, AV.agg [iv c1.a0, iv c1.a1, iv c1.a2, iv c1.a3, iv c1.a4, iv c1.a5], iv w5, AV.top, AV.top, AV.top, AV.top, AV.top, AV.top, AV.top, AV.top, AV.top, AV.top, AV.top, AV.top, AV.top, AV.top, AV.top, AV.top, AV.top, AV.top, AV.top, AV.top, AV.top, AV.top, AV.top, AV.top, AV.top, AV.top, AV.top, AV.top, und] ∧ Hold B h2 []) st tm h) : Sim (loopP hm0_impl_leastBefore xm0_impl_leastBefore (lb0_impl_leastBefore env) tm h) (loopT (s0_impl_leastBefore table_ i_ j_ c1) st) (fun (q : Int) (r : Res) => match q with | q8 => ∃ (z9 : AV) (h6 : Heap), r = (.exit 0, [Sl.enc table_, iv i_, iv j_, und, und, und, iv 0, iv q8, und, z9, AV.agg [iv c1.a0, iv c1.a1, iv c1.a2, iv c1.a3, iv c1.a4, iv c1.a5], AV.top, AV.top, AV.top, AV.top, AV.top, AV.top, AV.top, AV.top, AV.top, AV.top, AV.top, AV.top, AV.top, AV.top, AV.top, AV.top, AV.top, AV.top, AV.top, AV.top, AV.top, AV.top, AV.top, AV.top, AV.top, AV.top, AV.top, AV.top, AV.top, und], h6) ∧ Hold B h6 []) := by
  refine loop_sim (Rel := fun (st : Int × Int) tm h2 => match st with | (w4, w5) => tm = [Sl.enc table_, iv i_, iv j_, und, und, und, iv 0, iv w4, und, AV.top, AV.agg [iv c1.a0, iv c1.a1, iv c1.a2, iv c1.a3, iv c1.a4, iv c1.a5], iv w5, AV.top, AV.top, AV.top, AV.top, AV.top, AV.top, AV.top, AV.top, AV.top, AV.top, AV.top, AV.top, AV.top, AV.top, AV.top, AV.top, AV.top, AV.top, AV.top, AV.top, AV.top, AV.top, AV.top, AV.top, AV.top, AV.top, AV.top, AV.top, und] ∧ Hold B h2 []) (fun st tm h2 R => ?_) R
  obtain ⟨w4, w5⟩ := st
  obtain ⟨rfl, O3⟩ := R
  rw [e_lb0_impl_leastBefore]
  unfold s0_impl_leastBefore
  dsimp only
  refine sim_let (v := bv (decide (w5 < 3))) (aBin_lss _ _) ?_
  refine sim_cond (fun c10 => ?_) (fun c10 => ?_)
  · refine sim_idxA6 (fun a11 => ?_)
    refine sim_box O3 (cs := [iv 0, iv 0]) (by first | rfl | simp) (fun o12 h13 O14 => ?_)
    replace O14 : Hold B h13 [(AV.ptr o12 1 0 0, .pt 2 [iv 0, iv 0])] := O14
    refine sim_store O14 0 (cs' := [iv a11.a0, iv a11.a1]) rfl (by first | rfl | simp) (by simp) (by first | rfl | simp) (by first | rfl | simp [splice]) (fun h16 O17 => ?_)
    replace O17 : Hold B h16 [(AV.ptr o12 1 0 0, .pt 2 [iv a11.a0, iv a11.a1])] := O17
    refine sim_let (v := AV.ptr o12 1 0 0) rfl ?_
    refine sim_let (v := iv a11.a0) (O17.ld 0 rfl false 1 0) ?_
    refine sim_let (v := bv (decide (a11.a0 ≤ i_))) (aBin_geq _ _) ?_
    refine sim_guardT (e := bv) (fun hb18 => ?_) (fun c19 => ?_)
    · refine sim_let (v := AV.ptr o12 1 0 1) rfl ?_
      refine sim_let (v := iv a11.a1) (O17.ld 0 rfl false 1 1) ?_
      refine sim_let (v := bv (decide (a11.a1 ≤ j_))) (aBin_geq _ _) ?_
      exact sim_ret rfl
    · refine sim_let (v := bv (bif decide (a11.a0 ≤ i_) then c19 else false)) (pick_b _ _ _) ?_
      refine sim_cond (fun c20 => ?_) (fun c20 => ?_)
      · refine sim_let (v := AV.ptr o12 1 0 0) rfl ?_
        refine sim_let (v := iv a11.a0) (O17.ld 0 rfl false 1 0) ?_
        refine sim_let (v := iv (wr (i_ - a11.a0))) (aBin_sub _ _) ?_
        refine sim_get (Tab.enc h16 table_) (fun m22 a21 hi23 hm24 => ?_)
        refine sim_let (v := Sl.enc a21) ((Tab.enc h16 table_).ld hm24 false 1 0) ?_
        refine sim_let (v := AV.ptr o12 1 0 1) rfl ?_
        refine sim_let (v := iv a11.a1) (O17.ld 0 rfl false 1 1) ?_
        refine sim_let (v := iv (wr (j_ - a11.a1))) (aBin_sub _ _) ?_
        refine sim_get (Tab.enc h16 a21) (fun m26 a25 hi27 hm28 => ?_)
        refine sim_let (v := iv a25) ((Tab.enc h16 a21).ld hm28 false 1 0) ?_
        refine sim_let (v := iv (min w4 a25)) (aFold_min _ _) ?_
        refine sim_let (v := iv (wr (w5 + 1))) (aBin_add _ _) ?_
        have O29 : Hold B h16 [] := O17.sel [] (by decide) rfl
        exact sim_ret ⟨rfl, rfl, O29⟩
      · refine sim_let (v := iv (wr (w5 + 1))) (aBin_add _ _) ?_
        have O30 : Hold B h16 [] := O17.sel [] (by decide) rfl
        exact sim_ret ⟨rfl, rfl, O30⟩
  · exact sim_ret ⟨nofun, _, _, rfl, O3⟩
theorem ts_impl_leastBefore (env : Nat → Contract) (he_impl_stepsBack : env n_impl_stepsBack = .pure (C0 (fun c : Ar6 => enc c) t_impl_stepsBack)) (table_ : Sl (Sl Int)) (i_ : Int) (j_ : Int) : Sim (denFn Try.prog env n_impl_leastBefore [Sl.enc table_, iv i_, iv j_] []) (t_impl_leastBefore table_ i_ j_) fun c p => release p.2 depth p.1 = some ((fun c : Int => enc c) c) := by
  have O := Hold.nil []
  generalize hB : (⟨[], []⟩ : Base) = B at O
  clear hB
  rw [e_impl_leastBefore]
  unfold t_impl_leastBefore
  refine sim_call0 he_impl_stepsBack  (fun c1 => ?_)
  refine sim_let2 (hand_plain (by rfl) _ _) ?_
  refine sim_bind ((tl0_impl_leastBefore env he_impl_stepsBack table_ i_ j_ c1) ⟨rfl, O⟩) (fun qq33 r hq => ?_)
  revert hq
  revert qq33
  intro q8 hq
  obtain ⟨z9, h6, rfl, O7⟩ := hq
  rw [e_lk0x0_impl_leastBefore]
  exact sim_ret (release_plain (by rfl) _)
theorem tt_impl_leastBefore : PureOK Try.prog n_impl_leastBefore (C3 (fun c : Int => enc c) t_impl_leastBefore) := pureC3 (Econs tt_impl_stepsBack E0) mixed hb_impl_leastBefore fun table_ i_ j_ => ts_impl_leastBefore _ (by simp [envL]) table_ i_ j_

def t_impl_featCost (a_ : Feat) (b_ : Feat) : Option Int :=
  obind (some (absI (wr (a_.d - b_.d)))) fun c9 =>
  obind (some (absI (wr (a_.x - b_.x)))) fun c10 =>
  obind (some (absI (wr (a_.y - b_.y)))) fun c11 =>
  some (wr ((wr (c10 + c11)) + (wr (16 * (min c9 (wr (8 - c9)))))))

theorem ts_impl_featCost (env : Nat → Contract) (he_impl_abs : env n_impl_abs = .pure (T1 absI)) (a_ : Feat) (b_ : Feat) : Sim (denFn Try.prog env n_impl_featCost [AV.agg [iv a_.x, iv a_.y, iv a_.d], AV.agg [iv b_.x, iv b_.y, iv b_.d]] []) (t_impl_featCost a_ b_) fun c p => release p.2 depth p.1 = some ((fun c : Int => enc c) c) := by
  have O := Hold.nil []
  generalize hB : (⟨[], []⟩ : Base) = B at O
  clear hB
  rw [e_impl_featCost]
  unfold t_impl_featCost
  refine sim_box O (cs := [iv a_.x, iv a_.y, iv a_.d]) (by first | rfl | simp) (fun o1 h2 O3 => ?_)
  replace O3 : Hold B h2 [(AV.ptr o1 1 0 0, .pt 3 [iv a_.x, iv a_.y, iv a_.d])] := O3
  refine sim_box O3 (cs := [iv b_.x, iv b_.y, iv b_.d]) (by first | rfl | simp) (fun o5 h6 O7 => ?_)
  replace O7 : Hold B h6 [(AV.ptr o1 1 0 0, .pt 3 [iv a_.x, iv a_.y, iv a_.d]), (AV.ptr o5 1 0 0, .pt 3 [iv b_.x, iv b_.y, iv b_.d])] := O7
  refine sim_let (v := AV.ptr o1 1 0 2) rfl ?_
  refine sim_let (v := iv a_.d) (O7.ld 0 rfl false 1 2) ?_
  refine sim_let (v := AV.ptr o5 1 0 2) rfl ?_
  refine sim_let (v := iv b_.d) (O7.ld 1 rfl false 1 2) ?_
  refine sim_let (v := iv (wr (a_.d - b_.d))) (aBin_sub _ _) ?_
  refine sim_callV1 (t := absI) he_impl_abs (snapD_int _ _) (fun c9 => ?_)
  refine sim_let (v := AV.ptr o1 1 0 0) rfl ?_
  refine sim_let (v := iv a_.x) (O7.ld 0 rfl false 1 0) ?_
  refine sim_let (v := AV.ptr o5 1 0 0) rfl ?_
  refine sim_let (v := iv b_.x) (O7.ld 1 rfl false 1 0) ?_
  refine sim_let (v := iv (wr (a_.x - b_.x))) (aBin_sub _ _) ?_
  refine sim_callVQ1 (t := absI) he_impl_abs (snapD_int _ _) (fun c10 => ?_)
  refine sim_let (v := AV.ptr o1 1 0 1) rfl ?_
  refine sim_let (v := iv a_.y) (O7.ld 0 rfl false 1 1) ?_
  refine sim_let (v := AV.ptr o5 1 0 1) rfl ?_
  refine sim_let (v := iv b_.y) (O7.ld 1 rfl false 1 1) ?_
  refine sim_let (v := iv (wr (a_.y - b_.y))) (aBin_sub _ _) ?_
  refine sim_callVQ1 (t := absI) he_impl_abs (snapD_int _ _) (fun c11 => ?_)
  refine sim_let (v := iv (wr (c10 + c11))) (aBin_add _ _) ?_
  refine sim_let (v := iv (wr (8 - c9))) (aBin_sub _ _) ?_
  refine sim_let (v := iv (min c9 (wr (8 - c9)))) (aFold_min _ _) ?_
  refine sim_let (v := iv (wr (16 * (min c9 (wr (8 - c9)))))) (aBin_mul _ _) ?_
  refine sim_let (v := iv (wr ((wr (c10 + c11)) + (wr (16 * (min c9 (wr (8 - c9)))))))) (aBin_add _ _) ?_
  exact sim_ret (release_plain (by rfl) _)
theorem tt_impl_featCost : PureOK Try.prog n_impl_featCost (C2 (fun c : Int => enc c) t_impl_featCost) := pureC2 (Econs ok_impl_abs E0) mixed hb_impl_featCost fun a_ b_ => ts_impl_featCost _ (by simp [envL]) a_ b_

def s1_impl_costTable (a_ : Sl Feat) (b_ : Sl Feat) (band_ : Int) (w13 : Int) : ((Sl (Sl Int)) × Int) → Option (Sum ((Sl (Sl Int)) × Int) (Sl (Sl Int))) := fun (w40, w45) =>
  bif decide (w45 < (((b_.getD []).length : Nat) : Int)) then
    obind (t_impl_leastBefore w40 w13 w45) fun c55 =>
    obind (bif decide (w13 = 0) then (some (decide (w45 = 0))) else some false) fun c57 =>
    bif (bif decide (w13 = 0) then c57 else false) then
      obind (some (absI (wr (w13 - w45)))) fun c59 =>
      obind (bif decide (band_ < c59) then some false else (some (decide (1099511627776 ≤ 0)))) fun c61 =>
      bif (bif decide (band_ < c59) then true else c61) then
        obind (getI (w40.getD []) w13) fun a63 =>
        obind (getI (a63.getD []) w45) fun a69 =>
        some (.inl ((setS w40 w13 (setS a63 w45 1099511627776)), wr (w45 + 1)))
      else
        obind (getI (w40.getD []) w13) fun a78 =>
        obind (getI (a_.getD []) w13) fun a84 =>
        obind (getI (b_.getD []) w45) fun a88 =>
        obind (t_impl_featCost a84 a88) fun c92 =>
        obind (getI (a78.getD []) w45) fun a93 =>
        some (.inl ((setS w40 w13 (setS a78 w45 (wr (0 + c92)))), wr (w45 + 1)))
    else
      obind (some (absI (wr (w13 - w45)))) fun c102 =>
      obind (bif decide (band_ < c102) then some false else (some (decide (1099511627776 ≤ c55)))) fun c104 =>
      bif (bif decide (band_ < c102) then true else c104) then
        obind (getI (w40.getD []) w13) fun a106 =>
        obind (getI (a106.getD []) w45) fun a112 =>
        some (.inl ((setS w40 w13 (setS a106 w45 1099511627776)), wr (w45 + 1)))
      else
        obind (getI (w40.getD []) w13) fun a121 =>
        obind (getI (a_.getD []) w13) fun a127 =>
        obind (getI (b_.getD []) w45) fun a131 =>
        obind (t_impl_featCost a127 a131) fun c135 =>
        obind (getI (a121.getD []) w45) fun a136 =>
        some (.inl ((setS w40 w13 (setS a121 w45 (wr (c55 + c135)))), wr (w45 + 1)))
  else
    some (.inr w40)
def s0_impl_costTable (a_ : Sl Feat) (b_ : Sl Feat) (band_ : Int) : ((Sl (Sl Int)) × Int) → Option (Sum ((Sl (Sl Int)) × Int) (Sl (Sl Int))) := fun (w8, w13) =>
  bif decide (w13 < (((a_.getD []).length : Nat) : Int)) then
    obind (makeO 0 (((b_.getD []).length : Nat) : Int)) fun l28 =>
    obind (getI (w8.getD []) w13) fun a29 =>
    obind (loopT (s1_impl_costTable a_ b_ band_ w13) ((setS w8 w13 (some l28)), 0)) fun q48 =>
    some (.inl (q48, wr (w13 + 1)))
  else
    some (.inr w8)
def t_impl_costTable (a_ : Sl Feat) (b_ : Sl Feat) (band_ : Int) : Option (Sl (Sl Int)) :=
  obind (makeO (none : Sl Int) (((a_.getD []).length : Nat) : Int)) fun l5 =>
  obind (loopT (s0_impl_costTable a_ b_ band_) ((some l5), 0)) fun q16 =>
  some q16

theorem tl1_impl_costTable (env : Nat → Contract) {B : Base} (he_impl_abs : env n_impl_abs = .pure (T1 absI)) (he_impl_featCost : env n_impl_featCost = .pure (C2 (fun c : Int => enc c) t_impl_featCost)) (he_impl_leastBefore : env n_impl_leastBefore = .pure (C3 (fun c : Int => enc c) t_impl_leastBefore)) (a_ : Sl Feat) (b_ : Sl Feat) (band_ : Int) (x1 : AV) (w13 : Int) (x24 : AV) (m30 : Nat)  {st : (Sl (Sl Int)) × Int} {tm : TM} {h : Heap} (R : (fun (st : (Sl (Sl Int)) × Int) tm h43 => match st with | (w40, w45) => ∃ ps41 : PS (Sl Int), tm = ((Sl.enc a_) :: (Sl.enc b_) :: (iv band_) :: und :: und :: und :: nilS :: x1 :: (iv w13) :: AV.top :: AV.top :: (Sl.enc a_) :: (iv (((a_.getD []).length : Nat) : Int)) :: x1 :: (Sl.enc a_) :: (iv (((a_.getD []).length : Nat) : Int)) :: (iv w13) :: (bv (decide (w13 < (((a_.getD []).length : Nat) : Int)))) :: (iv w13) :: x1 :: (iv w13) :: (Sl.enc b_) :: (iv (((b_.getD []).length : Nat) : Int)) :: x24 :: (elp x1 m30 0) :: (Sl.enc b_) :: (iv (((b_.getD []).length : Nat) : Int)) :: (iv w45) :: AV.top :: AV.top :: AV.top :: AV.top :: AV.top :: AV.top :: AV.top :: AV.top :: AV.top :: AV.top :: AV.top :: AV.top :: AV.top :: AV.top :: AV.top :: AV.top :: AV.top :: AV.top :: AV.top :: AV.top :: AV.top :: AV.top :: AV.top :: AV.top :: AV.top :: AV.top :: AV.top :: AV.top :: AV.top :: AV.top :: AV.top :: AV.top :: AV.top :: AV.top :: AV.top :: AV.top :: AV.top :: AV.top :: AV.top :: AV.top :: AV.top :: AV.top :: AV.top :: AV.top :: AV.top :: AV.top :: AV.top :: und :: []) ∧ pj ps41 = w40 ∧ Hold B h43 ([] ++ D2 (A := (Sl Int)) x1 ps41)) st tm h) : Sim (loopP hm1_impl_costTable xm1_impl_costTable (lb1_impl_costTable env) tm h) (loopT (s1_impl_costTable a_ b_ band_ w13) st) (fun (q : Sl (Sl Int)) (r : Res) => match q with | q48 => ∃ (z51 : AV) (z52 : AV) (ps49 : PS (Sl Int)) (h46 : Heap), r = (.exit 2, ((Sl.enc a_) :: (Sl.enc b_) :: (iv band_) :: und :: und :: und :: nilS :: x1 :: (iv w13) :: z51 :: z52 :: (Sl.enc a_) :: (iv (((a_.getD []).length : Nat) : Int)) :: x1 :: (Sl.enc a_) :: (iv (((a_.getD []).length : Nat) : Int)) :: (iv w13) :: (bv (decide (w13 < (((a_.getD []).length : Nat) : Int)))) :: (iv w13) :: x1 :: (iv w13) :: (Sl.enc b_) :: (iv (((b_.getD []).length : Nat) : Int)) :: x24 :: (elp x1 m30 0) :: (Sl.enc b_) :: (iv (((b_.getD []).length : Nat) : Int)) :: AV.top :: AV.top :: AV.top :: AV.top :: AV.top :: AV.top :: AV.top :: AV.top :: AV.top :: AV.top :: AV.top :: AV.top :: AV.top :: AV.top :: AV.top :: AV.top :: AV.top :: AV.top :: AV.top :: AV.top :: AV.top :: AV.top :: AV.top :: AV.top :: AV.top :: AV.top :: AV.top :: AV.top :: AV.top :: AV.top :: AV.top :: AV.top :: AV.top :: AV.top :: AV.top :: AV.top :: AV.top :: AV.top :: AV.top :: AV.top :: AV.top :: AV.top :: AV.top :: AV.top :: AV.top :: AV.top :: AV.top :: AV.top :: und :: []), h46) ∧ pj ps49 = q48 ∧ Hold B h46 ([] ++ D2 (A := (Sl Int)) x1 ps49)) := by
  refine loop_sim (Rel := fun (st : (Sl (Sl Int)) × Int) tm h43 => match st with | (w40, w45) => ∃ ps41 : PS (Sl Int), tm = ((Sl.enc a_) :: (Sl.enc b_) :: (iv band_) :: und :: und :: und :: nilS :: x1 :: (iv w13) :: AV.top :: AV.top :: (Sl.enc a_) :: (iv (((a_.getD []).length : Nat) : Int)) :: x1 :: (Sl.enc a_) :: (iv (((a_.getD []).length : Nat) : Int)) :: (iv w13) :: (bv (decide (w13 < (((a_.getD []).length : Nat) : Int)))) :: (iv w13) :: x1 :: (iv w13) :: (Sl.enc b_) :: (iv (((b_.getD []).length : Nat) : Int)) :: x24 :: (elp x1 m30 0) :: (Sl.enc b_) :: (iv (((b_.getD []).length : Nat) : Int)) :: (iv w45) :: AV.top :: AV.top :: AV.top :: AV.top :: AV.top :: AV.top :: AV.top :: AV.top :: AV.top :: AV.top :: AV.top :: AV.top :: AV.top :: AV.top :: AV.top :: AV.top :: AV.top :: AV.top :: AV.top :: AV.top :: AV.top :: AV.top :: AV.top :: AV.top :: AV.top :: AV.top :: AV.top :: AV.top :: AV.top :: AV.top :: AV.top :: AV.top :: AV.top :: AV.top :: AV.top :: AV.top :: AV.top :: AV.top :: AV.top :: AV.top :: AV.top :: AV.top :: AV.top :: AV.top :: AV.top :: AV.top :: AV.top :: und :: []) ∧ pj ps41 = w40 ∧ Hold B h43 ([] ++ D2 (A := (Sl Int)) x1 ps41)) (fun st tm h43 R => ?_) R
  obtain ⟨w40, w45⟩ := st
  obtain ⟨ps41, rfl, hp42, O44⟩ := R
  rw [e_lb1_impl_costTable]
  unfold s1_impl_costTable
  dsimp only
  refine sim_let (v := bv (decide (w45 < (((b_.getD []).length : Nat) : Int)))) (aBin_lss _ _) ?_
  refine sim_cond (fun c54 => ?_) (fun c54 => ?_)
  · refine sim_call3 he_impl_leastBefore ((D2.snapD (l := []) (x := x1) (ps := ps41) (A := (Sl Int)) O44 hp42).2) (snapD_int _ _) (snapD_int _ _) (fun c55 => ?_)
    refine sim_let2 (hand_plain (by rfl) _ _) ?_
    refine sim_let (v := bv (decide (w13 = 0))) (aCmp_eq _ _) ?_
    refine sim_guardT (e := bv) (fun hb56 => ?_) (fun c57 => ?_)
    · refine sim_let (v := bv (decide (w45 = 0))) (aCmp_eq _ _) ?_
      exact sim_ret rfl
    · refine sim_let (v := bv (bif decide (w13 = 0) then c57 else false)) (pick_b _ _ _) ?_
      refine sim_cond (fun c58 => ?_) (fun c58 => ?_)
      · refine sim_let (v := iv (wr (w13 - w45))) (aBin_sub _ _) ?_
        refine sim_callV1 (t := absI) he_impl_abs (snapD_int _ _) (fun c59 => ?_)
        refine sim_let (v := bv (decide (band_ < c59))) (aBin_gtr _ _) ?_
        refine sim_guardF (e := bv) (fun hb60 => ?_) (fun c61 => ?_)
        · refine sim_let (v := bv (decide (1099511627776 ≤ 0))) (aBin_geq _ _) ?_
          exact sim_ret rfl
        · refine sim_let (v := bv (bif decide (band_ < c59) then true else c61)) (pick_b' _ _ _) ?_
          refine sim_cond (fun c62 => ?_) (fun c62 => ?_)
          · refine sim_getN (l := []) (x := x1) (ps := ps41) (A := (Sl Int)) O44 hp42 (fun m64 a63 x67 hi65 hm66 hg68 => ?_)
            refine sim_let (v := x67) (D2.ld (l := []) (x := x1) (ps := ps41) (A := (Sl Int)) O44 hm66 false 1 0) ?_
            refine sim_get (D2.tab (l := []) (x := x1) (ps := ps41) (A := (Sl Int)) O44 hm66) (fun m70 a69 hi71 hm72 => ?_)
            refine sim_setIn (l := []) (x := x1) (ps := ps41) (A := (Sl Int)) O44 hp42 (setS a63 w45 1099511627776) 1099511627776 (by first | exact hi65 | rfl) hm66 hi71 hm72 rfl rfl rfl (by simp) (by first | rfl | simp) (by first | rfl | simp [splice]) (fun ps75 h73 hp76 O74 => ?_)
            refine sim_let (v := iv (wr (w45 + 1))) (aBin_add _ _) ?_
            exact sim_ret ⟨rfl, _, rfl, hp76, O74⟩
          · refine sim_getN (l := []) (x := x1) (ps := ps41) (A := (Sl Int)) O44 hp42 (fun m79 a78 x82 hi80 hm81 hg83 => ?_)
            refine sim_let (v := x82) (D2.ld (l := []) (x := x1) (ps := ps41) (A := (Sl Int)) O44 hm81 false 1 0) ?_
            refine sim_get (Tab.enc h43 a_) (fun m85 a84 hi86 hm87 => ?_)
            refine sim_let (v := AV.agg [iv a84.x, iv a84.y, iv a84.d]) ((Tab.enc h43 a_).ld hm87 true 3 0) ?_
            refine sim_get (Tab.enc h43 b_) (fun m89 a88 hi90 hm91 => ?_)
            refine sim_let (v := AV.agg [iv a88.x, iv a88.y, iv a88.d]) ((Tab.enc h43 b_).ld hm91 true 3 0) ?_
            refine sim_callQ2 he_impl_featCost (snapD_nr _ a84 rfl) (snapD_nr _ a88 rfl) (fun c92 => ?_)
            refine sim_let2 (hand_plain (by rfl) _ _) ?_
            refine sim_let (v := iv (wr (0 + c92))) (aBin_add _ _) ?_
            refine sim_get (D2.tab (l := []) (x := x1) (ps := ps41) (A := (Sl Int)) O44 hm81) (fun m94 a93 hi95 hm96 => ?_)
            refine sim_setIn (l := []) (x := x1) (ps := ps41) (A := (Sl Int)) O44 hp42 (setS a78 w45 (wr (0 + c92))) (wr (0 + c92)) (by first | exact hi80 | rfl) hm81 hi95 hm96 rfl rfl rfl (by simp) (by first | rfl | simp) (by first | rfl | simp [splice]) (fun ps99 h97 hp100 O98 => ?_)
            refine sim_let (v := iv (wr (w45 + 1))) (aBin_add _ _) ?_
            exact sim_ret ⟨rfl, _, rfl, hp100, O98⟩
      · refine sim_let (v := iv (wr (w13 - w45))) (aBin_sub _ _) ?_
        refine sim_callV1 (t := absI) he_impl_abs (snapD_int _ _) (fun c102 => ?_)
        refine sim_let (v := bv (decide (band_ < c102))) (aBin_gtr _ _) ?_
        refine sim_guardF (e := bv) (fun hb103 => ?_) (fun c104 => ?_)
        · refine sim_let (v := bv (decide (1099511627776 ≤ c55))) (aBin_geq _ _) ?_
          exact sim_ret rfl
        · refine sim_let (v := bv (bif decide (band_ < c102) then true else c104)) (pick_b' _ _ _) ?_
          refine sim_cond (fun c105 => ?_) (fun c105 => ?_)
          · refine sim_getN (l := []) (x := x1) (ps := ps41) (A := (Sl Int)) O44 hp42 (fun m107 a106 x110 hi108 hm109 hg111 => ?_)
            refine sim_let (v := x110) (D2.ld (l := []) (x := x1) (ps := ps41) (A := (Sl Int)) O44 hm109 false 1 0) ?_
            refine sim_get (D2.tab (l := []) (x := x1) (ps := ps41) (A := (Sl Int)) O44 hm109) (fun m113 a112 hi114 hm115 => ?_)
            refine sim_setIn (l := []) (x := x1) (ps := ps41) (A := (Sl Int)) O44 hp42 (setS a106 w45 1099511627776) 1099511627776 (by first | exact hi108 | rfl) hm109 hi114 hm115 rfl rfl rfl (by simp) (by first | rfl | simp) (by first | rfl | simp [splice]) (fun ps118 h116 hp119 O117 => ?_)
            refine sim_let (v := iv (wr (w45 + 1))) (aBin_add _ _) ?_
            exact sim_ret ⟨rfl, _, rfl, hp119, O117⟩
          · refine sim_getN (l := []) (x := x1) (ps := ps41) (A := (Sl Int)) O44 hp42 (fun m122 a121 x125 hi123 hm124 hg126 => ?_)
            refine sim_let (v := x125) (D2.ld (l := []) (x := x1) (ps := ps41) (A := (Sl Int)) O44 hm124 false 1 0) ?_
            refine sim_get (Tab.enc h43 a_) (fun m128 a127 hi129 hm130 => ?_)
            refine sim_let (v := AV.agg [iv a127.x, iv a127.y, iv a127.d]) ((Tab.enc h43 a_).ld hm130 true 3 0) ?_
            refine sim_get (Tab.enc h43 b_) (fun m132 a131 hi133 hm134 => ?_)
            refine sim_let (v := AV.agg [iv a131.x, iv a131.y, iv a131.d]) ((Tab.enc h43 b_).ld hm134 true 3 0) ?_
            refine sim_callQ2 he_impl_featCost (snapD_nr _ a127 rfl) (snapD_nr _ a131 rfl) (fun c135 => ?_)
            refine sim_let2 (hand_plain (by rfl) _ _) ?_
            refine sim_let (v := iv (wr (c55 + c135))) (aBin_add _ _) ?_
            refine sim_get (D2.tab (l := []) (x := x1) (ps := ps41) (A := (Sl Int)) O44 hm124) (fun m137 a136 hi138 hm139 => ?_)
            refine sim_setIn (l := []) (x := x1) (ps := ps41) (A := (Sl Int)) O44 hp42 (setS a121 w45 (wr (c55 + c135))) (wr (c55 + c135)) (by first | exact hi123 | rfl) hm124 hi138 hm139 rfl rfl rfl (by simp) (by first | rfl | simp) (by first | rfl | simp [splice]) (fun ps142 h140 hp143 O141 => ?_)
            refine sim_let (v := iv (wr (w45 + 1))) (aBin_add _ _) ?_
            exact sim_ret ⟨rfl, _, rfl, hp143, O141⟩
  · exact sim_ret ⟨nofun, _, _, _, _, rfl, hp42, O44⟩
theorem tl0_impl_costTable (env : Nat → Contract) {B : Base} (he_impl_abs : env n_impl_abs = .pure (T1 absI)) (he_impl_featCost : env n_impl_featCost = .pure (C2 (fun c : Int => enc c) t_impl_featCost)) (he_impl_leastBefore : env n_impl_leastBefore = .pure (C3 (fun c : Int => enc c) t_impl_leastBefore)) (a_ : Sl Feat) (b_ : Sl Feat) (band_ : Int) (x1 : AV)  {st : (Sl (Sl Int)) × Int} {tm : TM} {h : Heap} (R : (fun (st : (Sl (Sl Int)) × Int) tm h11 => match st with | (w8, w13) => ∃ ps9 : PS (Sl Int), tm = ((Sl.enc a_) :: (Sl.enc b_) :: (iv band_) :: und :: und :: und :: nilS :: x1 :: AV.top :: AV.top :: AV.top :: (Sl.enc a_) :: (iv (((a_.getD []).length : Nat) : Int)) :: x1 :: (Sl.enc a_) :: (iv (((a_.getD []).length : Nat) : Int)) :: (iv w13) :: AV.top :: AV.top :: AV.top :: AV.top :: AV.top :: AV.top :: AV.top :: AV.top :: AV.top :: AV.top :: AV.top :: AV.top :: AV.top :: AV.top :: AV.top :: AV.top :: AV.top :: AV.top :: AV.top :: AV.top :: AV.top :: AV.top :: AV.top :: AV.top :: AV.top :: AV.top :: AV.top :: AV.top :: AV.top :: AV.top :: AV.top :: AV.top :: AV.top :: AV.top :: AV.top :: AV.top :: AV.top :: AV.top :: AV.top :: AV.top :: AV.top :: AV.top :: AV.top :: AV.top :: AV.top :: AV.top :: AV.top :: AV.top :: AV.top :: AV.top :: AV.top :: AV.top :: AV.top :: AV.top :: AV.top :: AV.top :: AV.top :: AV.top :: und :: []) ∧ pj ps9 = w8 ∧ Hold B h11 ([] ++ D2 (A := (Sl Int)) x1 ps9)) st tm h) : Sim (loopP hm0_impl_costTable xm0_impl_costTable (lb0_impl_costTable env) tm h) (loopT (s0_impl_costTable a_ b_ band_) st) (fun (q : Sl (Sl Int)) (r : Res) => match q with | q16 => ∃ (z19 : AV) (z20 : AV) (z21 : AV) (ps17 : PS (Sl Int)) (h14 : Heap), r = (.exit 0, ((Sl.enc a_) :: (Sl.enc b_) :: (iv band_) :: und :: und :: und :: nilS :: x1 :: z19 :: z20 :: z21 :: (Sl.enc a_) :: (iv (((a_.getD []).length : Nat) : Int)) :: x1 :: (Sl.enc a_) :: (iv (((a_.getD []).length : Nat) : Int)) :: AV.top :: AV.top :: AV.top :: AV.top :: AV.top :: AV.top :: AV.top :: AV.top :: AV.top :: AV.top :: AV.top :: AV.top :: AV.top :: AV.top :: AV.top :: AV.top :: AV.top :: AV.top :: AV.top :: AV.top :: AV.top :: AV.top :: AV.top :: AV.top :: AV.top :: AV.top :: AV.top :: AV.top :: AV.top :: AV.top :: AV.top :: AV.top :: AV.top :: AV.top :: AV.top :: AV.top :: AV.top :: AV.top :: AV.top :: AV.top :: AV.top :: AV.top :: AV.top :: AV.top :: AV.top :: AV.top :: AV.top :: AV.top :: AV.top :: AV.top :: AV.top :: AV.top :: AV.top :: AV.top :: AV.top :: AV.top :: AV.top :: AV.top :: AV.top :: und :: []), h14) ∧ pj ps17 = q16 ∧ Hold B h14 ([] ++ D2 (A := (Sl Int)) x1 ps17)) := by
  refine loop_sim (Rel := fun (st : (Sl (Sl Int)) × Int) tm h11 => match st with | (w8, w13) => ∃ ps9 : PS (Sl Int), tm = ((Sl.enc a_) :: (Sl.enc b_) :: (iv band_) :: und :: und :: und :: nilS :: x1 :: AV.top :: AV.top :: AV.top :: (Sl.enc a_) :: (iv (((a_.getD []).length : Nat) : Int)) :: x1 :: (Sl.enc a_) :: (iv (((a_.getD []).length : Nat) : Int)) :: (iv w13) :: AV.top :: AV.top :: AV.top :: AV.top :: AV.top :: AV.top :: AV.top :: AV.top :: AV.top :: AV.top :: AV.top :: AV.top :: AV.top :: AV.top :: AV.top :: AV.top :: AV.top :: AV.top :: AV.top :: AV.top :: AV.top :: AV.top :: AV.top :: AV.top :: AV.top :: AV.top :: AV.top :: AV.top :: AV.top :: AV.top :: AV.top :: AV.top :: AV.top :: AV.top :: AV.top :: AV.top :: AV.top :: AV.top :: AV.top :: AV.top :: AV.top :: AV.top :: AV.top :: AV.top :: AV.top :: AV.top :: AV.top :: AV.top :: AV.top :: AV.top :: AV.top :: AV.top :: AV.top :: AV.top :: AV.top :: AV.top :: AV.top :: AV.top :: und :: []) ∧ pj ps9 = w8 ∧ Hold B h11 ([] ++ D2 (A := (Sl Int)) x1 ps9)) (fun st tm h11 R => ?_) R
  obtain ⟨w8, w13⟩ := st
  obtain ⟨ps9, rfl, hp10, O12⟩ := R
  rw [e_lb0_impl_costTable]
  unfold s0_impl_costTable
  dsimp only
  refine sim_let (v := bv (decide (w13 < (((a_.getD []).length : Nat) : Int)))) (aBin_lss _ _) ?_
  refine sim_cond (fun c23 => ?_) (fun c23 => ?_)
  · refine sim_let (v := iv (((b_.getD []).length : Nat) : Int)) (Tab.enc h11 b_).len ?_
    refine sim_make (A := Int) O12 0 rfl (by decide) (fun l28 x24 h25 O26 => ?_)
    replace O26 : Hold B h25 ([(x24, obS ((some l28) : Sl Int))] ++ D2 (A := (Sl Int)) x1 ps9) := Hold.rot O26
    refine sim_getN (l := [(x24, obS ((some l28) : Sl Int))]) (x := x1) (ps := ps9) (A := (Sl Int)) O26 hp10 (fun m30 a29 x33 hi31 hm32 hg34 => ?_)
    have O37 := O26
    refine sim_setRow (l := []) (x := x1) (ps := ps9) (a' := (some l28)) O37 hp10 hi31 hm32 (by simp) (by first | rfl | simp [splice, Inn.row]) (fun ps38 h35 hp39 O36 => ?_)
    refine sim_let (v := iv (((b_.getD []).length : Nat) : Int)) (Tab.enc h35 b_).len ?_
    refine sim_bind ((tl1_impl_costTable env he_impl_abs he_impl_featCost he_impl_leastBefore a_ b_ band_ x1 w13 x24 m30) ⟨_, rfl, hp39, O36⟩) (fun qq147 r hq => ?_)
    revert hq
    revert qq147
    intro q48 hq
    obtain ⟨z51, z52, ps49, h46, rfl, hp50, O47⟩ := hq
    rw [e_lk1x2_impl_costTable]
    refine sim_let (v := iv (wr (w13 + 1))) (aBin_add _ _) ?_
    exact sim_ret ⟨rfl, _, rfl, hp50, O47⟩
  · exact sim_ret ⟨nofun, _, _, _, _, _, rfl, hp10, O12⟩
theorem ts_impl_costTable (env : Nat → Contract) (he_impl_abs : env n_impl_abs = .pure (T1 absI)) (he_impl_featCost : env n_impl_featCost = .pure (C2 (fun c : Int => enc c) t_impl_featCost)) (he_impl_leastBefore : env n_impl_leastBefore = .pure (C3 (fun c : Int => enc c) t_impl_leastBefore)) (a_ : Sl Feat) (b_ : Sl Feat) (band_ : Int) : Sim (denFn Try.prog env n_impl_costTable [Sl.enc a_, Sl.enc b_, iv band_] []) (t_impl_costTable a_ b_ band_) fun c p => release p.2 depth p.1 = some ((fun c : (Sl (Sl Int)) => rD c) c) := by
  have O := Hold.nil []
  generalize hB : (⟨[], []⟩ : Base) = B at O
  clear hB
  rw [e_impl_costTable]
  unfold t_impl_costTable
  refine sim_let (v := iv (((a_.getD []).length : Nat) : Int)) (Tab.enc [] a_).len ?_
  refine sim_makeN (l := []) (A := (Sl Int)) O (none : Sl Int) rfl rfl (by decide) (fun l5 x1 ps6 h2 hp7 O3 => ?_)
  refine sim_let (v := iv (((a_.getD []).length : Nat) : Int)) (Tab.enc h2 a_).len ?_
  refine sim_bind ((tl0_impl_costTable env he_impl_abs he_impl_featCost he_impl_leastBefore a_ b_ band_ x1) ⟨_, rfl, hp7, O3⟩) (fun qq150 r hq => ?_)
  revert hq
  revert qq150
  intro q16 hq
  obtain ⟨z19, z20, z21, ps17, h14, rfl, hp18, O15⟩ := hq
  rw [e_lk0x0_impl_costTable]
  have O22 : Hold B h14 ([] ++ D2 (A := (Sl Int)) x1 ps17) := O15.selD [] (by decide) rfl
  exact sim_ret (release_of (by simp only [ids_tup, ids_aggD, ids_agg, ids_iv, ids_bv, ids_sv, ids_bt, ids_nilS, ids_enc, D2.ids8 (l := []) (x := x1) (ps := ps17) (A := (Sl Int)) O22, List.map_append, List.map_nil, List.flatMap_cons, List.flatMap_nil, List.append_nil, List.nil_append]; simpa only [List.flatMap_cons, List.flatMap_nil, List.append_nil, List.nil_append] using O22.nd2) (by simp only [rel_tup, rel_aggD, rel_agg, rel_iv, rel_bv, rel_sv, rel_bt, rel_nilS, rel_enc, D2.rel8 (l := []) (x := x1) (ps := ps17) (A := (Sl Int)) O22 hp18, omapc, omapn, obind_sm] <;> rfl))
theorem tt_impl_costTable : PureOK Try.prog n_impl_costTable (C3 (fun c : (Sl (Sl Int)) => rD c) t_impl_costTable) := pureC3 (Econs ok_impl_abs (Econs tt_impl_featCost (Econs tt_impl_leastBefore E0))) mixed hb_impl_costTable fun a_ b_ band_ => ts_impl_costTable _ (by simp [envL]) (by simp [envL]) (by simp [envL]) a_ b_ band_

def t_impl_elastic (a_ : Sl Feat) (b_ : Sl Feat) (band_ : Int) : Option Int :=
  obind (t_impl_costTable a_ b_ band_) fun c1 =>
  obind (getI (c1.getD []) (wr ((((a_.getD []).length : Nat) : Int) - 1))) fun a8 =>
  obind (getI (a8.getD []) (wr ((((b_.getD []).length : Nat) : Int) - 1))) fun a14 =>
  some a14

theorem ts_impl_elastic (env : Nat → Contract) (he_impl_costTable : env n_impl_costTable = .pure (C3 (fun c : (Sl (Sl Int)) => rD c) t_impl_costTable)) (a_ : Sl Feat) (b_ : Sl Feat) (band_ : Int) : Sim (denFn Try.prog env n_impl_elastic [Sl.enc a_, Sl.enc b_, iv band_] []) (t_impl_elastic a_ b_ band_) fun c p => release p.2 depth p.1 = some ((fun c : Int => enc c) c) := by
  have O := Hold.nil []
  generalize hB : (⟨[], []⟩ : Base) = B at O
  clear hB
  rw [e_impl_elastic]
  unfold t_impl_elastic
  refine sim_call3 he_impl_costTable (snapD_enc _ _) (snapD_enc _ _) (snapD_int _ _) (fun c1 => ?_)
  refine sim_handN (l := []) (A := (Sl Int)) O (fun x3 ps6 h4 hp7 O5 => ?_)
  refine sim_let (v := iv (((a_.getD []).length : Nat) : Int)) (Tab.enc h4 a_).len ?_
  refine sim_let (v := iv (wr ((((a_.getD []).length : Nat) : Int) - 1))) (aBin_sub _ _) ?_
  refine sim_getN (l := []) (x := x3) (ps := ps6) (A := (Sl Int)) O5 hp7 (fun m9 a8 x12 hi10 hm11 hg13 => ?_)
  refine sim_let (v := x12) (D2.ld (l := []) (x := x3) (ps := ps6) (A := (Sl Int)) O5 hm11 false 1 0) ?_
  refine sim_let (v := iv (((b_.getD []).length : Nat) : Int)) (Tab.enc h4 b_).len ?_
  refine sim_let (v := iv (wr ((((b_.getD []).length : Nat) : Int) - 1))) (aBin_sub _ _) ?_
  refine sim_get (D2.tab (l := []) (x := x3) (ps := ps6) (A := (Sl Int)) O5 hm11) (fun m15 a14 hi16 hm17 => ?_)
  refine sim_let (v := iv a14) ((D2.tab (l := []) (x := x3) (ps := ps6) (A := (Sl Int)) O5 hm11).ld hm17 false 1 0) ?_
  exact sim_ret (release_plain (by rfl) _)
theorem tt_impl_elastic : PureOK Try.prog n_impl_elastic (C3 (fun c : Int => enc c) t_impl_elastic) := pureC3 (Econs tt_impl_costTable E0) mixed hb_impl_elastic fun a_ b_ band_ => ts_impl_elastic _ (by simp [envL]) a_ b_ band_

def t_impl_Elastic (a_ : Sl Feat) (b_ : Sl Feat) (band_ : Int) : Option (Int × Int) :=
  obind (t_impl_matchable a_ b_ band_) fun c1 =>
  bif !decide (c1 = 0) then
    some (0, c1)
  else
    obind (t_impl_elastic a_ b_ band_) fun c3 =>
    some (c3, 0)

theorem ts_impl_Elastic (env : Nat → Contract) (he_impl_elastic : env n_impl_elastic = .pure (C3 (fun c : Int => enc c) t_impl_elastic)) (he_impl_matchable : env n_impl_matchable = .pure (C3 (fun c : Int => enc c) t_impl_matchable)) (a_ : Sl Feat) (b_ : Sl Feat) (band_ : Int) : Sim (denFn Try.prog env n_impl_Elastic [Sl.enc a_, Sl.enc b_, iv band_] []) (t_impl_Elastic a_ b_ band_) fun c p => release p.2 depth p.1 = some ((fun c : Int × Int => AV.tup [enc c.1, enc c.2]) c) := by
  have O := Hold.nil []
  generalize hB : (⟨[], []⟩ : Base) = B at O
  clear hB
  rw [e_impl_Elastic]
  unfold t_impl_Elastic
  refine sim_call3 he_impl_matchable (snapD_enc _ _) (snapD_enc _ _) (snapD_int _ _) (fun c1 => ?_)
  refine sim_let2 (hand_plain (by rfl) _ _) ?_
  refine sim_let (v := bv (!decide (c1 = 0))) (aCmp_ne _ _) ?_
  refine sim_cond (fun c2 => ?_) (fun c2 => ?_)
  · exact sim_ret (release_plain (by rfl) _)
  · refine sim_call3 he_impl_elastic (snapD_enc _ _) (snapD_enc _ _) (snapD_int _ _) (fun c3 => ?_)
    refine sim_let2 (hand_plain (by rfl) _ _) ?_
    exact sim_ret (release_plain (by rfl) _)
theorem tt_impl_Elastic : PureOK Try.prog n_impl_Elastic (C3 (fun c : Int × Int => AV.tup [enc c.1, enc c.2]) t_impl_Elastic) := pureC3 (Econs tt_impl_elastic (Econs tt_impl_matchable E0)) mixed hb_impl_Elastic fun a_ b_ band_ => ts_impl_Elastic _ (by simp [envL]) (by simp [envL]) a_ b_ band_

def t_spec_l08Feat (f_ : Feat) : Option Bool :=
  obind (some (within f_.x 0 255)) fun c5 =>
  obind (bif c5 then (obind (some (within f_.y 0 255)) fun c7 => some c7) else some false) fun c8 =>
  obind (bif (bif c5 then c8 else false) then (obind (some (within f_.d 0 7)) fun c10 => some c10) else some false) fun c11 =>
  some (bif (bif c5 then c8 else false) then c11 else false)

theorem ts_spec_l08Feat (env : Nat → Contract) (he_spec_l00In : env n_spec_l00In = .pure (T3 within)) (f_ : Feat) : Sim (denFn Try.prog env n_spec_l08Feat [AV.agg [iv f_.x, iv f_.y, iv f_.d]] []) (t_spec_l08Feat f_) fun c p => release p.2 depth p.1 = some ((fun c : Bool => enc c) c) := by
  have O := Hold.nil []
  generalize hB : (⟨[], []⟩ : Base) = B at O
  clear hB
  rw [e_spec_l08Feat]
  unfold t_spec_l08Feat
  refine sim_box O (cs := [iv f_.x, iv f_.y, iv f_.d]) (by first | rfl | simp) (fun o1 h2 O3 => ?_)
  replace O3 : Hold B h2 [(AV.ptr o1 1 0 0, .pt 3 [iv f_.x, iv f_.y, iv f_.d])] := O3
  refine sim_let (v := AV.ptr o1 1 0 0) rfl ?_
  refine sim_let (v := iv f_.x) (O3.ld 0 rfl false 1 0) ?_
  refine sim_callV3 (t := within) he_spec_l00In (snapD_int _ _) (snapD_int _ _) (snapD_int _ _) (fun c5 => ?_)
  refine sim_guardT (e := bv) (fun hb6 => ?_) (fun c8 => ?_)
  · refine sim_let (v := AV.ptr o1 1 0 1) rfl ?_
    refine sim_let (v := iv f_.y) (O3.ld 0 rfl false 1 1) ?_
    refine sim_callV3 (t := within) he_spec_l00In (snapD_int _ _) (snapD_int _ _) (snapD_int _ _) (fun c7 => ?_)
    exact sim_ret rfl
  · refine sim_let (v := bv (bif c5 then c8 else false)) (pick_b _ _ _) ?_
    refine sim_guardT (e := bv) (fun hb9 => ?_) (fun c11 => ?_)
    · refine sim_let (v := AV.ptr o1 1 0 2) rfl ?_
      refine sim_let (v := iv f_.d) (O3.ld 0 rfl false 1 2) ?_
      refine sim_callV3 (t := within) he_spec_l00In (snapD_int _ _) (snapD_int _ _) (snapD_int _ _) (fun c10 => ?_)
      exact sim_ret rfl
    · refine sim_let (v := bv (bif (bif c5 then c8 else false) then c11 else false)) (pick_b _ _ _) ?_
      exact sim_ret (release_plain (by rfl) _)
theorem tt_spec_l08Feat : PureOK Try.prog n_spec_l08Feat (C1 (fun c : Bool => enc c) t_spec_l08Feat) := pureC1 (Econs ok_spec_l00In E0) mixed hb_spec_l08Feat fun f_ => ts_spec_l08Feat _ (by simp [envL]) f_

def s0_spec_l08Ok (list_ : Sl Feat) : Int → Option (Sum Int (Sum Unit Bool)) := fun w3 =>
  bif decide (w3 < (((list_.getD []).length : Nat) : Int)) then
    obind (getI (list_.getD []) w3) fun a14 =>
    obind (t_spec_l08Feat a14) fun c18 =>
    bif !c18 then
      some (.inr (.inr false))
    else
      some (.inl (wr (w3 + 1)))
  else
    some (.inr (.inl ()))
def t_spec_l08Ok (list_ : Sl Feat) : Option Bool :=
  obind (loopT (s0_spec_l08Ok list_) 0) fun qq24 => match qq24 with
  | (.inl _) =>
      obind (some (within (((list_.getD []).length : Nat) : Int) 1 384)) fun c8 =>
      some c8
  | (.inr q11) =>
      some q11

theorem tl0_spec_l08Ok (env : Nat → Contract) {B : Base} (he_spec_l00In : env n_spec_l00In = .pure (T3 within)) (he_spec_l08Feat : env n_spec_l08Feat = .pure (C1 (fun c : Bool => enc c) t_spec_l08Feat)) (list_ : Sl Feat)  {st : Int} {tm : TM} {h : Heap} (R : (fun (st : Int) tm h1 => match st with | w3 => tm = [Sl.enc list_, und, AV.top, iv w3, AV.top, AV.top, AV.top, AV.top, AV.top, AV.top, AV.top, AV.top, AV.top, AV.top, AV.top, AV.top, und, und, und] ∧ Hold B h1 []) st tm h) : Sim (loopP hm0_spec_l08Ok xm0_spec_l08Ok (lb0_spec_l08Ok env) tm h) (loopT (s0_spec_l08Ok list_) st) (fun (q : Sum Unit Bool) (r : Res) => match q with | .inl _ => ∃ (q7 : Int) (z6 : AV) (h4 : Heap), r = (.exit 0, [Sl.enc list_, und, z6, iv q7, AV.top, AV.top, AV.top, AV.top, AV.top, AV.top, AV.top, AV.top, AV.top, AV.top, AV.top, AV.top, und, und, und], h4) ∧ Hold B h4 [] | .inr q11 => ∃ (q12 : Int) (h9 : Heap), r = (.ret, [Sl.enc list_, und, bv q11, iv q12, AV.top, AV.top, AV.top, AV.top, AV.top, AV.top, AV.top, AV.top, AV.top, AV.top, AV.top, AV.top, und, und, und], h9) ∧ Hold B h9 []) := by
  refine loop_sim (Rel := fun (st : Int) tm h1 => match st with | w3 => tm = [Sl.enc list_, und, AV.top, iv w3, AV.top, AV.top, AV.top, AV.top, AV.top, AV.top, AV.top, AV.top, AV.top, AV.top, AV.top, AV.top, und, und, und] ∧ Hold B h1 []) (fun w3 tm h1 R => ?_) R
  obtain ⟨rfl, O2⟩ := R
  rw [e_lb0_spec_l08Ok]
  unfold s0_spec_l08Ok
  dsimp only
  refine sim_let (v := iv (((list_.getD []).length : Nat) : Int)) (Tab.enc h1 list_).len ?_
  refine sim_let (v := bv (decide (w3 < (((list_.getD []).length : Nat) : Int)))) (aBin_lss _ _) ?_
  refine sim_cond (fun c13 => ?_) (fun c13 => ?_)
  · refine sim_get (Tab.enc h1 list_) (fun m15 a14 hi16 hm17 => ?_)
    refine sim_let (v := AV.agg [iv a14.x, iv a14.y, iv a14.d]) ((Tab.enc h1 list_).ld hm17 true 3 0) ?_
    refine sim_call1 he_spec_l08Feat (snapD_nr _ a14 rfl) (fun c18 => ?_)
    refine sim_let2 (hand_plain (by rfl) _ _) ?_
    refine sim_let (v := bv (!c18)) (aUn_not _) ?_
    refine sim_cond (fun c19 => ?_) (fun c19 => ?_)
    · exact sim_ret ⟨nofun, _, _, rfl, O2⟩
    · refine sim_let (v := iv (wr (w3 + 1))) (aBin_add _ _) ?_
      exact sim_ret ⟨rfl, rfl, O2⟩
  · exact sim_ret ⟨nofun, _, _, _, rfl, O2⟩
theorem ts_spec_l08Ok (env : Nat → Contract) (he_spec_l00In : env n_spec_l00In = .pure (T3 within)) (he_spec_l08Feat : env n_spec_l08Feat = .pure (C1 (fun c : Bool => enc c) t_spec_l08Feat)) (list_ : Sl Feat) : Sim (denFn Try.prog env n_spec_l08Ok [Sl.enc list_] []) (t_spec_l08Ok list_) fun c p => release p.2 depth p.1 = some ((fun c : Bool => enc c) c) := by
  have O := Hold.nil []
  generalize hB : (⟨[], []⟩ : Base) = B at O
  clear hB
  rw [e_spec_l08Ok]
  unfold t_spec_l08Ok
  refine sim_bind ((tl0_spec_l08Ok env he_spec_l00In he_spec_l08Feat list_) ⟨rfl, O⟩) (fun qq24 r hq => ?_)
  rcases qq24 with _ | q11
  · obtain ⟨q7, z6, h4, rfl, O5⟩ := hq
    rw [e_lk0x0_spec_l08Ok]
    refine sim_let (v := iv (((list_.getD []).length : Nat) : Int)) (Tab.enc h4 list_).len ?_
    refine sim_callV3 (t := within) he_spec_l00In (snapD_int _ _) (snapD_int _ _) (snapD_int _ _) (fun c8 => ?_)
    exact sim_ret (release_plain (by rfl) _)
  · obtain ⟨q12, h9, rfl, O10⟩ := hq
    rw [e_lk0r_spec_l08Ok]
    exact sim_ret (release_plain (by rfl) _)
theorem tt_spec_l08Ok : PureOK Try.prog n_spec_l08Ok (C1 (fun c : Bool => enc c) t_spec_l08Ok) := pureC1 (Econs ok_spec_l00In (Econs tt_spec_l08Feat E0)) mixed hb_spec_l08Ok fun list_ => ts_spec_l08Ok _ (by simp [envL]) (by simp [envL]) list_

def s0_spec_BackFeats (list_ : Sl Feat) : ((Sl Feat) × Int) → Option (Sum ((Sl Feat) × Int) (Sl Feat)) := fun (w8, w11) =>
  bif decide (0 ≤ w11) then
    obind (getI (list_.getD []) w11) fun a20 =>
    obind (appO w8 ([(⟨a20.x, a20.y, Int.tmod (wr (a20.d + 4)) 8⟩ : Feat)] : List Feat)) fun _ =>
    some (.inl ((appS w8 ([(⟨a20.x, a20.y, Int.tmod (wr (a20.d + 4)) 8⟩ : Feat)] : List Feat)), wr (w11 - 1)))
  else
    some (.inr w8)
def t_spec_BackFeats (list_ : Sl Feat) : Option ((Sl Feat) × Int) :=
  obind (t_spec_l08Ok list_) fun c1 =>
  bif !c1 then
    some ((none : Sl Feat), 1)
  else
    obind (loopT (s0_spec_BackFeats list_) ((some ([] : List Feat)), wr ((((list_.getD []).length : Nat) : Int) - 1))) fun q15 =>
    some (q15, 0)

theorem tl0_spec_BackFeats (env : Nat → Contract) {B : Base} (he_spec_l08Ok : env n_spec_l08Ok = .pure (C1 (fun c : Bool => enc c) t_spec_l08Ok)) (list_ : Sl Feat) (c1 : Bool) (x3 : AV)  {st : (Sl Feat) × Int} {tm : TM} {h : Heap} (R : (fun (st : (Sl Feat) × Int) tm h9 => match st with | (w8, w11) => ∃ z7, tm = [Sl.enc list_, und, nilS, iv 0, z7, iv w11, AV.top, Sl.enc list_, bv c1, bv (!c1), x3, Sl.enc list_, iv (((list_.getD []).length : Nat) : Int), iv (wr ((((list_.getD []).length : Nat) : Int) - 1)), AV.top, AV.top, AV.top, AV.top, AV.top, AV.top, AV.top, AV.top, AV.top, AV.top, AV.top, AV.top, AV.top, AV.top, AV.top, AV.top, AV.top, AV.top, AV.top, AV.top, und] ∧ Hold B h9 [(z7, obS (w8 : Sl Feat))]) st tm h) : Sim (loopP hm0_spec_BackFeats xm0_spec_BackFeats (lb0_spec_BackFeats env) tm h) (loopT (s0_spec_BackFeats list_) st) (fun (q : Sl Feat) (r : Res) => match q with | q15 => ∃ (q16 : Int) (z14 : AV) (z17 : AV) (h12 : Heap), r = (.exit 0, [Sl.enc list_, und, nilS, iv 0, z14, iv q16, z17, Sl.enc list_, bv c1, bv (!c1), x3, Sl.enc list_, iv (((list_.getD []).length : Nat) : Int), iv (wr ((((list_.getD []).length : Nat) : Int) - 1)), AV.top, AV.top, AV.top, AV.top, AV.top, AV.top, AV.top, AV.top, AV.top, AV.top, AV.top, AV.top, AV.top, AV.top, AV.top, AV.top, AV.top, AV.top, AV.top, AV.top, und], h12) ∧ Hold B h12 [(z14, obS (q15 : Sl Feat))]) := by
  refine loop_sim (Rel := fun (st : (Sl Feat) × Int) tm h9 => match st with | (w8, w11) => ∃ z7, tm = [Sl.enc list_, und, nilS, iv 0, z7, iv w11, AV.top, Sl.enc list_, bv c1, bv (!c1), x3, Sl.enc list_, iv (((list_.getD []).length : Nat) : Int), iv (wr ((((list_.getD []).length : Nat) : Int) - 1)), AV.top, AV.top, AV.top, AV.top, AV.top, AV.top, AV.top, AV.top, AV.top, AV.top, AV.top, AV.top, AV.top, AV.top, AV.top, AV.top, AV.top, AV.top, AV.top, AV.top, und] ∧ Hold B h9 [(z7, obS (w8 : Sl Feat))]) (fun st tm h9 R => ?_) R
  obtain ⟨w8, w11⟩ := st
  obtain ⟨z7, rfl, O10⟩ := R
  rw [e_lb0_spec_BackFeats]
  unfold s0_spec_BackFeats
  dsimp only
  refine sim_let (v := bv (decide (0 ≤ w11))) (aBin_geq _ _) ?_
  refine sim_cond (fun c19 => ?_) (fun c19 => ?_)
  · refine sim_get (Tab.enc h9 list_) (fun m21 a20 hi22 hm23 => ?_)
    refine sim_let (v := AV.agg [iv a20.x, iv a20.y, iv a20.d]) ((Tab.enc h9 list_).ld hm23 true 3 0) ?_
    refine sim_box O10 (cs := [iv 0, iv 0, iv 0]) (by first | rfl | simp) (fun o24 h25 O26 => ?_)
    replace O26 : Hold B h25 [(z7, obS (w8 : Sl Feat)), (AV.ptr o24 1 0 0, .pt 3 [iv 0, iv 0, iv 0])] := O26
    refine sim_store O26 1 (cs' := [iv a20.x, iv a20.y, iv a20.d]) rfl (by first | rfl | simp) (by simp) (by first | rfl | simp) (by first | rfl | simp [splice]) (fun h28 O29 => ?_)
    replace O29 : Hold B h28 [(z7, obS (w8 : Sl Feat)), (AV.ptr o24 1 0 0, .pt 3 [iv a20.x, iv a20.y, iv a20.d])] := O29
    refine sim_let (v := AV.ptr o24 1 0 0) rfl ?_
    refine sim_let (v := iv a20.x) (O29.ld 1 rfl false 1 0) ?_
    refine sim_let (v := AV.ptr o24 1 0 1) rfl ?_
    refine sim_let (v := iv a20.y) (O29.ld 1 rfl false 1 1) ?_
    refine sim_let (v := AV.ptr o24 1 0 2) rfl ?_
    refine sim_let (v := iv a20.d) (O29.ld 1 rfl false 1 2) ?_
    refine sim_let (v := iv (wr (a20.d + 4))) (aBin_add _ _) ?_
    refine sim_let (v := iv (Int.tmod (wr (a20.d + 4)) 8)) (aBin_rem _ _ (by decide)) ?_
    refine sim_let (v := AV.agg [iv a20.x, iv a20.y, iv (Int.tmod (wr (a20.d + 4)) 8)]) (by first | rfl | simp [aBuild, aFill, splice]) ?_
    refine sim_build (A := Feat) O29 ([(⟨a20.x, a20.y, Int.tmod (wr (a20.d + 4)) 8⟩ : Feat)] : List Feat) rfl (by first | rfl | simp [aFillRows, zrows]) rfl (fun x30 h31 O32 => ?_)
    replace O32 : Hold B h31 [(z7, obS (w8 : Sl Feat)), (AV.ptr o24 1 0 0, .pt 3 [iv a20.x, iv a20.y, iv a20.d]), (x30, obS ((some ([(⟨a20.x, a20.y, Int.tmod (wr (a20.d + 4)) 8⟩ : Feat)] : List Feat)) : Sl Feat))] := O32
    refine sim_append (A := Feat) (s := w8) O32 0 ([(⟨a20.x, a20.y, Int.tmod (wr (a20.d + 4)) 8⟩ : Feat)] : List Feat) rfl (O32.src (A := Feat) (s := (some ([(⟨a20.x, a20.y, Int.tmod (wr (a20.d + 4)) 8⟩ : Feat)] : List Feat))) 2 rfl) (by decide) (fun x35 h36 O37 => ?_)
    replace O37 : Hold B h36 [(x35, obS ((appS w8 ([(⟨a20.x, a20.y, Int.tmod (wr (a20.d + 4)) 8⟩ : Feat)] : List Feat)) : Sl Feat)), (AV.ptr o24 1 0 0, .pt 3 [iv a20.x, iv a20.y, iv a20.d]), (x30, obS ((some ([(⟨a20.x, a20.y, Int.tmod (wr (a20.d + 4)) 8⟩ : Feat)] : List Feat)) : Sl Feat))] := O37
    have O39 : Hold B h36 [(x35, obS ((appS w8 ([(⟨a20.x, a20.y, Int.tmod (wr (a20.d + 4)) 8⟩ : Feat)] : List Feat)) : Sl Feat)), (AV.ptr o24 1 0 0, .pt 3 [iv a20.x, iv a20.y, iv a20.d])] := O37.sel [0, 1] (by decide) rfl
    refine sim_let (v := iv (wr (w11 - 1))) (aBin_sub _ _) ?_
    have O40 : Hold B h36 [(x35, obS ((appS w8 ([(⟨a20.x, a20.y, Int.tmod (wr (a20.d + 4)) 8⟩ : Feat)] : List Feat)) : Sl Feat))] := O39.sel [0] (by decide) rfl
    exact sim_ret ⟨rfl, _, rfl, O40⟩
  · exact sim_ret ⟨nofun, _, _, _, _, rfl, O10⟩
theorem ts_spec_BackFeats (env : Nat → Contract) (he_spec_l08Ok : env n_spec_l08Ok = .pure (C1 (fun c : Bool => enc c) t_spec_l08Ok)) (list_ : Sl Feat) : Sim (denFn Try.prog env n_spec_BackFeats [Sl.enc list_] []) (t_spec_BackFeats list_) fun c p => release p.2 depth p.1 = some ((fun c : (Sl Feat) × Int => AV.tup [rS c.1, enc c.2]) c) := by
  have O := Hold.nil []
  generalize hB : (⟨[], []⟩ : Base) = B at O
  clear hB
  rw [e_spec_BackFeats]
  unfold t_spec_BackFeats
  refine sim_call1 he_spec_l08Ok (snapD_enc _ _) (fun c1 => ?_)
  refine sim_let2 (hand_plain (by rfl) _ _) ?_
  refine sim_let (v := bv (!c1)) (aUn_not _) ?_
  refine sim_cond (fun c2 => ?_) (fun c2 => ?_)
  · exact sim_ret (release_plain (by rfl) _)
  · refine sim_build (A := Feat) O ([] : List Feat) rfl (by first | rfl | simp [aFillRows, zrows]) rfl (fun x3 h4 O5 => ?_)
    replace O5 : Hold B h4 [(x3, obS ((some ([] : List Feat)) : Sl Feat))] := O5
    refine sim_let (v := iv (((list_.getD []).length : Nat) : Int)) (Tab.enc h4 list_).len ?_
    refine sim_let (v := iv (wr ((((list_.getD []).length : Nat) : Int) - 1))) (aBin_sub _ _) ?_
    refine sim_bind ((tl0_spec_BackFeats env he_spec_l08Ok list_ c1 x3) ⟨_, rfl, O5⟩) (fun qq43 r hq => ?_)
    revert hq
    revert qq43
    intro q15 hq
    obtain ⟨q16, z14, z17, h12, rfl, O13⟩ := hq
    rw [e_lk0x0_spec_BackFeats]
    have O18 : Hold B h12 [(z14, obS (q15 : Sl Feat))] := O13.sel [0] (by decide) rfl
    exact sim_ret (release_of (by simp only [ids_tup, ids_aggD, ids_agg, ids_iv, ids_bv, ids_sv, ids_bt, ids_nilS, ids_enc, O18.idsD (A := Feat) (s := q15) 0 rfl, List.map_append, List.map_nil, List.flatMap_cons, List.flatMap_nil, List.append_nil, List.nil_append]; simpa only [List.flatMap_cons, List.flatMap_nil, List.append_nil, List.nil_append] using O18.nd2) (by simp only [rel_tup, rel_aggD, rel_agg, rel_iv, rel_bv, rel_sv, rel_bt, rel_nilS, rel_enc, O18.relD (A := Feat) (s := q15) 0 rfl, omapc, omapn, obind_sm] <;> rfl))
theorem tt_spec_BackFeats : PureOK Try.prog n_spec_BackFeats (C1 (fun c : (Sl Feat) × Int => AV.tup [rS c.1, enc c.2]) t_spec_BackFeats) := pureC1 (Econs tt_spec_l08Ok E0) mixed hb_spec_BackFeats fun list_ => ts_spec_BackFeats _ (by simp [envL]) list_

def s0_spec_A2Path (n_ : Int) (m_ : Int) : ((Sl UInt8) × Int × Int × (Sl Pair) × Int × Int) → Option (Sum ((Sl UInt8) × Int × Int × (Sl Pair) × Int × Int) (Sl Pair)) := fun (w9, w10, w11, w13, w16, w17) =>
  obind (bif decide (w16 < (wr (n_ - 1))) then some false else (some (decide (w17 < (wr (m_ - 1)))))) fun c29 =>
  bif (bif decide (w16 < (wr (n_ - 1))) then true else c29) then
    obind (t_spec_l00Src_pick (⟨w9, w10, w11⟩ : l00Src) 3) fun c31 =>
    obind (bif decide (w17 = wr (m_ - 1)) then some false else (some (decide (w16 < (wr (n_ - 1)))))) fun c38 =>
    obind (bif (!(decide (w17 = wr (m_ - 1))) && c38) then (some (!decide (c31.1 = 1))) else some false) fun c40 =>
    obind (bif decide (w17 = wr (m_ - 1)) then some false else (some (bif c38 then c40 else false))) fun c42 =>
    bif (bif decide (w17 = wr (m_ - 1)) then true else c42) then
      obind (bif !decide (c31.1 = 0) then some false else (some (decide (wr (w16 + 1) = wr (n_ - 1))))) fun c45 =>
      obind (bif (bif !decide (c31.1 = 0) then true else c45) then (some (decide (w17 < (wr (m_ - 1))))) else some false) fun c47 =>
      bif (bif (bif !decide (c31.1 = 0) then true else c45) then c47 else false) then
        obind (getI (w13.getD []) (wr ((((w13.getD []).length : Nat) : Int) - 1))) fun a49 =>
        bif !decide (a49 = (⟨wr (w16 + 1), wr (w17 + 1)⟩ : Pair)) then
          obind (appO w13 ([(⟨wr (w16 + 1), wr (w17 + 1)⟩ : Pair)] : List Pair)) fun _ =>
          some (.inl (c31.2.code, c31.2.pos, c31.2.seed, (appS w13 ([(⟨wr (w16 + 1), wr (w17 + 1)⟩ : Pair)] : List Pair)), wr (w16 + 1), wr (w17 + 1)))
        else
          some (.inl (c31.2.code, c31.2.pos, c31.2.seed, w13, wr (w16 + 1), wr (w17 + 1)))
      else
        obind (getI (w13.getD []) (wr ((((w13.getD []).length : Nat) : Int) - 1))) fun a66 =>
        bif !decide (a66 = (⟨wr (w16 + 1), w17⟩ : Pair)) then
          obind (appO w13 ([(⟨wr (w16 + 1), w17⟩ : Pair)] : List Pair)) fun _ =>
          some (.inl (c31.2.code, c31.2.pos, c31.2.seed, (appS w13 ([(⟨wr (w16 + 1), w17⟩ : Pair)] : List Pair)), wr (w16 + 1), w17))
        else
          some (.inl (c31.2.code, c31.2.pos, c31.2.seed, w13, wr (w16 + 1), w17))
    else
      obind (bif !decide (c31.1 = 0) then some false else (some (decide (w16 = wr (n_ - 1))))) fun c84 =>
      obind (bif (bif !decide (c31.1 = 0) then true else c84) then (some (decide (w17 < (wr (m_ - 1))))) else some false) fun c86 =>
      bif (bif (bif !decide (c31.1 = 0) then true else c84) then c86 else false) then
        obind (getI (w13.getD []) (wr ((((w13.getD []).length : Nat) : Int) - 1))) fun a88 =>
        bif !decide (a88 = (⟨w16, wr (w17 + 1)⟩ : Pair)) then
          obind (appO w13 ([(⟨w16, wr (w17 + 1)⟩ : Pair)] : List Pair)) fun _ =>
          some (.inl (c31.2.code, c31.2.pos, c31.2.seed, (appS w13 ([(⟨w16, wr (w17 + 1)⟩ : Pair)] : List Pair)), w16, wr (w17 + 1)))
        else
          some (.inl (c31.2.code, c31.2.pos, c31.2.seed, w13, w16, wr (w17 + 1)))
      else
        obind (getI (w13.getD []) (wr ((((w13.getD []).length : Nat) : Int) - 1))) fun a105 =>
        bif !decide (a105 = (⟨w16, w17⟩ : Pair)) then
          obind (appO w13 ([(⟨w16, w17⟩ : Pair)] : List Pair)) fun _ =>
          some (.inl (c31.2.code, c31.2.pos, c31.2.seed, (appS w13 ([(⟨w16, w17⟩ : Pair)] : List Pair)), w16, w17))
        else
          some (.inl (c31.2.code, c31.2.pos, c31.2.seed, w13, w16, w17))
  else
    some (.inr w13)
def t_spec_A2Path (code_ : Sl UInt8) (n_ : Int) (m_ : Int) : Option (Sl Pair) :=
  obind (loopT (s0_spec_A2Path n_ m_) (code_, 0, 0, (some ([(⟨0, 0⟩ : Pair)] : List Pair)), 0, 0)) fun q24 =>
  some q24

theorem tl0_spec_A2Path (env : Nat → Contract) {B : Base} (he_spec_l00From : env n_spec_l00From = .pure (C1 fromA (fun q : Sl UInt8 => some q))) (he_spec_l00Src_pick : env n_spec_l00Src_pick = .gen (denFn Try.prog ev_spec_l00Src_pick n_spec_l00Src_pick)) (code_ : Sl UInt8) (n_ : Int) (m_ : Int) (o1 : Nat) (x5 : AV)  {st : (Sl UInt8) × Int × Int × (Sl Pair) × Int × Int} {tm : TM} {h : Heap} (R : (fun (st : (Sl UInt8) × Int × Int × (Sl Pair) × Int × Int) tm h14 => match st with | (w9, w10, w11, w13, w16, w17) => ∃ z12, tm = ((Sl.enc code_) :: (iv n_) :: (iv m_) :: und :: und :: und :: nilS :: (AV.ptr o1 1 0 0) :: (iv w16) :: (iv w17) :: z12 :: AV.top :: (Sl.enc code_) :: (AV.ptr o1 1 0 0) :: (AV.agg [iv 0, iv 0]) :: x5 :: AV.top :: AV.top :: AV.top :: AV.top :: AV.top :: AV.top :: AV.top :: AV.top :: AV.top :: AV.top :: AV.top :: AV.top :: AV.top :: AV.top :: AV.top :: AV.top :: AV.top :: AV.top :: AV.top :: AV.top :: AV.top :: AV.top :: AV.top :: AV.top :: AV.top :: AV.top :: AV.top :: AV.top :: AV.top :: AV.top :: AV.top :: AV.top :: AV.top :: AV.top :: AV.top :: AV.top :: AV.top :: AV.top :: AV.top :: AV.top :: AV.top :: AV.top :: AV.top :: AV.top :: AV.top :: AV.top :: AV.top :: AV.top :: AV.top :: AV.top :: AV.top :: AV.top :: AV.top :: AV.top :: AV.top :: AV.top :: AV.top :: AV.top :: AV.top :: AV.top :: und :: []) ∧ Hold B h14 [(AV.ptr o1 1 0 0, .pt 3 [Sl.enc w9, iv w10, AV.sc (.int .u64 w11)]), (z12, obS (w13 : Sl Pair))]) st tm h) : Sim (loopP hm0_spec_A2Path xm0_spec_A2Path (lb0_spec_A2Path env) tm h) (loopT (s0_spec_A2Path n_ m_) st) (fun (q : Sl Pair) (r : Res) => match q with | q24 => ∃ (q20 : Sl UInt8) (q21 : Int) (q22 : Int) (q25 : Int) (q26 : Int) (z23 : AV) (z27 : AV) (h18 : Heap), r = (.exit 0, ((Sl.enc code_) :: (iv n_) :: (iv m_) :: und :: und :: und :: nilS :: (AV.ptr o1 1 0 0) :: (iv q25) :: (iv q26) :: z23 :: z27 :: (Sl.enc code_) :: (AV.ptr o1 1 0 0) :: (AV.agg [iv 0, iv 0]) :: x5 :: AV.top :: AV.top :: AV.top :: AV.top :: AV.top :: AV.top :: AV.top :: AV.top :: AV.top :: AV.top :: AV.top :: AV.top :: AV.top :: AV.top :: AV.top :: AV.top :: AV.top :: AV.top :: AV.top :: AV.top :: AV.top :: AV.top :: AV.top :: AV.top :: AV.top :: AV.top :: AV.top :: AV.top :: AV.top :: AV.top :: AV.top :: AV.top :: AV.top :: AV.top :: AV.top :: AV.top :: AV.top :: AV.top :: AV.top :: AV.top :: AV.top :: AV.top :: AV.top :: AV.top :: AV.top :: AV.top :: AV.top :: AV.top :: AV.top :: AV.top :: AV.top :: AV.top :: AV.top :: AV.top :: AV.top :: AV.top :: AV.top :: AV.top :: AV.top :: AV.top :: und :: []), h18) ∧ Hold B h18 [(AV.ptr o1 1 0 0, .pt 3 [Sl.enc q20, iv q21, AV.sc (.int .u64 q22)]), (z23, obS (q24 : Sl Pair))]) := by
  refine loop_sim (Rel := fun (st : (Sl UInt8) × Int × Int × (Sl Pair) × Int × Int) tm h14 => match st with | (w9, w10, w11, w13, w16, w17) => ∃ z12, tm = ((Sl.enc code_) :: (iv n_) :: (iv m_) :: und :: und :: und :: nilS :: (AV.ptr o1 1 0 0) :: (iv w16) :: (iv w17) :: z12 :: AV.top :: (Sl.enc code_) :: (AV.ptr o1 1 0 0) :: (AV.agg [iv 0, iv 0]) :: x5 :: AV.top :: AV.top :: AV.top :: AV.top :: AV.top :: AV.top :: AV.top :: AV.top :: AV.top :: AV.top :: AV.top :: AV.top :: AV.top :: AV.top :: AV.top :: AV.top :: AV.top :: AV.top :: AV.top :: AV.top :: AV.top :: AV.top :: AV.top :: AV.top :: AV.top :: AV.top :: AV.top :: AV.top :: AV.top :: AV.top :: AV.top :: AV.top :: AV.top :: AV.top :: AV.top :: AV.top :: AV.top :: AV.top :: AV.top :: AV.top :: AV.top :: AV.top :: AV.top :: AV.top :: AV.top :: AV.top :: AV.top :: AV.top :: AV.top :: AV.top :: AV.top :: AV.top :: AV.top :: AV.top :: AV.top :: AV.top :: AV.top :: AV.top :: AV.top :: AV.top :: und :: []) ∧ Hold B h14 [(AV.ptr o1 1 0 0, .pt 3 [Sl.enc w9, iv w10, AV.sc (.int .u64 w11)]), (z12, obS (w13 : Sl Pair))]) (fun st tm h14 R => ?_) R
  obtain ⟨w9, w10, w11, w13, w16, w17⟩ := st
  obtain ⟨z12, rfl, O15⟩ := R
  rw [e_lb0_spec_A2Path]
  unfold s0_spec_A2Path
  dsimp only
  refine sim_let (v := iv (wr (n_ - 1))) (aBin_sub _ _) ?_
  refine sim_let (v := bv (decide (w16 < (wr (n_ - 1))))) (aBin_lss _ _) ?_
  refine sim_guardF (e := bv) (fun hb28 => ?_) (fun c29 => ?_)
  · refine sim_let (v := iv (wr (m_ - 1))) (aBin_sub _ _) ?_
    refine sim_let (v := bv (decide (w17 < (wr (m_ - 1))))) (aBin_lss _ _) ?_
    exact sim_ret rfl
  · refine sim_let (v := bv (bif decide (w16 < (wr (n_ - 1))) then true else c29)) (pick_b' _ _ _) ?_
    refine sim_cond (fun c30 => ?_) (fun c30 => ?_)
    · refine sim_gen he_spec_l00Src_pick (tg_spec_l00Src_pick (⟨w9, w10, w11⟩ : l00Src) 3 (O15.start (i := 0) rfl rfl)) (fun c31 v32 h33 hq34 => ?_)
      obtain ⟨e_v32, O35⟩ := hq34
      dsimp only at e_v32
      subst v32
      have O36 : Hold B h33 [(AV.ptr o1 1 0 0, .pt 3 [Sl.enc c31.2.code, iv c31.2.pos, AV.sc (.int .u64 c31.2.seed)]), (z12, obS (w13 : Sl Pair))] := O15.merge (i := 0) rfl rfl O35
      refine sim_let (v := iv (wr (m_ - 1))) (aBin_sub _ _) ?_
      refine sim_let (v := bv (decide (w17 = wr (m_ - 1)))) (aCmp_eq _ _) ?_
      refine sim_guardF (e := bv) (fun hb37 => ?_) (fun c38 => ?_)
      · refine sim_let (v := iv (wr (n_ - 1))) (aBin_sub _ _) ?_
        refine sim_let (v := bv (decide (w16 < (wr (n_ - 1))))) (aBin_lss _ _) ?_
        exact sim_ret rfl
      · simp only [gv_FT]
        refine sim_guardT (e := bv) (fun hb39 => ?_) (fun c40 => ?_)
        · refine sim_let (v := bv (!decide (c31.1 = 1))) (aCmp_ne _ _) ?_
          exact sim_ret rfl
        · refine sim_guardF (e := bv) (fun hb41 => ?_) (fun c42 => ?_)
          · simp only [hb41, cond_true, cond_false, Bool.not_true, Bool.not_false, Bool.true_and, Bool.and_true, Bool.false_and, Bool.not_not]
            refine sim_let (v := bv (bif c38 then c40 else false)) (pick_b _ _ _) ?_
            exact sim_ret rfl
          · refine sim_let (v := bv (bif decide (w17 = wr (m_ - 1)) then true else c42)) (pick_b' _ _ _) ?_
            refine sim_cond (fun c43 => ?_) (fun c43 => ?_)
            · refine sim_let (v := iv (wr (w16 + 1))) (aBin_add _ _) ?_
              refine sim_let (v := bv (!decide (c31.1 = 0))) (aCmp_ne _ _) ?_
              refine sim_guardF (e := bv) (fun hb44 => ?_) (fun c45 => ?_)
              · refine sim_let (v := iv (wr (n_ - 1))) (aBin_sub _ _) ?_
                refine sim_let (v := bv (decide (wr (w16 + 1) = wr (n_ - 1)))) (aCmp_eq _ _) ?_
                exact sim_ret rfl
              · refine sim_let (v := bv (bif !decide (c31.1 = 0) then true else c45)) (pick_b' _ _ _) ?_
                refine sim_guardT (e := bv) (fun hb46 => ?_) (fun c47 => ?_)
                · refine sim_let (v := iv (wr (m_ - 1))) (aBin_sub _ _) ?_
                  refine sim_let (v := bv (decide (w17 < (wr (m_ - 1))))) (aBin_lss _ _) ?_
                  exact sim_ret rfl
                · refine sim_let (v := bv (bif (bif !decide (c31.1 = 0) then true else c45) then c47 else false)) (pick_b _ _ _) ?_
                  refine sim_cond (fun c48 => ?_) (fun c48 => ?_)
                  · refine sim_let (v := iv (wr (w17 + 1))) (aBin_add _ _) ?_
                    refine sim_let (v := iv (((w13.getD []).length : Nat) : Int)) (O36.tab (A := Pair) (s := w13) 1 rfl).len ?_
                    refine sim_let (v := iv (wr ((((w13.getD []).length : Nat) : Int) - 1))) (aBin_sub _ _) ?_
                    refine sim_get (O36.tab (A := Pair) (s := w13) 1 rfl) (fun m50 a49 hi51 hm52 => ?_)
                    refine sim_let (v := AV.agg [iv a49.i, iv a49.j]) ((O36.tab (A := Pair) (s := w13) 1 rfl).ld hm52 true 2 0) ?_
                    refine sim_let (v := AV.agg [iv (wr (w16 + 1)), iv (wr (w17 + 1))]) (by first | rfl | simp [aBuild, aFill, splice]) ?_
                    refine sim_let (v := bv (!decide (a49 = (⟨wr (w16 + 1), wr (w17 + 1)⟩ : Pair)))) (aCmp_Pair a49 (⟨wr (w16 + 1), wr (w17 + 1)⟩ : Pair)).2 ?_
                    refine sim_cond (fun c53 => ?_) (fun c53 => ?_)
                    · refine sim_let (v := AV.agg [iv (wr (w16 + 1)), iv (wr (w17 + 1))]) (by first | rfl | simp [aBuild, aFill, splice]) ?_
                      refine sim_build (A := Pair) O36 ([(⟨wr (w16 + 1), wr (w17 + 1)⟩ : Pair)] : List Pair) rfl (by first | rfl | simp [aFillRows, zrows]) rfl (fun x54 h55 O56 => ?_)
                      replace O56 : Hold B h55 [(AV.ptr o1 1 0 0, .pt 3 [Sl.enc c31.2.code, iv c31.2.pos, AV.sc (.int .u64 c31.2.seed)]), (z12, obS (w13 : Sl Pair)), (x54, obS ((some ([(⟨wr (w16 + 1), wr (w17 + 1)⟩ : Pair)] : List Pair)) : Sl Pair))] := O56
                      refine sim_append (A := Pair) (s := w13) O56 1 ([(⟨wr (w16 + 1), wr (w17 + 1)⟩ : Pair)] : List Pair) rfl (O56.src (A := Pair) (s := (some ([(⟨wr (w16 + 1), wr (w17 + 1)⟩ : Pair)] : List Pair))) 2 rfl) (by decide) (fun x59 h60 O61 => ?_)
                      replace O61 : Hold B h60 [(AV.ptr o1 1 0 0, .pt 3 [Sl.enc c31.2.code, iv c31.2.pos, AV.sc (.int .u64 c31.2.seed)]), (x59, obS ((appS w13 ([(⟨wr (w16 + 1), wr (w17 + 1)⟩ : Pair)] : List Pair)) : Sl Pair)), (x54, obS ((some ([(⟨wr (w16 + 1), wr (w17 + 1)⟩ : Pair)] : List Pair)) : Sl Pair))] := O61
                      have O63 : Hold B h60 [(AV.ptr o1 1 0 0, .pt 3 [Sl.enc c31.2.code, iv c31.2.pos, AV.sc (.int .u64 c31.2.seed)]), (x59, obS ((appS w13 ([(⟨wr (w16 + 1), wr (w17 + 1)⟩ : Pair)] : List Pair)) : Sl Pair))] := O61.sel [0, 1] (by decide) rfl
                      exact sim_ret ⟨rfl, _, rfl, O63⟩
                    · exact sim_ret ⟨rfl, _, rfl, O36⟩
                  · refine sim_let (v := iv (((w13.getD []).length : Nat) : Int)) (O36.tab (A := Pair) (s := w13) 1 rfl).len ?_
                    refine sim_let (v := iv (wr ((((w13.getD []).length : Nat) : Int) - 1))) (aBin_sub _ _) ?_
                    refine sim_get (O36.tab (A := Pair) (s := w13) 1 rfl) (fun m67 a66 hi68 hm69 => ?_)
                    refine sim_let (v := AV.agg [iv a66.i, iv a66.j]) ((O36.tab (A := Pair) (s := w13) 1 rfl).ld hm69 true 2 0) ?_
                    refine sim_let (v := AV.agg [iv (wr (w16 + 1)), iv w17]) (by first | rfl | simp [aBuild, aFill, splice]) ?_
                    refine sim_let (v := bv (!decide (a66 = (⟨wr (w16 + 1), w17⟩ : Pair)))) (aCmp_Pair a66 (⟨wr (w16 + 1), w17⟩ : Pair)).2 ?_
                    refine sim_cond (fun c70 => ?_) (fun c70 => ?_)
                    · refine sim_let (v := AV.agg [iv (wr (w16 + 1)), iv w17]) (by first | rfl | simp [aBuild, aFill, splice]) ?_
                      refine sim_build (A := Pair) O36 ([(⟨wr (w16 + 1), w17⟩ : Pair)] : List Pair) rfl (by first | rfl | simp [aFillRows, zrows]) rfl (fun x71 h72 O73 => ?_)
                      replace O73 : Hold B h72 [(AV.ptr o1 1 0 0, .pt 3 [Sl.enc c31.2.code, iv c31.2.pos, AV.sc (.int .u64 c31.2.seed)]), (z12, obS (w13 : Sl Pair)), (x71, obS ((some ([(⟨wr (w16 + 1), w17⟩ : Pair)] : List Pair)) : Sl Pair))] := O73
                      refine sim_append (A := Pair) (s := w13) O73 1 ([(⟨wr (w16 + 1), w17⟩ : Pair)] : List Pair) rfl (O73.src (A := Pair) (s := (some ([(⟨wr (w16 + 1), w17⟩ : Pair)] : List Pair))) 2 rfl) (by decide) (fun x76 h77 O78 => ?_)
                      replace O78 : Hold B h77 [(AV.ptr o1 1 0 0, .pt 3 [Sl.enc c31.2.code, iv c31.2.pos, AV.sc (.int .u64 c31.2.seed)]), (x76, obS ((appS w13 ([(⟨wr (w16 + 1), w17⟩ : Pair)] : List Pair)) : Sl Pair)), (x71, obS ((some ([(⟨wr (w16 + 1), w17⟩ : Pair)] : List Pair)) : Sl Pair))] := O78
                      have O80 : Hold B h77 [(AV.ptr o1 1 0 0, .pt 3 [Sl.enc c31.2.code, iv c31.2.pos, AV.sc (.int .u64 c31.2.seed)]), (x76, obS ((appS w13 ([(⟨wr (w16 + 1), w17⟩ : Pair)] : List Pair)) : Sl Pair))] := O78.sel [0, 1] (by decide) rfl
                      exact sim_ret ⟨rfl, _, rfl, O80⟩
                    · exact sim_ret ⟨rfl, _, rfl, O36⟩
            · refine sim_let (v := bv (!decide (c31.1 = 0))) (aCmp_ne _ _) ?_
              refine sim_guardF (e := bv) (fun hb83 => ?_) (fun c84 => ?_)
              · refine sim_let (v := iv (wr (n_ - 1))) (aBin_sub _ _) ?_
                refine sim_let (v := bv (decide (w16 = wr (n_ - 1)))) (aCmp_eq _ _) ?_
                exact sim_ret rfl
              · refine sim_let (v := bv (bif !decide (c31.1 = 0) then true else c84)) (pick_b' _ _ _) ?_
                refine sim_guardT (e := bv) (fun hb85 => ?_) (fun c86 => ?_)
                · refine sim_let (v := iv (wr (m_ - 1))) (aBin_sub _ _) ?_
                  refine sim_let (v := bv (decide (w17 < (wr (m_ - 1))))) (aBin_lss _ _) ?_
                  exact sim_ret rfl
                · refine sim_let (v := bv (bif (bif !decide (c31.1 = 0) then true else c84) then c86 else false)) (pick_b _ _ _) ?_
                  refine sim_cond (fun c87 => ?_) (fun c87 => ?_)
                  · refine sim_let (v := iv (wr (w17 + 1))) (aBin_add _ _) ?_
                    refine sim_let (v := iv (((w13.getD []).length : Nat) : Int)) (O36.tab (A := Pair) (s := w13) 1 rfl).len ?_
                    refine sim_let (v := iv (wr ((((w13.getD []).length : Nat) : Int) - 1))) (aBin_sub _ _) ?_
                    refine sim_get (O36.tab (A := Pair) (s := w13) 1 rfl) (fun m89 a88 hi90 hm91 => ?_)
                    refine sim_let (v := AV.agg [iv a88.i, iv a88.j]) ((O36.tab (A := Pair) (s := w13) 1 rfl).ld hm91 true 2 0) ?_
                    refine sim_let (v := AV.agg [iv w16, iv (wr (w17 + 1))]) (by first | rfl | simp [aBuild, aFill, splice]) ?_
                    refine sim_let (v := bv (!decide (a88 = (⟨w16, wr (w17 + 1)⟩ : Pair)))) (aCmp_Pair a88 (⟨w16, wr (w17 + 1)⟩ : Pair)).2 ?_
                    refine sim_cond (fun c92 => ?_) (fun c92 => ?_)
                    · refine sim_let (v := AV.agg [iv w16, iv (wr (w17 + 1))]) (by first | rfl | simp [aBuild, aFill, splice]) ?_
                      refine sim_build (A := Pair) O36 ([(⟨w16, wr (w17 + 1)⟩ : Pair)] : List Pair) rfl (by first | rfl | simp [aFillRows, zrows]) rfl (fun x93 h94 O95 => ?_)
                      replace O95 : Hold B h94 [(AV.ptr o1 1 0 0, .pt 3 [Sl.enc c31.2.code, iv c31.2.pos, AV.sc (.int .u64 c31.2.seed)]), (z12, obS (w13 : Sl Pair)), (x93, obS ((some ([(⟨w16, wr (w17 + 1)⟩ : Pair)] : List Pair)) : Sl Pair))] := O95
                      refine sim_append (A := Pair) (s := w13) O95 1 ([(⟨w16, wr (w17 + 1)⟩ : Pair)] : List Pair) rfl (O95.src (A := Pair) (s := (some ([(⟨w16, wr (w17 + 1)⟩ : Pair)] : List Pair))) 2 rfl) (by decide) (fun x98 h99 O100 => ?_)
                      replace O100 : Hold B h99 [(AV.ptr o1 1 0 0, .pt 3 [Sl.enc c31.2.code, iv c31.2.pos, AV.sc (.int .u64 c31.2.seed)]), (x98, obS ((appS w13 ([(⟨w16, wr (w17 + 1)⟩ : Pair)] : List Pair)) : Sl Pair)), (x93, obS ((some ([(⟨w16, wr (w17 + 1)⟩ : Pair)] : List Pair)) : Sl Pair))] := O100
                      have O102 : Hold B h99 [(AV.ptr o1 1 0 0, .pt 3 [Sl.enc c31.2.code, iv c31.2.pos, AV.sc (.int .u64 c31.2.seed)]), (x98, obS ((appS w13 ([(⟨w16, wr (w17 + 1)⟩ : Pair)] : List Pair)) : Sl Pair))] := O100.sel [0, 1] (by decide) rfl
                      exact sim_ret ⟨rfl, _, rfl, O102⟩
                    · exact sim_ret ⟨rfl, _, rfl, O36⟩
                  · refine sim_let (v := iv (((w13.getD []).length : Nat) : Int)) (O36.tab (A := Pair) (s := w13) 1 rfl).len ?_
                    refine sim_let (v := iv (wr ((((w13.getD []).length : Nat) : Int) - 1))) (aBin_sub _ _) ?_
                    refine sim_get (O36.tab (A := Pair) (s := w13) 1 rfl) (fun m106 a105 hi107 hm108 => ?_)
                    refine sim_let (v := AV.agg [iv a105.i, iv a105.j]) ((O36.tab (A := Pair) (s := w13) 1 rfl).ld hm108 true 2 0) ?_
                    refine sim_let (v := AV.agg [iv w16, iv w17]) (by first | rfl | simp [aBuild, aFill, splice]) ?_
                    refine sim_let (v := bv (!decide (a105 = (⟨w16, w17⟩ : Pair)))) (aCmp_Pair a105 (⟨w16, w17⟩ : Pair)).2 ?_
                    refine sim_cond (fun c109 => ?_) (fun c109 => ?_)
                    · refine sim_let (v := AV.agg [iv w16, iv w17]) (by first | rfl | simp [aBuild, aFill, splice]) ?_
                      refine sim_build (A := Pair) O36 ([(⟨w16, w17⟩ : Pair)] : List Pair) rfl (by first | rfl | simp [aFillRows, zrows]) rfl (fun x110 h111 O112 => ?_)
                      replace O112 : Hold B h111 [(AV.ptr o1 1 0 0, .pt 3 [Sl.enc c31.2.code, iv c31.2.pos, AV.sc (.int .u64 c31.2.seed)]), (z12, obS (w13 : Sl Pair)), (x110, obS ((some ([(⟨w16, w17⟩ : Pair)] : List Pair)) : Sl Pair))] := O112
                      refine sim_append (A := Pair) (s := w13) O112 1 ([(⟨w16, w17⟩ : Pair)] : List Pair) rfl (O112.src (A := Pair) (s := (some ([(⟨w16, w17⟩ : Pair)] : List Pair))) 2 rfl) (by decide) (fun x115 h116 O117 => ?_)
                      replace O117 : Hold B h116 [(AV.ptr o1 1 0 0, .pt 3 [Sl.enc c31.2.code, iv c31.2.pos, AV.sc (.int .u64 c31.2.seed)]), (x115, obS ((appS w13 ([(⟨w16, w17⟩ : Pair)] : List Pair)) : Sl Pair)), (x110, obS ((some ([(⟨w16, w17⟩ : Pair)] : List Pair)) : Sl Pair))] := O117
                      have O119 : Hold B h116 [(AV.ptr o1 1 0 0, .pt 3 [Sl.enc c31.2.code, iv c31.2.pos, AV.sc (.int .u64 c31.2.seed)]), (x115, obS ((appS w13 ([(⟨w16, w17⟩ : Pair)] : List Pair)) : Sl Pair))] := O117.sel [0, 1] (by decide) rfl
                      exact sim_ret ⟨rfl, _, rfl, O119⟩
                    · exact sim_ret ⟨rfl, _, rfl, O36⟩
    · exact sim_ret ⟨nofun, _, _, _, _, _, _, _, _, rfl, O15⟩
theorem ts_spec_A2Path (env : Nat → Contract) (he_spec_l00From : env n_spec_l00From = .pure (C1 fromA (fun q : Sl UInt8 => some q))) (he_spec_l00Src_pick : env n_spec_l00Src_pick = .gen (denFn Try.prog ev_spec_l00Src_pick n_spec_l00Src_pick)) (code_ : Sl UInt8) (n_ : Int) (m_ : Int) : Sim (denFn Try.prog env n_spec_A2Path [Sl.enc code_, iv n_, iv m_] []) (t_spec_A2Path code_ n_ m_) fun c p => release p.2 depth p.1 = some ((fun c : (Sl Pair) => rS c) c) := by
  have O := Hold.nil []
  generalize hB : (⟨[], []⟩ : Base) = B at O
  clear hB
  rw [e_spec_A2Path]
  unfold t_spec_A2Path
  refine sim_src O he_spec_l00From (snapD_enc _ _) (by first | rfl | exact noRef_enc _) (fun o1 h2 O3 => ?_)
  replace O3 : Hold B h2 [(AV.ptr o1 1 0 0, .pt 3 [Sl.enc code_, iv 0, AV.sc (.int .u64 0)])] := O3
  refine sim_let (v := AV.agg [iv 0, iv 0]) (by first | rfl | simp [aBuild, aFill, splice]) ?_
  refine sim_build (A := Pair) O3 ([(⟨0, 0⟩ : Pair)] : List Pair) rfl (by first | rfl | simp [aFillRows, zrows]) rfl (fun x5 h6 O7 => ?_)
  replace O7 : Hold B h6 [(AV.ptr o1 1 0 0, .pt 3 [Sl.enc code_, iv 0, AV.sc (.int .u64 0)]), (x5, obS ((some ([(⟨0, 0⟩ : Pair)] : List Pair)) : Sl Pair))] := O7
  refine sim_bind ((tl0_spec_A2Path env he_spec_l00From he_spec_l00Src_pick code_ n_ m_ o1 x5) ⟨_, rfl, O7⟩) (fun qq124 r hq => ?_)
  revert hq
  revert qq124
  intro q24 hq
  obtain ⟨q20, q21, q22, q25, q26, z23, z27, h18, rfl, O19⟩ := hq
  rw [e_lk0x0_spec_A2Path]
  exact sim_ret (O19.rel (A := Pair) (s := q24) 1 rfl)
theorem tt_spec_A2Path : PureOK Try.prog n_spec_A2Path (C3 (fun c : (Sl Pair) => rS c) t_spec_A2Path) := pureC3 (Econs tt_spec_l00From (EconsG (gen_of_den eo_spec_l00Src_pick mixed hb_spec_l00Src_pick) E0)) mixed hb_spec_A2Path fun code_ n_ m_ => ts_spec_A2Path _ (by simp [envL]) (by simp [envL]) code_ n_ m_

def s0_impl_ValidPath (path_ : Sl Pair) (band_ : Int) : Int → Option (Sum Int (Sum Unit Bool)) := fun w16 =>
  bif decide (w16 < (((path_.getD []).length : Nat) : Int)) then
    obind (getI (path_.getD []) w16) fun a32 =>
    bif decide (0 < w16) then
      obind (getI (path_.getD []) (wr (w16 - 1))) fun a43 =>
      obind (getI (path_.getD []) (wr (w16 - 1))) fun a47 =>
      obind (some (within (wr (a32.i - a43.i)) 0 1)) fun c51 =>
      obind (bif !c51 then some false else (obind (some (within (wr (a32.j - a47.j)) 0 1)) fun c53 => some (!c53))) fun c54 =>
      obind (bif (bif !c51 then true else c54) then some false else (some (decide (wr ((wr (a32.i - a43.i)) + (wr (a32.j - a47.j))) = 0)))) fun c56 =>
      bif (bif (bif !c51 then true else c54) then true else c56) then
        some (.inr (.inr false))
      else
        obind (some (within (wr (a32.i - a32.j)) (wr (0 - band_)) band_)) fun c59 =>
        bif !c59 then
          some (.inr (.inr false))
        else
          some (.inl (wr (w16 + 1)))
    else
      obind (some (within (wr (a32.i - a32.j)) (wr (0 - band_)) band_)) fun c63 =>
      bif !c63 then
        some (.inr (.inr false))
      else
        some (.inl (wr (w16 + 1)))
  else
    some (.inr (.inl ()))
def t_impl_ValidPath (path_ : Sl Pair) (n_ : Int) (m_ : Int) (band_ : Int) : Option Bool :=
  obind (bif decide ((((path_.getD []).length : Nat) : Int) = 0) then some false else (obind (getI (path_.getD []) 0) fun a2 => some (!decide (a2 = (⟨0, 0⟩ : Pair))))) fun c6 =>
  obind (bif (bif decide ((((path_.getD []).length : Nat) : Int) = 0) then true else c6) then some false else (obind (getI (path_.getD []) (wr ((((path_.getD []).length : Nat) : Int) - 1))) fun a8 => some (!decide (a8 = (⟨wr (n_ - 1), wr (m_ - 1)⟩ : Pair))))) fun c12 =>
  bif (bif (bif decide ((((path_.getD []).length : Nat) : Int) = 0) then true else c6) then true else c12) then
    some false
  else
    obind (loopT (s0_impl_ValidPath path_ band_) 0) fun qq69 => match qq69 with
    | (.inl _) =>
        some true
    | (.inr q26) =>
        some q26

theorem tl0_impl_ValidPath (env : Nat → Contract) {B : Base} (he_impl_within : env n_impl_within = .pure (T3 within)) (path_ : Sl Pair) (n_ : Int) (m_ : Int) (band_ : Int) (c6 : Bool) (c12 : Bool)  {st : Int} {tm : TM} {h : Heap} (R : (fun (st : Int) tm h14 => match st with | w16 => tm = ((Sl.enc path_) :: (iv n_) :: (iv m_) :: (iv band_) :: und :: und :: und :: und :: AV.top :: AV.top :: AV.top :: AV.top :: AV.top :: (Sl.enc path_) :: (iv (((path_.getD []).length : Nat) : Int)) :: (bv (decide ((((path_.getD []).length : Nat) : Int) = 0))) :: (bv (decide ((((path_.getD []).length : Nat) : Int) = 0))) :: AV.top :: AV.top :: AV.top :: AV.top :: (cond (decide ((((path_.getD []).length : Nat) : Int) = 0)) und (bv c6)) :: (bv (bif decide ((((path_.getD []).length : Nat) : Int) = 0) then true else c6)) :: (bv (bif decide ((((path_.getD []).length : Nat) : Int) = 0) then true else c6)) :: AV.top :: AV.top :: AV.top :: AV.top :: AV.top :: AV.top :: AV.top :: AV.top :: AV.top :: AV.top :: AV.top :: (cond (bif decide ((((path_.getD []).length : Nat) : Int) = 0) then true else c6) und (bv c12)) :: (bv (bif (bif decide ((((path_.getD []).length : Nat) : Int) = 0) then true else c6) then true else c12)) :: (Sl.enc path_) :: (iv (((path_.getD []).length : Nat) : Int)) :: (iv w16) :: AV.top :: AV.top :: AV.top :: AV.top :: AV.top :: AV.top :: AV.top :: AV.top :: AV.top :: AV.top :: AV.top :: AV.top :: AV.top :: AV.top :: AV.top :: AV.top :: AV.top :: AV.top :: AV.top :: AV.top :: AV.top :: AV.top :: AV.top :: AV.top :: AV.top :: AV.top :: AV.top :: AV.top :: AV.top :: AV.top :: AV.top :: AV.top :: AV.top :: AV.top :: AV.top :: AV.top :: AV.top :: AV.top :: AV.top :: AV.top :: AV.top :: AV.top :: AV.top :: AV.top :: AV.top :: AV.top :: AV.top :: AV.top :: AV.top :: []) ∧ Hold B h14 []) st tm h) : Sim (loopP hm0_impl_ValidPath xm0_impl_ValidPath (lb0_impl_ValidPath env) tm h) (loopT (s0_impl_ValidPath path_ band_) st) (fun (q : Sum Unit Bool) (r : Res) => match q with | .inl _ => ∃ (z19 : AV) (z20 : AV) (z21 : AV) (z22 : AV) (z23 : AV) (h17 : Heap), r = (.exit 0, ((Sl.enc path_) :: (iv n_) :: (iv m_) :: (iv band_) :: und :: und :: und :: und :: z19 :: z20 :: z21 :: z22 :: z23 :: (Sl.enc path_) :: (iv (((path_.getD []).length : Nat) : Int)) :: (bv (decide ((((path_.getD []).length : Nat) : Int) = 0))) :: (bv (decide ((((path_.getD []).length : Nat) : Int) = 0))) :: AV.top :: AV.top :: AV.top :: AV.top :: (cond (decide ((((path_.getD []).length : Nat) : Int) = 0)) und (bv c6)) :: (bv (bif decide ((((path_.getD []).length : Nat) : Int) = 0) then true else c6)) :: (bv (bif decide ((((path_.getD []).length : Nat) : Int) = 0) then true else c6)) :: AV.top :: AV.top :: AV.top :: AV.top :: AV.top :: AV.top :: AV.top :: AV.top :: AV.top :: AV.top :: AV.top :: (cond (bif decide ((((path_.getD []).length : Nat) : Int) = 0) then true else c6) und (bv c12)) :: (bv (bif (bif decide ((((path_.getD []).length : Nat) : Int) = 0) then true else c6) then true else c12)) :: (Sl.enc path_) :: (iv (((path_.getD []).length : Nat) : Int)) :: AV.top :: AV.top :: AV.top :: AV.top :: AV.top :: AV.top :: AV.top :: AV.top :: AV.top :: AV.top :: AV.top :: AV.top :: AV.top :: AV.top :: AV.top :: AV.top :: AV.top :: AV.top :: AV.top :: AV.top :: AV.top :: AV.top :: AV.top :: AV.top :: AV.top :: AV.top :: AV.top :: AV.top :: AV.top :: AV.top :: AV.top :: AV.top :: AV.top :: AV.top :: AV.top :: AV.top :: AV.top :: AV.top :: AV.top :: AV.top :: AV.top :: AV.top :: AV.top :: AV.top :: AV.top :: AV.top :: AV.top :: AV.top :: AV.top :: AV.top :: []), h17) ∧ Hold B h17 [] | .inr q26 => ∃ (q27 : Int) (z28 : AV) (z29 : AV) (z30 : AV) (h24 : Heap), r = (.ret, ((Sl.enc path_) :: (iv n_) :: (iv m_) :: (iv band_) :: und :: und :: und :: und :: (bv q26) :: (iv q27) :: z28 :: z29 :: z30 :: (Sl.enc path_) :: (iv (((path_.getD []).length : Nat) : Int)) :: (bv (decide ((((path_.getD []).length : Nat) : Int) = 0))) :: (bv (decide ((((path_.getD []).length : Nat) : Int) = 0))) :: AV.top :: AV.top :: AV.top :: AV.top :: (cond (decide ((((path_.getD []).length : Nat) : Int) = 0)) und (bv c6)) :: (bv (bif decide ((((path_.getD []).length : Nat) : Int) = 0) then true else c6)) :: (bv (bif decide ((((path_.getD []).length : Nat) : Int) = 0) then true else c6)) :: AV.top :: AV.top :: AV.top :: AV.top :: AV.top :: AV.top :: AV.top :: AV.top :: AV.top :: AV.top :: AV.top :: (cond (bif decide ((((path_.getD []).length : Nat) : Int) = 0) then true else c6) und (bv c12)) :: (bv (bif (bif decide ((((path_.getD []).length : Nat) : Int) = 0) then true else c6) then true else c12)) :: (Sl.enc path_) :: (iv (((path_.getD []).length : Nat) : Int)) :: AV.top :: AV.top :: AV.top :: AV.top :: AV.top :: AV.top :: AV.top :: AV.top :: AV.top :: AV.top :: AV.top :: AV.top :: AV.top :: AV.top :: AV.top :: AV.top :: AV.top :: AV.top :: AV.top :: AV.top :: AV.top :: AV.top :: AV.top :: AV.top :: AV.top :: AV.top :: AV.top :: AV.top :: AV.top :: AV.top :: AV.top :: AV.top :: AV.top :: AV.top :: AV.top :: AV.top :: AV.top :: AV.top :: AV.top :: AV.top :: AV.top :: AV.top :: AV.top :: AV.top :: AV.top :: AV.top :: AV.top :: AV.top :: AV.top :: AV.top :: []), h24) ∧ Hold B h24 []) := by
  refine loop_sim (Rel := fun (st : Int) tm h14 => match st with | w16 => tm = ((Sl.enc path_) :: (iv n_) :: (iv m_) :: (iv band_) :: und :: und :: und :: und :: AV.top :: AV.top :: AV.top :: AV.top :: AV.top :: (Sl.enc path_) :: (iv (((path_.getD []).length : Nat) : Int)) :: (bv (decide ((((path_.getD []).length : Nat) : Int) = 0))) :: (bv (decide ((((path_.getD []).length : Nat) : Int) = 0))) :: AV.top :: AV.top :: AV.top :: AV.top :: (cond (decide ((((path_.getD []).length : Nat) : Int) = 0)) und (bv c6)) :: (bv (bif decide ((((path_.getD []).length : Nat) : Int) = 0) then true else c6)) :: (bv (bif decide ((((path_.getD []).length : Nat) : Int) = 0) then true else c6)) :: AV.top :: AV.top :: AV.top :: AV.top :: AV.top :: AV.top :: AV.top :: AV.top :: AV.top :: AV.top :: AV.top :: (cond (bif decide ((((path_.getD []).length : Nat) : Int) = 0) then true else c6) und (bv c12)) :: (bv (bif (bif decide ((((path_.getD []).length : Nat) : Int) = 0) then true else c6) then true else c12)) :: (Sl.enc path_) :: (iv (((path_.getD []).length : Nat) : Int)) :: (iv w16) :: AV.top :: AV.top :: AV.top :: AV.top :: AV.top :: AV.top :: AV.top :: AV.top :: AV.top :: AV.top :: AV.top :: AV.top :: AV.top :: AV.top :: AV.top :: AV.top :: AV.top :: AV.top :: AV.top :: AV.top :: AV.top :: AV.top :: AV.top :: AV.top :: AV.top :: AV.top :: AV.top :: AV.top :: AV.top :: AV.top :: AV.top :: AV.top :: AV.top :: AV.top :: AV.top :: AV.top :: AV.top :: AV.top :: AV.top :: AV.top :: AV.top :: AV.top :: AV.top :: AV.top :: AV.top :: AV.top :: AV.top :: AV.top :: AV.top :: []) ∧ Hold B h14 []) (fun w16 tm h14 R => ?_) R
  obtain ⟨rfl, O15⟩ := R
  rw [e_lb0_impl_ValidPath]
  unfold s0_impl_ValidPath
  dsimp only
  refine sim_let (v := bv (decide (w16 < (((path_.getD []).length : Nat) : Int)))) (aBin_lss _ _) ?_
  refine sim_cond (fun c31 => ?_) (fun c31 => ?_)
  · refine sim_get (Tab.enc h14 path_) (fun m33 a32 hi34 hm35 => ?_)
    refine sim_let (v := AV.agg [iv a32.i, iv a32.j]) ((Tab.enc h14 path_).ld hm35 true 2 0) ?_
    refine sim_box O15 (cs := [iv 0, iv 0]) (by first | rfl | simp) (fun o36 h37 O38 => ?_)
    replace O38 : Hold B h37 [(AV.ptr o36 1 0 0, .pt 2 [iv 0, iv 0])] := O38
    refine sim_store O38 0 (cs' := [iv a32.i, iv a32.j]) rfl (by first | rfl | simp) (by simp) (by first | rfl | simp) (by first | rfl | simp [splice]) (fun h40 O41 => ?_)
    replace O41 : Hold B h40 [(AV.ptr o36 1 0 0, .pt 2 [iv a32.i, iv a32.j])] := O41
    refine sim_let (v := bv (decide (0 < w16))) (aBin_gtr _ _) ?_
    refine sim_cond (fun c42 => ?_) (fun c42 => ?_)
    · refine sim_let (v := AV.ptr o36 1 0 0) rfl ?_
      refine sim_let (v := iv a32.i) (O41.ld 0 rfl false 1 0) ?_
      refine sim_let (v := iv (wr (w16 - 1))) (aBin_sub _ _) ?_
      refine sim_get (Tab.enc h40 path_) (fun m44 a43 hi45 hm46 => ?_)
      refine sim_let (v := elp (Sl.enc path_) m44 0) ((Tab.enc h40 path_).fld _ _ _) ?_
      refine sim_let (v := iv a43.i) ((Tab.enc h40 path_).ld hm46 false 1 0) ?_
      refine sim_let (v := iv (wr (a32.i - a43.i))) (aBin_sub _ _) ?_
      refine sim_let (v := AV.ptr o36 1 0 1) rfl ?_
      refine sim_let (v := iv a32.j) (O41.ld 0 rfl false 1 1) ?_
      refine sim_let (v := iv (wr (w16 - 1))) (aBin_sub _ _) ?_
      refine sim_get (Tab.enc h40 path_) (fun m48 a47 hi49 hm50 => ?_)
      refine sim_let (v := elp (Sl.enc path_) m48 1) ((Tab.enc h40 path_).fld _ _ _) ?_
      refine sim_let (v := iv a47.j) ((Tab.enc h40 path_).ld hm50 false 1 1) ?_
      refine sim_let (v := iv (wr (a32.j - a47.j))) (aBin_sub _ _) ?_
      refine sim_callV3 (t := within) he_impl_within (snapD_int _ _) (snapD_int _ _) (snapD_int _ _) (fun c51 => ?_)
      refine sim_let (v := bv (!c51)) (aUn_not _) ?_
      refine sim_guardF (e := bv) (fun hb52 => ?_) (fun c54 => ?_)
      · refine sim_callV3 (t := within) he_impl_within (snapD_int _ _) (snapD_int _ _) (snapD_int _ _) (fun c53 => ?_)
        refine sim_let (v := bv (!c53)) (aUn_not _) ?_
        exact sim_ret rfl
      · refine sim_let (v := bv (bif !c51 then true else c54)) (pick_b' _ _ _) ?_
        refine sim_guardF (e := bv) (fun hb55 => ?_) (fun c56 => ?_)
        · refine sim_let (v := iv (wr ((wr (a32.i - a43.i)) + (wr (a32.j - a47.j))))) (aBin_add _ _) ?_
          refine sim_let (v := bv (decide (wr ((wr (a32.i - a43.i)) + (wr (a32.j - a47.j))) = 0))) (aCmp_eq _ _) ?_
          exact sim_ret rfl
        · refine sim_let (v := bv (bif (bif !c51 then true else c54) then true else c56)) (pick_b' _ _ _) ?_
          refine sim_cond (fun c57 => ?_) (fun c57 => ?_)
          · have O58 : Hold B h40 [] := O41.sel [] (by decide) rfl
            exact sim_ret ⟨nofun, _, _, _, _, _, rfl, O58⟩
          · refine sim_let (v := AV.ptr o36 1 0 0) rfl ?_
            refine sim_let (v := iv a32.i) (O41.ld 0 rfl false 1 0) ?_
            refine sim_let (v := AV.ptr o36 1 0 1) rfl ?_
            refine sim_let (v := iv a32.j) (O41.ld 0 rfl false 1 1) ?_
            refine sim_let (v := iv (wr (a32.i - a32.j))) (aBin_sub _ _) ?_
            refine sim_let (v := iv (wr (0 - band_))) (aUn_neg _) ?_
            refine sim_callV3 (t := within) he_impl_within (snapD_int _ _) (snapD_int _ _) (snapD_int _ _) (fun c59 => ?_)
            refine sim_let (v := bv (!c59)) (aUn_not _) ?_
            refine sim_cond (fun c60 => ?_) (fun c60 => ?_)
            · have O61 : Hold B h40 [] := O41.sel [] (by decide) rfl
              exact sim_ret ⟨nofun, _, _, _, _, _, rfl, O61⟩
            · refine sim_let (v := iv (wr (w16 + 1))) (aBin_add _ _) ?_
              have O62 : Hold B h40 [] := O41.sel [] (by decide) rfl
              exact sim_ret ⟨rfl, rfl, O62⟩
    · refine sim_let (v := AV.ptr o36 1 0 0) rfl ?_
      refine sim_let (v := iv a32.i) (O41.ld 0 rfl false 1 0) ?_
      refine sim_let (v := AV.ptr o36 1 0 1) rfl ?_
      refine sim_let (v := iv a32.j) (O41.ld 0 rfl false 1 1) ?_
      refine sim_let (v := iv (wr (a32.i - a32.j))) (aBin_sub _ _) ?_
      refine sim_let (v := iv (wr (0 - band_))) (aUn_neg _) ?_
      refine sim_callV3 (t := within) he_impl_within (snapD_int _ _) (snapD_int _ _) (snapD_int _ _) (fun c63 => ?_)
      refine sim_let (v := bv (!c63)) (aUn_not _) ?_
      refine sim_cond (fun c64 => ?_) (fun c64 => ?_)
      · have O65 : Hold B h40 [] := O41.sel [] (by decide) rfl
        exact sim_ret ⟨nofun, _, _, _, _, _, rfl, O65⟩
      · refine sim_let (v := iv (wr (w16 + 1))) (aBin_add _ _) ?_
        have O66 : Hold B h40 [] := O41.sel [] (by decide) rfl
        exact sim_ret ⟨rfl, rfl, O66⟩
  · exact sim_ret ⟨nofun, _, _, _, _, _, _, rfl, O15⟩
theorem ts_impl_ValidPath (env : Nat → Contract) (he_impl_within : env n_impl_within = .pure (T3 within)) (path_ : Sl Pair) (n_ : Int) (m_ : Int) (band_ : Int) : Sim (denFn Try.prog env n_impl_ValidPath [Sl.enc path_, iv n_, iv m_, iv band_] []) (t_impl_ValidPath path_ n_ m_ band_) fun c p => release p.2 depth p.1 = some ((fun c : Bool => enc c) c) := by
  have O := Hold.nil []
  generalize hB : (⟨[], []⟩ : Base) = B at O
  clear hB
  rw [e_impl_ValidPath]
  unfold t_impl_ValidPath
  refine sim_let (v := iv (((path_.getD []).length : Nat) : Int)) (Tab.enc [] path_).len ?_
  refine sim_let (v := bv (decide ((((path_.getD []).length : Nat) : Int) = 0))) (aCmp_eq _ _) ?_
  refine sim_guardF (e := bv) (fun hb1 => ?_) (fun c6 => ?_)
  · refine sim_get (Tab.enc [] path_) (fun m3 a2 hi4 hm5 => ?_)
    refine sim_let (v := AV.agg [iv a2.i, iv a2.j]) ((Tab.enc [] path_).ld hm5 true 2 0) ?_
    refine sim_let (v := AV.agg [iv 0, iv 0]) (by first | rfl | simp [aBuild, aFill, splice]) ?_
    refine sim_let (v := bv (!decide (a2 = (⟨0, 0⟩ : Pair)))) (aCmp_Pair a2 (⟨0, 0⟩ : Pair)).2 ?_
    exact sim_ret rfl
  · refine sim_let (v := bv (bif decide ((((path_.getD []).length : Nat) : Int) = 0) then true else c6)) (pick_b' _ _ _) ?_
    refine sim_guardF (e := bv) (fun hb7 => ?_) (fun c12 => ?_)
    · refine sim_let (v := iv (((path_.getD []).length : Nat) : Int)) (Tab.enc [] path_).len ?_
      refine sim_let (v := iv (wr ((((path_.getD []).length : Nat) : Int) - 1))) (aBin_sub _ _) ?_
      refine sim_get (Tab.enc [] path_) (fun m9 a8 hi10 hm11 => ?_)
      refine sim_let (v := AV.agg [iv a8.i, iv a8.j]) ((Tab.enc [] path_).ld hm11 true 2 0) ?_
      refine sim_let (v := iv (wr (n_ - 1))) (aBin_sub _ _) ?_
      refine sim_let (v := iv (wr (m_ - 1))) (aBin_sub _ _) ?_
      refine sim_let (v := AV.agg [iv (wr (n_ - 1)), iv (wr (m_ - 1))]) (by first | rfl | simp [aBuild, aFill, splice]) ?_
      refine sim_let (v := bv (!decide (a8 = (⟨wr (n_ - 1), wr (m_ - 1)⟩ : Pair)))) (aCmp_Pair a8 (⟨wr (n_ - 1), wr (m_ - 1)⟩ : Pair)).2 ?_
      exact sim_ret rfl
    · refine sim_let (v := bv (bif (bif decide ((((path_.getD []).length : Nat) : Int) = 0) then true else c6) then true else c12)) (pick_b' _ _ _) ?_
      refine sim_cond (fun c13 => ?_) (fun c13 => ?_)
      · exact sim_ret (release_plain (by rfl) _)
      · refine sim_let (v := iv (((path_.getD []).length : Nat) : Int)) (Tab.enc [] path_).len ?_
        refine sim_bind ((tl0_impl_ValidPath env he_impl_within path_ n_ m_ band_ c6 c12) ⟨rfl, O⟩) (fun qq69 r hq => ?_)
        rcases qq69 with _ | q26
        · obtain ⟨z19, z20, z21, z22, z23, h17, rfl, O18⟩ := hq
          rw [e_lk0x0_impl_ValidPath]
          exact sim_ret (release_plain (by rfl) _)
        · obtain ⟨q27, z28, z29, z30, h24, rfl, O25⟩ := hq
          rw [e_lk0r_impl_ValidPath]
          exact sim_ret (release_plain (by rfl) _)
theorem tt_impl_ValidPath : PureOK Try.prog n_impl_ValidPath (C4 (fun c : Bool => enc c) t_impl_ValidPath) := pureC4 (Econs ok_impl_within E0) mixed hb_impl_ValidPath fun path_ n_ m_ band_ => ts_impl_ValidPath _ (by simp [envL]) path_ n_ m_ band_

def t_impl_pathable (a_ : Sl Feat) (b_ : Sl Feat) (path_ : Sl Pair) : Option Int :=
  obind (t_impl_ValidSeq a_) fun c1 =>
  obind (bif !c1 then some false else (obind (t_impl_ValidSeq b_) fun c3 => some (!c3))) fun c4 =>
  bif (bif !c1 then true else c4) then
    some 1
  else
    obind (t_impl_ValidPath path_ (((a_.getD []).length : Nat) : Int) (((b_.getD []).length : Nat) : Int) 72) fun c6 =>
    bif !c6 then
      some 2
    else
      some 0

theorem ts_impl_pathable (env : Nat → Contract) (he_impl_ValidPath : env n_impl_ValidPath = .pure (C4 (fun c : Bool => enc c) t_impl_ValidPath)) (he_impl_ValidSeq : env n_impl_ValidSeq = .pure (C1 (fun c : Bool => enc c) t_impl_ValidSeq)) (a_ : Sl Feat) (b_ : Sl Feat) (path_ : Sl Pair) : Sim (denFn Try.prog env n_impl_pathable [Sl.enc a_, Sl.enc b_, Sl.enc path_] []) (t_impl_pathable a_ b_ path_) fun c p => release p.2 depth p.1 = some ((fun c : Int => enc c) c) := by
  have O := Hold.nil []
  generalize hB : (⟨[], []⟩ : Base) = B at O
  clear hB
  rw [e_impl_pathable]
  unfold t_impl_pathable
  refine sim_call1 he_impl_ValidSeq (snapD_enc _ _) (fun c1 => ?_)
  refine sim_let2 (hand_plain (by rfl) _ _) ?_
  refine sim_let (v := bv (!c1)) (aUn_not _) ?_
  refine sim_guardF (e := bv) (fun hb2 => ?_) (fun c4 => ?_)
  · refine sim_call1 he_impl_ValidSeq (snapD_enc _ _) (fun c3 => ?_)
    refine sim_let2 (hand_plain (by rfl) _ _) ?_
    refine sim_let (v := bv (!c3)) (aUn_not _) ?_
    exact sim_ret rfl
  · refine sim_let (v := bv (bif !c1 then true else c4)) (pick_b' _ _ _) ?_
    refine sim_cond (fun c5 => ?_) (fun c5 => ?_)
    · exact sim_ret (release_plain (by rfl) _)
    · refine sim_let (v := iv (((a_.getD []).length : Nat) : Int)) (Tab.enc [] a_).len ?_
      refine sim_let (v := iv (((b_.getD []).length : Nat) : Int)) (Tab.enc [] b_).len ?_
      refine sim_call4 he_impl_ValidPath (snapD_enc _ _) (snapD_int _ _) (snapD_int _ _) (snapD_int _ _) (fun c6 => ?_)
      refine sim_let2 (hand_plain (by rfl) _ _) ?_
      refine sim_let (v := bv (!c6)) (aUn_not _) ?_
      refine sim_cond (fun c7 => ?_) (fun c7 => ?_)
      · exact sim_ret (release_plain (by rfl) _)
      · exact sim_ret (release_plain (by rfl) _)
theorem tt_impl_pathable : PureOK Try.prog n_impl_pathable (C3 (fun c : Int => enc c) t_impl_pathable) := pureC3 (Econs tt_impl_ValidPath (Econs tt_impl_ValidSeq E0)) mixed hb_impl_pathable fun a_ b_ path_ => ts_impl_pathable _ (by simp [envL]) (by simp [envL]) a_ b_ path_

def s0_impl_PathCost (a_ : Sl Feat) (b_ : Sl Feat) (path_ : Sl Pair) : (Int × Int) → Option (Sum (Int × Int) Int) := fun (w5, w6) =>
  bif decide (w6 < (((path_.getD []).length : Nat) : Int)) then
    obind (getI (path_.getD []) w6) fun a12 =>
    obind (getI (a_.getD []) a12.i) fun a22 =>
    obind (getI (b_.getD []) a12.j) fun a26 =>
    obind (t_impl_featCost a22 a26) fun c30 =>
    some (.inl (wr (w5 + c30), wr (w6 + 1)))
  else
    some (.inr w5)
def t_impl_PathCost (a_ : Sl Feat) (b_ : Sl Feat) (path_ : Sl Pair) : Option (Int × Int) :=
  obind (t_impl_pathable a_ b_ path_) fun c1 =>
  bif !decide (c1 = 0) then
    some (0, c1)
  else
    obind (loopT (s0_impl_PathCost a_ b_ path_) (0, 0)) fun q9 =>
    some (q9, 0)

theorem tl0_impl_PathCost (env : Nat → Contract) {B : Base} (he_impl_featCost : env n_impl_featCost = .pure (C2 (fun c : Int => enc c) t_impl_featCost)) (he_impl_pathable : env n_impl_pathable = .pure (C3 (fun c : Int => enc c) t_impl_pathable)) (a_ : Sl Feat) (b_ : Sl Feat) (path_ : Sl Pair) (c1 : Int)  {st : Int × Int} {tm : TM} {h : Heap} (R : (fun (st : Int × Int) tm h3 => match st with | (w5, w6) => tm = [Sl.enc a_, Sl.enc b_, Sl.enc path_, und, und, und, iv 0, iv 0, iv c1, iv w5, und, AV.top, Sl.enc a_, Sl.enc b_, Sl.enc path_, iv c1, iv c1, bv (!decide (c1 = 0)), und, Sl.enc path_, iv (((path_.getD []).length : Nat) : Int), iv w6, AV.top, AV.top, AV.top, AV.top, AV.top, AV.top, AV.top, AV.top, AV.top, AV.top, AV.top, AV.top, AV.top, AV.top, AV.top, AV.top, AV.top, und] ∧ Hold B h3 []) st tm h) : Sim (loopP hm0_impl_PathCost xm0_impl_PathCost (lb0_impl_PathCost env) tm h) (loopT (s0_impl_PathCost a_ b_ path_) st) (fun (q : Int) (r : Res) => match q with | q9 => ∃ (z10 : AV) (h7 : Heap), r = (.exit 0, [Sl.enc a_, Sl.enc b_, Sl.enc path_, und, und, und, iv 0, iv 0, iv c1, iv q9, und, z10, Sl.enc a_, Sl.enc b_, Sl.enc path_, iv c1, iv c1, bv (!decide (c1 = 0)), und, Sl.enc path_, iv (((path_.getD []).length : Nat) : Int), AV.top, AV.top, AV.top, AV.top, AV.top, AV.top, AV.top, AV.top, AV.top, AV.top, AV.top, AV.top, AV.top, AV.top, AV.top, AV.top, AV.top, AV.top, und], h7) ∧ Hold B h7 []) := by
  refine loop_sim (Rel := fun (st : Int × Int) tm h3 => match st with | (w5, w6) => tm = [Sl.enc a_, Sl.enc b_, Sl.enc path_, und, und, und, iv 0, iv 0, iv c1, iv w5, und, AV.top, Sl.enc a_, Sl.enc b_, Sl.enc path_, iv c1, iv c1, bv (!decide (c1 = 0)), und, Sl.enc path_, iv (((path_.getD []).length : Nat) : Int), iv w6, AV.top, AV.top, AV.top, AV.top, AV.top, AV.top, AV.top, AV.top, AV.top, AV.top, AV.top, AV.top, AV.top, AV.top, AV.top, AV.top, AV.top, und] ∧ Hold B h3 []) (fun st tm h3 R => ?_) R
  obtain ⟨w5, w6⟩ := st
  obtain ⟨rfl, O4⟩ := R
  rw [e_lb0_impl_PathCost]
  unfold s0_impl_PathCost
  dsimp only
  refine sim_let (v := bv (decide (w6 < (((path_.getD []).length : Nat) : Int)))) (aBin_lss _ _) ?_
  refine sim_cond (fun c11 => ?_) (fun c11 => ?_)
  · refine sim_get (Tab.enc h3 path_) (fun m13 a12 hi14 hm15 => ?_)
    refine sim_let (v := AV.agg [iv a12.i, iv a12.j]) ((Tab.enc h3 path_).ld hm15 true 2 0) ?_
    refine sim_box O4 (cs := [iv 0, iv 0]) (by first | rfl | simp) (fun o16 h17 O18 => ?_)
    replace O18 : Hold B h17 [(AV.ptr o16 1 0 0, .pt 2 [iv 0, iv 0])] := O18
    refine sim_store O18 0 (cs' := [iv a12.i, iv a12.j]) rfl (by first | rfl | simp) (by simp) (by first | rfl | simp) (by first | rfl | simp [splice]) (fun h20 O21 => ?_)
    replace O21 : Hold B h20 [(AV.ptr o16 1 0 0, .pt 2 [iv a12.i, iv a12.j])] := O21
    refine sim_let (v := AV.ptr o16 1 0 0) rfl ?_
    refine sim_let (v := iv a12.i) (O21.ld 0 rfl false 1 0) ?_
    refine sim_get (Tab.enc h20 a_) (fun m23 a22 hi24 hm25 => ?_)
    refine sim_let (v := AV.agg [iv a22.x, iv a22.y, iv a22.d]) ((Tab.enc h20 a_).ld hm25 true 3 0) ?_
    refine sim_let (v := AV.ptr o16 1 0 1) rfl ?_
    refine sim_let (v := iv a12.j) (O21.ld 0 rfl false 1 1) ?_
    refine sim_get (Tab.enc h20 b_) (fun m27 a26 hi28 hm29 => ?_)
    refine sim_let (v := AV.agg [iv a26.x, iv a26.y, iv a26.d]) ((Tab.enc h20 b_).ld hm29 true 3 0) ?_
    refine sim_callQ2 he_impl_featCost (snapD_nr _ a22 rfl) (snapD_nr _ a26 rfl) (fun c30 => ?_)
    refine sim_let2 (hand_plain (by rfl) _ _) ?_
    refine sim_let (v := iv (wr (w5 + c30))) (aBin_add _ _) ?_
    refine sim_let (v := iv (wr (w6 + 1))) (aBin_add _ _) ?_
    have O31 : Hold B h20 [] := O21.sel [] (by decide) rfl
    exact sim_ret ⟨rfl, rfl, O31⟩
  · exact sim_ret ⟨nofun, _, _, rfl, O4⟩
theorem ts_impl_PathCost (env : Nat → Contract) (he_impl_featCost : env n_impl_featCost = .pure (C2 (fun c : Int => enc c) t_impl_featCost)) (he_impl_pathable : env n_impl_pathable = .pure (C3 (fun c : Int => enc c) t_impl_pathable)) (a_ : Sl Feat) (b_ : Sl Feat) (path_ : Sl Pair) : Sim (denFn Try.prog env n_impl_PathCost [Sl.enc a_, Sl.enc b_, Sl.enc path_] []) (t_impl_PathCost a_ b_ path_) fun c p => release p.2 depth p.1 = some ((fun c : Int × Int => AV.tup [enc c.1, enc c.2]) c) := by
  have O := Hold.nil []
  generalize hB : (⟨[], []⟩ : Base) = B at O
  clear hB
  rw [e_impl_PathCost]
  unfold t_impl_PathCost
  refine sim_call3 he_impl_pathable (snapD_enc _ _) (snapD_enc _ _) (snapD_enc _ _) (fun c1 => ?_)
  refine sim_let2 (hand_plain (by rfl) _ _) ?_
  refine sim_let (v := bv (!decide (c1 = 0))) (aCmp_ne _ _) ?_
  refine sim_cond (fun c2 => ?_) (fun c2 => ?_)
  · exact sim_ret (release_plain (by rfl) _)
  · refine sim_let (v := iv (((path_.getD []).length : Nat) : Int)) (Tab.enc [] path_).len ?_
    refine sim_bind ((tl0_impl_PathCost env he_impl_featCost he_impl_pathable a_ b_ path_ c1) ⟨rfl, O⟩) (fun qq34 r hq => ?_)
    revert hq
    revert qq34
    intro q9 hq
    obtain ⟨z10, h7, rfl, O8⟩ := hq
    rw [e_lk0x0_impl_PathCost]
    exact sim_ret (release_plain (by rfl) _)
theorem tt_impl_PathCost : PureOK Try.prog n_impl_PathCost (C3 (fun c : Int × Int => AV.tup [enc c.1, enc c.2]) t_impl_PathCost) := pureC3 (Econs tt_impl_featCost (Econs tt_impl_pathable E0)) mixed hb_impl_PathCost fun a_ b_ path_ => ts_impl_PathCost _ (by simp [envL]) (by simp [envL]) a_ b_ path_

def t_laws_FnElastic (code_ : Sl UInt8) (more_ : Sl UInt8) : Option Bool :=
  obind (t_laws_a2Long code_ more_) fun c1 =>
  bif c1 then
    some true
  else
    obind (t_spec_A2Two code_) fun c3 =>
    obind (t_impl_Elastic c3.1 c3.2.1 c3.2.2) fun c10 =>
    obind (t_impl_Elastic c3.2.1 c3.1 c3.2.2) fun c11 =>
    obind (t_impl_Elastic c3.1 c3.1 0) fun c12 =>
    obind (t_impl_Elastic c3.1 c3.2.1 72) fun c13 =>
    obind (t_spec_BackFeats c3.1) fun c14 =>
    obind (t_spec_BackFeats c3.2.1) fun c19 =>
    obind (t_impl_Elastic c14.1 c19.1 72) fun c24 =>
    obind (bif !decide (c10.2 = 0) then some false else (some (!decide (c11.2 = 0)))) fun c26 =>
    obind (bif (bif !decide (c10.2 = 0) then true else c26) then some false else (some (!decide (c12.2 = 0)))) fun c28 =>
    obind (bif (bif (bif !decide (c10.2 = 0) then true else c26) then true else c28) then some false else (some (!decide (c13.2 = 0)))) fun c30 =>
    obind (bif (bif (bif (bif !decide (c10.2 = 0) then true else c26) then true else c28) then true else c30) then some false else (some (!decide (c24.2 = 0)))) fun c32 =>
    obind (bif (bif (bif (bif (bif !decide (c10.2 = 0) then true else c26) then true else c28) then true else c30) then true else c32) then some false else (some (!decide (c10.1 = c11.1)))) fun c34 =>
    obind (bif (bif (bif (bif (bif (bif !decide (c10.2 = 0) then true else c26) then true else c28) then true else c30) then true else c32) then true else c34) then some false else (some (!decide (c12.1 = 0)))) fun c36 =>
    obind (bif (bif (bif (bif (bif (bif (bif !decide (c10.2 = 0) then true else c26) then true else c28) then true else c30) then true else c32) then true else c34) then true else c36) then some false else (some (decide (c10.1 < c13.1)))) fun c38 =>
    obind (bif (bif (bif (bif (bif (bif (bif (bif !decide (c10.2 = 0) then true else c26) then true else c28) then true else c30) then true else c32) then true else c34) then true else c36) then true else c38) then some false else (some (!decide (c24.1 = c13.1)))) fun c40 =>
    bif (bif (bif (bif (bif (bif (bif (bif (bif !decide (c10.2 = 0) then true else c26) then true else c28) then true else c30) then true else c32) then true else c34) then true else c36) then true else c38) then true else c40) then
      some false
    else
      obind (t_spec_A2Path more_ (((c3.1.getD []).length : Nat) : Int) (((c3.2.1.getD []).length : Nat) : Int)) fun c42 =>
      obind (t_impl_PathCost c3.1 c3.2.1 c42) fun c47 =>
      obind (bif decide (c47.2 = 0) then (some (decide (c13.1 ≤ c47.1))) else some false) fun c49 =>
      obind (bif (bif decide (c47.2 = 0) then c49 else false) then (obind (t_impl_ValidPath c42 (((c3.1.getD []).length : Nat) : Int) (((c3.2.1.getD []).length : Nat) : Int) 72) fun c51 => some c51) else some false) fun c52 =>
      some (bif (bif decide (c47.2 = 0) then c49 else false) then c52 else false)

theorem ts_laws_FnElastic (env : Nat → Contract) (he_impl_Elastic : env n_impl_Elastic = .pure (C3 (fun c : Int × Int => AV.tup [enc c.1, enc c.2]) t_impl_Elastic)) (he_impl_PathCost : env n_impl_PathCost = .pure (C3 (fun c : Int × Int => AV.tup [enc c.1, enc c.2]) t_impl_PathCost)) (he_impl_ValidPath : env n_impl_ValidPath = .pure (C4 (fun c : Bool => enc c) t_impl_ValidPath)) (he_laws_a2Long : env n_laws_a2Long = .pure (C2 (fun c : Bool => enc c) t_laws_a2Long)) (he_spec_A2Path : env n_spec_A2Path = .pure (C3 (fun c : (Sl Pair) => rS c) t_spec_A2Path)) (he_spec_A2Two : env n_spec_A2Two = .pure (C1 (fun c : (Sl Feat) × (Sl Feat) × Int => AV.tup [rS c.1, rS c.2.1, enc c.2.2]) t_spec_A2Two)) (he_spec_BackFeats : env n_spec_BackFeats = .pure (C1 (fun c : (Sl Feat) × Int => AV.tup [rS c.1, enc c.2]) t_spec_BackFeats)) (code_ : Sl UInt8) (more_ : Sl UInt8) : Sim (denFn Try.prog env n_laws_FnElastic [Sl.enc code_, Sl.enc more_] []) (t_laws_FnElastic code_ more_) fun c p => release p.2 depth p.1 = some ((fun c : Bool => enc c) c) := by
  have O := Hold.nil []
  generalize hB : (⟨[], []⟩ : Base) = B at O
  clear hB
  rw [e_laws_FnElastic]
  unfold t_laws_FnElastic
  refine sim_call2 he_laws_a2Long (snapD_enc _ _) (snapD_enc _ _) (fun c1 => ?_)
  refine sim_let2 (hand_plain (by rfl) _ _) ?_
  refine sim_cond (fun c2 => ?_) (fun c2 => ?_)
  · exact sim_ret (release_plain (by rfl) _)
  · refine sim_call1 he_spec_A2Two (snapD_enc _ _) (fun c3 => ?_)
    refine sim_hand2 O (c3.1 : Sl Feat) (c3.2.1 : Sl Feat) (fun z1 z2 => AV.tup [z1, z2, iv c3.2.2]) (by intro b; simp only [mat_tup, mat_aggD, mat_agg, matLc, matLn, mat_iv, mat_bv, mat_sv, mat_bt, mat_nilS, mat_rS, List.append_nil, List.nil_append, List.length_nil, Nat.add_zero]) (by simp only [noF_tup, noF_aggD, noF_agg, noF_iv, noF_bv, noF_sv, noF_bt, noF_nilS, noF_rS, List.all_cons, List.all_nil, Bool.and_self]) (fun x5 x7 h8 O9 => ?_)
    replace O9 : Hold B h8 [(x5, obS (c3.1 : Sl Feat)), (x7, obS (c3.2.1 : Sl Feat))] := O9
    refine sim_let (v := x5) rfl ?_
    refine sim_let (v := x7) rfl ?_
    refine sim_let (v := iv c3.2.2) rfl ?_
    refine sim_call3 he_impl_Elastic ((O9.tab (A := Feat) (s := c3.1) 0 rfl).snap) ((O9.tab (A := Feat) (s := c3.2.1) 1 rfl).snap) (snapD_int _ _) (fun c10 => ?_)
    refine sim_let2 (hand_plain (by rfl) _ _) ?_
    refine sim_let (v := iv c10.1) rfl ?_
    refine sim_let (v := iv c10.2) rfl ?_
    refine sim_call3 he_impl_Elastic ((O9.tab (A := Feat) (s := c3.2.1) 1 rfl).snap) ((O9.tab (A := Feat) (s := c3.1) 0 rfl).snap) (snapD_int _ _) (fun c11 => ?_)
    refine sim_let2 (hand_plain (by rfl) _ _) ?_
    refine sim_let (v := iv c11.1) rfl ?_
    refine sim_let (v := iv c11.2) rfl ?_
    refine sim_call3 he_impl_Elastic ((O9.tab (A := Feat) (s := c3.1) 0 rfl).snap) ((O9.tab (A := Feat) (s := c3.1) 0 rfl).snap) (snapD_int _ _) (fun c12 => ?_)
    refine sim_let2 (hand_plain (by rfl) _ _) ?_
    refine sim_let (v := iv c12.1) rfl ?_
    refine sim_let (v := iv c12.2) rfl ?_
    refine sim_call3 he_impl_Elastic ((O9.tab (A := Feat) (s := c3.1) 0 rfl).snap) ((O9.tab (A := Feat) (s := c3.2.1) 1 rfl).snap) (snapD_int _ _) (fun c13 => ?_)
    refine sim_let2 (hand_plain (by rfl) _ _) ?_
    refine sim_let (v := iv c13.1) rfl ?_
    refine sim_let (v := iv c13.2) rfl ?_
    refine sim_call1 he_spec_BackFeats ((O9.tab (A := Feat) (s := c3.1) 0 rfl).snap) (fun c14 => ?_)
    refine sim_hand1 O9 (c14.1 : Sl Feat) (fun z1 => AV.tup [z1, iv c14.2]) (by intro b; simp only [mat_tup, mat_aggD, mat_agg, matLc, matLn, mat_iv, mat_bv, mat_sv, mat_bt, mat_nilS, mat_rS, List.append_nil, List.nil_append, List.length_nil, Nat.add_zero]) (by simp only [noF_tup, noF_aggD, noF_agg, noF_iv, noF_bv, noF_sv, noF_bt, noF_nilS, noF_rS, List.all_cons, List.all_nil, Bool.and_self]) (fun x16 h17 O18 => ?_)
    replace O18 : Hold B h17 [(x5, obS (c3.1 : Sl Feat)), (x7, obS (c3.2.1 : Sl Feat)), (x16, obS (c14.1 : Sl Feat))] := O18
    refine sim_let (v := x16) rfl ?_
    refine sim_let (v := iv c14.2) rfl ?_
    refine sim_call1 he_spec_BackFeats ((O18.tab (A := Feat) (s := c3.2.1) 1 rfl).snap) (fun c19 => ?_)
    refine sim_hand1 O18 (c19.1 : Sl Feat) (fun z1 => AV.tup [z1, iv c19.2]) (by intro b; simp only [mat_tup, mat_aggD, mat_agg, matLc, matLn, mat_iv, mat_bv, mat_sv, mat_bt, mat_nilS, mat_rS, List.append_nil, List.nil_append, List.length_nil, Nat.add_zero]) (by simp only [noF_tup, noF_aggD, noF_agg, noF_iv, noF_bv, noF_sv, noF_bt, noF_nilS, noF_rS, List.all_cons, List.all_nil, Bool.and_self]) (fun x21 h22 O23 => ?_)
    replace O23 : Hold B h22 [(x5, obS (c3.1 : Sl Feat)), (x7, obS (c3.2.1 : Sl Feat)), (x16, obS (c14.1 : Sl Feat)), (x21, obS (c19.1 : Sl Feat))] := O23
    refine sim_let (v := x21) rfl ?_
    refine sim_let (v := iv c19.2) rfl ?_
    refine sim_call3 he_impl_Elastic ((O23.tab (A := Feat) (s := c14.1) 2 rfl).snap) ((O23.tab (A := Feat) (s := c19.1) 3 rfl).snap) (snapD_int _ _) (fun c24 => ?_)
    refine sim_let2 (hand_plain (by rfl) _ _) ?_
    refine sim_let (v := iv c24.1) rfl ?_
    refine sim_let (v := iv c24.2) rfl ?_
    refine sim_let (v := bv (!decide (c10.2 = 0))) (aCmp_ne _ _) ?_
    refine sim_guardF (e := bv) (fun hb25 => ?_) (fun c26 => ?_)
    · refine sim_let (v := bv (!decide (c11.2 = 0))) (aCmp_ne _ _) ?_
      exact sim_ret rfl
    · refine sim_let (v := bv (bif !decide (c10.2 = 0) then true else c26)) (pick_b' _ _ _) ?_
      refine sim_guardF (e := bv) (fun hb27 => ?_) (fun c28 => ?_)
      · refine sim_let (v := bv (!decide (c12.2 = 0))) (aCmp_ne _ _) ?_
        exact sim_ret rfl
      · refine sim_let (v := bv (bif (bif !decide (c10.2 = 0) then true else c26) then true else c28)) (pick_b' _ _ _) ?_
        refine sim_guardF (e := bv) (fun hb29 => ?_) (fun c30 => ?_)
        · refine sim_let (v := bv (!decide (c13.2 = 0))) (aCmp_ne _ _) ?_
          exact sim_ret rfl
        · refine sim_let (v := bv (bif (bif (bif !decide (c10.2 = 0) then true else c26) then true else c28) then true else c30)) (pick_b' _ _ _) ?_
          refine sim_guardF (e := bv) (fun hb31 => ?_) (fun c32 => ?_)
          · refine sim_let (v := bv (!decide (c24.2 = 0))) (aCmp_ne _ _) ?_
            exact sim_ret rfl
          · refine sim_let (v := bv (bif (bif (bif (bif !decide (c10.2 = 0) then true else c26) then true else c28) then true else c30) then true else c32)) (pick_b' _ _ _) ?_
            refine sim_guardF (e := bv) (fun hb33 => ?_) (fun c34 => ?_)
            · refine sim_let (v := bv (!decide (c10.1 = c11.1))) (aCmp_ne _ _) ?_
              exact sim_ret rfl
            · refine sim_let (v := bv (bif (bif (bif (bif (bif !decide (c10.2 = 0) then true else c26) then true else c28) then true else c30) then true else c32) then true else c34)) (pick_b' _ _ _) ?_
              refine sim_guardF (e := bv) (fun hb35 => ?_) (fun c36 => ?_)
              · refine sim_let (v := bv (!decide (c12.1 = 0))) (aCmp_ne _ _) ?_
                exact sim_ret rfl
              · refine sim_let (v := bv (bif (bif (bif (bif (bif (bif !decide (c10.2 = 0) then true else c26) then true else c28) then true else c30) then true else c32) then true else c34) then true else c36)) (pick_b' _ _ _) ?_
                refine sim_guardF (e := bv) (fun hb37 => ?_) (fun c38 => ?_)
                · refine sim_let (v := bv (decide (c10.1 < c13.1))) (aBin_gtr _ _) ?_
                  exact sim_ret rfl
                · refine sim_let (v := bv (bif (bif (bif (bif (bif (bif (bif !decide (c10.2 = 0) then true else c26) then true else c28) then true else c30) then true else c32) then true else c34) then true else c36) then true else c38)) (pick_b' _ _ _) ?_
                  refine sim_guardF (e := bv) (fun hb39 => ?_) (fun c40 => ?_)
                  · refine sim_let (v := bv (!decide (c24.1 = c13.1))) (aCmp_ne _ _) ?_
                    exact sim_ret rfl
                  · refine sim_let (v := bv (bif (bif (bif (bif (bif (bif (bif (bif !decide (c10.2 = 0) then true else c26) then true else c28) then true else c30) then true else c32) then true else c34) then true else c36) then true else c38) then true else c40)) (pick_b' _ _ _) ?_
                    refine sim_cond (fun c41 => ?_) (fun c41 => ?_)
                    · exact sim_ret (release_plain (by rfl) _)
                    · refine sim_let (v := iv (((c3.1.getD []).length : Nat) : Int)) (O23.tab (A := Feat) (s := c3.1) 0 rfl).len ?_
                      refine sim_let (v := iv (((c3.2.1.getD []).length : Nat) : Int)) (O23.tab (A := Feat) (s := c3.2.1) 1 rfl).len ?_
                      refine sim_call3 he_spec_A2Path (snapD_enc _ _) (snapD_int _ _) (snapD_int _ _) (fun c42 => ?_)
                      refine sim_hand (A := Pair) O23 (fun x44 h45 O46 => ?_)
                      replace O46 : Hold B h45 [(x5, obS (c3.1 : Sl Feat)), (x7, obS (c3.2.1 : Sl Feat)), (x16, obS (c14.1 : Sl Feat)), (x21, obS (c19.1 : Sl Feat)), (x44, obS (c42 : Sl Pair))] := O46
                      refine sim_call3 he_impl_PathCost ((O46.tab (A := Feat) (s := c3.1) 0 rfl).snap) ((O46.tab (A := Feat) (s := c3.2.1) 1 rfl).snap) ((O46.tab (A := Pair) (s := c42) 4 rfl).snap) (fun c47 => ?_)
                      refine sim_let2 (hand_plain (by rfl) _ _) ?_
                      refine sim_let (v := iv c47.1) rfl ?_
                      refine sim_let (v := iv c47.2) rfl ?_
                      refine sim_let (v := bv (decide (c47.2 = 0))) (aCmp_eq _ _) ?_
                      refine sim_guardT (e := bv) (fun hb48 => ?_) (fun c49 => ?_)
                      · refine sim_let (v := bv (decide (c13.1 ≤ c47.1))) (aBin_leq _ _) ?_
                        exact sim_ret rfl
                      · refine sim_let (v := bv (bif decide (c47.2 = 0) then c49 else false)) (pick_b _ _ _) ?_
                        refine sim_guardT (e := bv) (fun hb50 => ?_) (fun c52 => ?_)
                        · refine sim_let (v := iv (((c3.1.getD []).length : Nat) : Int)) (O46.tab (A := Feat) (s := c3.1) 0 rfl).len ?_
                          refine sim_let (v := iv (((c3.2.1.getD []).length : Nat) : Int)) (O46.tab (A := Feat) (s := c3.2.1) 1 rfl).len ?_
                          refine sim_call4 he_impl_ValidPath ((O46.tab (A := Pair) (s := c42) 4 rfl).snap) (snapD_int _ _) (snapD_int _ _) (snapD_int _ _) (fun c51 => ?_)
                          refine sim_let2 (hand_plain (by rfl) _ _) ?_
                          exact sim_ret rfl
                        · refine sim_let (v := bv (bif (bif decide (c47.2 = 0) then c49 else false) then c52 else false)) (pick_b _ _ _) ?_
                          exact sim_ret (release_plain (by rfl) _)
theorem tt_laws_FnElastic : PureOK Try.prog n_laws_FnElastic (C2 (fun c : Bool => enc c) t_laws_FnElastic) := pureC2 (Econs tt_impl_Elastic (Econs tt_impl_PathCost (Econs tt_impl_ValidPath (Econs tt_laws_a2Long (Econs tt_spec_A2Path (Econs tt_spec_A2Two (Econs tt_spec_BackFeats E0))))))) mixed hb_laws_FnElastic fun code_ more_ => ts_laws_FnElastic _ (by simp [envL]) (by simp [envL]) (by simp [envL]) (by simp [envL]) (by simp [envL]) (by simp [envL]) (by simp [envL]) code_ more_

def t_spec_l00Src_among (s_ : l00Src) (list_ : Sl Int) : Option (Int × l00Src) :=
  obind (t_spec_l00Src_pick s_ (((list_.getD []).length : Nat) : Int)) fun c1 =>
  obind (getI (list_.getD []) c1.1) fun a7 =>
  some (a7, (⟨c1.2.code, c1.2.pos, c1.2.seed⟩ : l00Src))

/-- The source has been read up to `k` at most. -/
structure SK (s : l00Src) (k : Int) : Prop where
  lo : 0 ≤ s.pos
  hi : s.pos ≤ k
theorem SK.mono {s : l00Src} {k k' : Int} (h : SK s k) (hk : k ≤ k') : SK s k' := ⟨h.lo, by have := h.hi; omega⟩
theorem and255 (a : Int) : 0 ≤ wr (IntKind.u64.wrap ((BitVec.ofInt 64 a &&& BitVec.ofInt 64 255).toNat : Nat)) ∧ wr (IntKind.u64.wrap ((BitVec.ofInt 64 a &&& BitVec.ofInt 64 255).toNat : Nat)) ≤ 255 := by
  have h1 : (BitVec.ofInt 64 a &&& BitVec.ofInt 64 255).toNat ≤ 255 := by
    rw [BitVec.toNat_and]
    have : (BitVec.ofInt 64 255).toNat = 255 := by decide
    rw [this]
    exact Nat.and_le_right
  generalize (BitVec.ofInt 64 a &&& BitVec.ofInt 64 255).toNat = r at h1
  have h2 : IntKind.u64.wrap (r : Int) = r := by
    simp only [IntKind.wrap, IntKind.bits, IntKind.signed]
    simp only [Bool.false_and, Bool.false_eq_true, if_false]
    omega
  rw [h2, wr_id (by omega) (by omega)]
  omega
theorem andFF (a : Int) : 0 ≤ wr (IntKind.u64.wrap ((BitVec.ofInt 64 a &&& BitVec.ofInt 64 16777215).toNat : Nat)) ∧ wr (IntKind.u64.wrap ((BitVec.ofInt 64 a &&& BitVec.ofInt 64 16777215).toNat : Nat)) ≤ 16777215 := by
  have h1 : (BitVec.ofInt 64 a &&& BitVec.ofInt 64 16777215).toNat ≤ 16777215 := by
    rw [BitVec.toNat_and]
    have : (BitVec.ofInt 64 16777215).toNat = 16777215 := by decide
    rw [this]
    exact Nat.and_le_right
  generalize (BitVec.ofInt 64 a &&& BitVec.ofInt 64 16777215).toNat = r at h1
  have h2 : IntKind.u64.wrap (r : Int) = r := by
    simp only [IntKind.wrap, IntKind.bits, IntKind.signed]
    simp only [Bool.false_and, Bool.false_eq_true, if_false]
    omega
  rw [h2, wr_id (by omega) (by omega)]
  omega
theorem getI_in {A : Type} {l : List A} {i : Int} (h0 : 0 ≤ i) (h1 : i < (l.length : Nat)) : ∃ a, getI l i = some a ∧ l[i.toNat]? = some a := by
  obtain ⟨m, rfl⟩ := Int.eq_ofNat_of_zero_le h0
  have h2 : m < l.length := by omega
  exact ⟨l[m], getI_nat (List.getElem?_eq_getElem h2), by simp [h2]⟩
theorem remI_pos {a b : Int} (ha : 0 ≤ a) (hb : 0 < b) : ∃ r, remI a b = some r ∧ 0 ≤ r ∧ r < b := by
  refine ⟨a.tmod b, ?_, Int.tmod_nonneg b ha, Int.tmod_lt_of_pos a hb⟩
  have : ¬ b = 0 := by omega
  simp [remI, this]
theorem dr_next {s : l00Src} {k : Int} (h : SK s k) (hk : k ≤ 1000000000000) : ∃ r s', t_spec_l00Src_next s = some (r, s') ∧ SK s' (k + 1) ∧ 0 ≤ r ∧ r ≤ 255 := by
  obtain ⟨h1, h2⟩ := h
  have w : wr (s.pos + 1) = s.pos + 1 := wr_id (by omega) (by omega)
  have b1 := fun a => (and255 a).1
  have b2 := fun a => (and255 a).2
  unfold t_spec_l00Src_next
  rw [w]
  by_cases c : s.pos < ((s.code.getD []).length : Nat)
  · obtain ⟨a, ha, _⟩ := getI_in h1 c
    have c2 : s.pos + 1 ≤ ((s.code.getD []).length : Nat) := by omega
    have := a.toNat_lt
    simp only [c, decide_true, cond_true, ha, obind_sm, c2]
    exact ⟨_, _, rfl, ⟨by simp only; omega, by simp only; omega⟩, by omega, by omega⟩
  · have c2 : ¬ s.pos + 1 ≤ ((s.code.getD []).length : Nat) := by omega
    simp only [c, decide_false, cond_false, c2]
    exact ⟨_, _, rfl, ⟨by simp only; omega, by simp only; omega⟩, b1 _, b2 _⟩
theorem dr_pick {s : l00Src} {k : Int} (h : SK s k) (hk : k ≤ 100000000000) {n : Int} (hn : n ≤ 60000) : ∃ r s', t_spec_l00Src_pick s n = some (r, s') ∧ SK s' (k + 2) ∧ 0 ≤ r ∧ (1 ≤ n → r < n) ∧ (n ≤ 1 → r = 0) := by
  unfold t_spec_l00Src_pick
  by_cases c : n ≤ 1
  · simp only [c, decide_true, cond_true]
    exact ⟨0, _, rfl, ⟨h.lo, by have := h.hi; simp only; omega⟩, by omega, fun _ => by omega, fun _ => rfl⟩
  · obtain ⟨r1, s1, e1, k1, p1, q1⟩ := dr_next h (by omega)
    simp only [c, decide_false, cond_false]
    have e1' : t_spec_l00Src_next ⟨s.code, s.pos, s.seed⟩ = some (r1, s1) := e1
    rw [e1', obind_sm]
    by_cases c2 : 200 < n
    · obtain ⟨r2, s2, e2, k2, p2, q2⟩ := dr_next k1 (by omega)
      have e2' : t_spec_l00Src_next ⟨s1.code, s1.pos, s1.seed⟩ = some (r2, s2) := e2
      have w1 : wr (r1 * 256) = r1 * 256 := wr_id (by omega) (by omega)
      have w2 : wr (r1 * 256 + r2) = r1 * 256 + r2 := wr_id (by omega) (by omega)
      obtain ⟨q, e3, p3, q3⟩ := remI_pos (a := r1 * 256 + r2) (b := n) (by omega) (by omega)
      simp only [c2, decide_true, cond_true, e2', obind_sm, w1, w2, e3]
      exact ⟨_, _, rfl, ⟨k2.lo, by have := k2.hi; simp only; omega⟩, p3, fun _ => q3, fun h => False.elim h⟩
    · obtain ⟨q, e3, p3, q3⟩ := remI_pos (a := r1) (b := n) (by omega) (by omega)
      simp only [c2, decide_false, cond_false, e3, obind_sm]
      exact ⟨_, _, rfl, ⟨k1.lo, by have := k1.hi; simp only; omega⟩, p3, fun _ => q3, fun h => False.elim h⟩
theorem dr_one {s : l00Src} {k : Int} (h : SK s k) (hk : k ≤ 100000000000) {n : Int} (hn : n ≤ 60000) : ∃ b s', t_spec_l00Src_one s n = some (b, s') ∧ SK s' (k + 2) := by
  obtain ⟨r, s', e, k', _⟩ := dr_pick h hk hn
  have e' : t_spec_l00Src_pick ⟨s.code, s.pos, s.seed⟩ n = some (r, s') := e
  unfold t_spec_l00Src_one
  simp only [e', obind_sm]
  exact ⟨_, _, rfl, k'⟩
theorem dr_among {s : l00Src} {k : Int} (h : SK s k) (hk : k ≤ 100000000000) {l : List Int} (h0 : l ≠ []) (hl : l.length ≤ 60000) : ∃ r s', t_spec_l00Src_among s (some l) = some (r, s') ∧ SK s' (k + 2) ∧ r ∈ l := by
  have hp : 0 < l.length := List.length_pos_iff.2 h0
  obtain ⟨r, s', e, k', p, q, _⟩ := dr_pick h hk (n := (l.length : Nat)) (by omega)
  have e' : t_spec_l00Src_pick ⟨s.code, s.pos, s.seed⟩ (l.length : Nat) = some (r, s') := e
  obtain ⟨a, ha, ha2⟩ := getI_in (l := l) p (q (by omega))
  unfold t_spec_l00Src_among
  simp only [Option.getD_some, e', obind_sm, ha]
  exact ⟨_, _, rfl, k', List.mem_of_getElem? ha2⟩

/-- A feature that is one. -/
structure FOK (f : Feat) : Prop where
  x0 : 0 ≤ f.x
  x1 : f.x ≤ 255
  y0 : 0 ≤ f.y
  y1 : f.y ≤ 255
  d0 : 0 ≤ f.d
  d1 : f.d ≤ 7
theorem clip_ok {x : Int} (h : -1000 ≤ x) (h' : x ≤ 1000) : 0 ≤ max (0 : Int) (min 255 x) ∧ max (0 : Int) (min 255 x) ≤ 255 := by omega
theorem dr_feats {s : l00Src} {k : Int} (h : SK s k) (hk : k ≤ 1000000) {most : Int} (h1 : 1 ≤ most) (h2 : most ≤ 100) : ∃ l s', t_spec_l09Draw s most = some (some l, s') ∧ SK s' (k + 1000) ∧ 1 ≤ l.length ∧ (l.length : Int) ≤ most ∧ ∀ f ∈ l, FOK f := by
  obtain ⟨r1, s1, e1, k1, p1, q1, _⟩ := dr_pick h (by omega) (n := 256) (by omega)
  obtain ⟨r2, s2, e2, k2, p2, q2, _⟩ := dr_pick k1 (by omega) (n := 256) (by omega)
  obtain ⟨r3, s3, e3, k3, p3, q3, _⟩ := dr_pick k2 (by omega) (n := most) (by omega)
  have q1' := q1 (by omega)
  have q2' := q2 (by omega)
  have q3' := q3 h1
  have w1 : wr (1 + r3) = 1 + r3 := wr_id (by omega) (by omega)
  obtain ⟨N, hN⟩ := Int.eq_ofNat_of_zero_le (a := 1 + r3) (by omega)
  unfold t_spec_l09Draw
  simp only [e1, e2, e3, obind_sm, w1]
  obtain ⟨⟨c1, c2, c3, c4⟩, f1, l, f2, f3, f4, f5⟩ := loopT_ex (step := s0_spec_l09Draw) (fun i (t : (Sl UInt8) × Int × Int × (Sl Feat) × Int × Int × Int) => SK ⟨t.1, t.2.1, t.2.2.1⟩ (k + 6 + 6 * i) ∧ (∃ l, t.2.2.2.1 = some l ∧ l.length = i ∧ ∀ f ∈ l, FOK f) ∧ (0 ≤ t.2.2.2.2.1 ∧ t.2.2.2.2.1 ≤ 255) ∧ (0 ≤ t.2.2.2.2.2.1 ∧ t.2.2.2.2.2.1 ≤ 255) ∧ t.2.2.2.2.2.2 = N - (i : Int))
    N (fun r => ∃ l, r.2.2.2 = some l ∧ l.length = N ∧ (∀ f ∈ l, FOK f) ∧ SK ⟨r.1, r.2.1, r.2.2.1⟩ (k + 6 + 6 * N))
    (fun i ⟨t1, t2, t3, t4, t5, t6, t7⟩ hi ⟨g1, ⟨l, g2, g3, g4⟩, g5, g6, g7⟩ => by
      simp only at g1 g2 g3 g4 g5 g6 g7
      subst g2
      obtain ⟨r4, s4, e4, k4, p4, q4, _⟩ := dr_pick g1 (by omega) (n := 8) (by omega)
      obtain ⟨r5, s5, e5, k5, p5, q5, _⟩ := dr_pick k4 (by omega) (n := 61) (by omega)
      obtain ⟨r6, s6, e6, k6, p6, q6, _⟩ := dr_pick k5 (by omega) (n := 61) (by omega)
      have q4' := q4 (by omega)
      have q5' := q5 (by omega)
      have q6' := q6 (by omega)
      have a1 : wr (t5 + r5) = t5 + r5 := wr_id (by omega) (by omega)
      have a2 : wr (t5 + r5 - 30) = t5 + r5 - 30 := wr_id (by omega) (by omega)
      have a3 : wr (t6 + r6) = t6 + r6 := wr_id (by omega) (by omega)
      have a4 : wr (t6 + r6 - 30) = t6 + r6 - 30 := wr_id (by omega) (by omega)
      have a5 : wr (t7 - 1) = t7 - 1 := wr_id (by omega) (by omega)
      have c : 0 < t7 := by omega
      have ap := appO_some (s := some l) (l := [(⟨t5, t6, r4⟩ : Feat)]) (by simp; omega)
      have e : s0_spec_l09Draw (t1, t2, t3, some l, t5, t6, t7) = some (.inl (s6.code, s6.pos, s6.seed, some (l ++ [⟨t5, t6, r4⟩]), max 0 (min 255 (t5 + r5 - 30)), max 0 (min 255 (t6 + r6 - 30)), t7 - 1)) := by
        unfold s0_spec_l09Draw
        simp only [c, decide_true, cond_true, e4, e5, e6, obind_sm, ap, a1, a2, a3, a4, a5]
        rfl
      refine .inl ⟨_, e, k6.mono (by omega), ⟨_, rfl, by simp [g3], fun f hf => ?_⟩, clip_ok (by omega) (by omega), clip_ok (by omega) (by omega), by simp only; omega⟩
      rcases List.mem_append.1 hf with hf | hf
      · exact g4 f hf
      · have : f = ⟨t5, t6, r4⟩ := by simpa using hf
        subst this
        exact ⟨g5.1, g5.2, g6.1, g6.2, p4, by simp only; omega⟩)
    (fun ⟨t1, t2, t3, t4, t5, t6, t7⟩ ⟨g1, ⟨l, g2, g3, g4⟩, g5, g6, g7⟩ => by
      simp only at g1 g2 g3 g4 g5 g6 g7
      have c : ¬ 0 < t7 := by omega
      have e : s0_spec_l09Draw (t1, t2, t3, t4, t5, t6, t7) = some (.inr (t1, t2, t3, t4)) := by
        unfold s0_spec_l09Draw
        simp only [c, decide_false, cond_false]
      exact ⟨_, e, l, g2, g3, g4, g1⟩)
    (s := (s3.code, s3.pos, s3.seed, some [], r1, r2, 1 + r3)) ⟨k3.mono (by omega), ⟨[], rfl, rfl, fun f hf => by cases hf⟩, ⟨p1, by simp only; omega⟩, ⟨p2, by simp only; omega⟩, by simp only; omega⟩
  simp only at f2 f5
  subst f2
  rw [f1]
  exact ⟨l, _, rfl, f5.mono (by omega), by omega, by omega, f4⟩

theorem size_ok {n : Int} (h : -1000000 ≤ n) (h' : n ≤ 1000000) : ∃ r, t_spec_l09Size n = some r ∧ 0 ≤ r ∧ (r = n ∨ r = -n) := by
  unfold t_spec_l09Size
  by_cases c : n < 0
  · have w : wr (0 - n) = -n := by rw [wr_id (by omega) (by omega)]; omega
    simp only [c, decide_true, cond_true, w]
    exact ⟨_, rfl, by omega, .inr rfl⟩
  · simp only [c, decide_false, cond_false]
    exact ⟨_, rfl, by omega, .inl rfl⟩
/-- Two sequences, and a band for both. -/
structure Two (a b : List Feat) (band : Int) : Prop where
  a1 : 1 ≤ a.length
  a2 : a.length ≤ 9
  b1 : 1 ≤ b.length
  b2 : b.length ≤ 9
  fa : ∀ f ∈ a, FOK f
  fb : ∀ f ∈ b, FOK f
  d1 : (a.length : Int) - b.length ≤ band
  d2 : (b.length : Int) - a.length ≤ band
  b0 : 0 ≤ band
  b3 : band ≤ 20
theorem two_ex (code : Sl UInt8) : ∃ a b band, t_spec_A2Two code = some (some a, some b, band) ∧ Two a b band := by
  obtain ⟨a, s1, e1, k1, la1, la2, fa⟩ := dr_feats (s := ⟨code, 0, 0⟩) (k := 0) ⟨by simp, by simp⟩ (by omega) (most := 8) (by omega) (by omega)
  obtain ⟨b, s2, e2, k2, lb1, lb2, fb⟩ := dr_feats k1 (by omega) (most := 8) (by omega) (by omega)
  obtain ⟨r3, s3, e3, k3⟩ := dr_one k2 (by omega) (n := 2) (by omega)
  unfold t_spec_A2Two
  simp only [e1, e2, e3, obind_sm]
  cases r3 with
  | true =>
    obtain ⟨r4, s4, e4, k4, p4, q4, _⟩ := dr_pick k3 (by omega) (n := 256) (by omega)
    have q4' := q4 (by omega)
    have ap := appO_some (s := some ([] : List Feat)) (l := a) (by simp; omega)
    obtain ⟨f, hf, hf2⟩ := getI_in (l := a) (i := 0) (by omega) (by omega)
    have fm := fa f (List.mem_of_getElem? hf2)
    have ee : appS (some ([] : List Feat)) a = some a := by simp [appS]
    have w1 : wr ((a.length : Int) - (a.length : Int)) = 0 := by rw [wr_id (by omega) (by omega)]; omega
    obtain ⟨r5, e5, p5, q5⟩ := size_ok (n := 0) (by omega) (by omega)
    obtain ⟨r6, s6, e6, k6, p6, q6, _⟩ := dr_pick k4 (by omega) (n := 4) (by omega)
    have q6' := q6 (by omega)
    have w2 : wr (r5 + r6) = r5 + r6 := wr_id (by omega) (by omega)
    simp only [cond_true, Option.getD_some, ap, obind_sm, e4, ee, hf, setS, Option.map_some, List.length_set, w1, e5, e6, w2]
    refine ⟨_, _, _, rfl, la1, by omega, by simp; omega, by simp; omega, fa, fun g hg => ?_, by simp; omega, by simp; omega, by omega, by omega⟩
    rcases List.mem_or_eq_of_mem_set hg with hg | hg
    · exact fa g hg
    · subst hg
      exact ⟨p4, by simp only; omega, fm.y0, fm.y1, fm.d0, fm.d1⟩
  | false =>
    have w1 : wr ((a.length : Int) - (b.length : Int)) = (a.length : Int) - b.length := wr_id (by omega) (by omega)
    obtain ⟨r5, e5, p5, q5⟩ := size_ok (n := (a.length : Int) - b.length) (by omega) (by omega)
    obtain ⟨r6, s6, e6, k6, p6, q6, _⟩ := dr_pick k3 (by omega) (n := 4) (by omega)
    have q6' := q6 (by omega)
    have w2 : wr (r5 + r6) = r5 + r6 := wr_id (by omega) (by omega)
    simp only [cond_false, Option.getD_some, w1, e5, obind_sm, e6, w2]
    exact ⟨_, _, _, rfl, la1, by omega, lb1, by omega, fa, fb, by omega, by omega, by omega, by omega⟩

/-- A path through two sequences of `n` and `m` elements: from the first pair to the last one by steps. -/
def stepOK (p q : Pair) : Prop := (q.i = p.i ∨ q.i = p.i + 1) ∧ (q.j = p.j ∨ q.j = p.j + 1) ∧ q ≠ p
def chain : List Pair → Prop
  | p :: q :: r => stepOK p q ∧ chain (q :: r)
  | _ => True
structure PathOK (l : List Pair) (n m : Int) : Prop where
  first : l.head? = some ⟨0, 0⟩
  last : l.getLast? = some ⟨n - 1, m - 1⟩
  steps : chain l
theorem pair_ne {a b c d : Int} (h : a ≠ c ∨ b ≠ d) : (⟨a, b⟩ : Pair) ≠ ⟨c, d⟩ := by
  intro e
  simp only [Pair.mk.injEq] at e
  rcases h with h | h
  · exact h e.1
  · exact h e.2
theorem chain_app {l : List Pair} {p q : Pair} (h : chain l) (hl : l.getLast? = some p) (hs : stepOK p q) : chain (l ++ [q]) := by
  induction l with
  | nil => simp at hl
  | cons a l ih =>
    cases l with
    | nil =>
      simp at hl
      subst hl
      exact ⟨hs, trivial⟩
    | cons b l => exact ⟨h.1, ih h.2 (by simpa [List.getLast?_cons_cons] using hl)⟩
theorem getLast_get {A : Type} {l : List A} {x : A} (h : l.getLast? = some x) (hl : l.length ≤ 1000000) : getI l (wr ((l.length : Int) - 1)) = some x := by
  have h1 : l ≠ [] := by rintro rfl; simp at h
  have hp : 0 < l.length := List.length_pos_iff.2 h1
  have w : wr ((l.length : Int) - 1) = ((l.length - 1 : Nat) : Int) := by rw [wr_id (by omega) (by omega)]; omega
  rw [w]
  apply getI_nat
  rw [List.getLast?_eq_getElem?] at h
  exact h
theorem path_ex (code : Sl UInt8) {n m : Int} (hn : 1 ≤ n) (hn2 : n ≤ 100) (hm : 1 ≤ m) (hm2 : m ≤ 100) : ∃ l, t_spec_A2Path code n m = some (some l) ∧ PathOK l n m ∧ l.length ≤ 200 := by
  have w1 : wr (n - 1) = n - 1 := wr_id (by omega) (by omega)
  have w2 : wr (m - 1) = m - 1 := wr_id (by omega) (by omega)
  unfold t_spec_A2Path
  -- the steps are counted by how far the path has come; every round goes on by one step at least
  have key : ∀ (k : Nat) (s : l00Src) (l : List Pair) (i j : Int), (n - 1 - i) + (m - 1 - j) ≤ k → 0 ≤ i → i ≤ n - 1 → 0 ≤ j → j ≤ m - 1 → l.head? = some ⟨0, 0⟩ → l.getLast? = some ⟨i, j⟩ → chain l → (l.length : Int) ≤ i + j + 1 → SK s (1000 - 4 * k) → k ≤ 200 →
      ∃ l', loopT (s0_spec_A2Path n m) (s.code, s.pos, s.seed, some l, i, j) = some (some l') ∧ PathOK l' n m ∧ l'.length ≤ 200 := by
    intro k
    induction k with
    | zero =>
      intro s l i j hk hi hi2 hj hj2 h1 h2 h3 h4 h5 h6
      have ei : i = n - 1 := by omega
      have ej : j = m - 1 := by omega
      subst ei ej
      have e : s0_spec_A2Path n m (s.code, s.pos, s.seed, some l, n - 1, m - 1) = some (.inr (some l)) := by
        unfold s0_spec_A2Path
        simp only [w1, w2, Int.lt_irrefl, decide_false, cond_false, obind_sm]
      exact ⟨l, loopT_end e, ⟨h1, h2, h3⟩, by omega⟩
    | succ k ih =>
      intro s l i j hk hi hi2 hj hj2 h1 h2 h3 h4 h5 h6
      by_cases hend : i = n - 1 ∧ j = m - 1
      · obtain ⟨ei, ej⟩ := hend
        subst ei ej
        have e : s0_spec_A2Path n m (s.code, s.pos, s.seed, some l, n - 1, m - 1) = some (.inr (some l)) := by
          unfold s0_spec_A2Path
          simp only [w1, w2, Int.lt_irrefl, decide_false, cond_false, obind_sm]
        exact ⟨l, loopT_end e, ⟨h1, h2, h3⟩, by omega⟩
      obtain ⟨r, s', er, k', p', q', _⟩ := dr_pick h5 (by omega) (n := 3) (by omega)
      have er' : t_spec_l00Src_pick ⟨s.code, s.pos, s.seed⟩ 3 = some (r, s') := er
      have a1 : wr (i + 1) = i + 1 := wr_id (by omega) (by omega)
      have a2 : wr (j + 1) = j + 1 := wr_id (by omega) (by omega)
      have gl := getLast_get h2 (by omega)
      have go : ∀ (i' j' : Int), i' ≤ n - 1 → j' ≤ m - 1 → stepOK ⟨i, j⟩ ⟨i', j'⟩ → ∃ l', loopT (s0_spec_A2Path n m) (s'.code, s'.pos, s'.seed, some (l ++ [⟨i', j'⟩]), i', j') = some (some l') ∧ PathOK l' n m ∧ l'.length ≤ 200 := by
        intro i' j' h7 h8 hs
        have hs' := hs
        obtain ⟨g1, g2, g3⟩ := hs
        simp only at g1 g2
        have : ¬ (i' = i ∧ j' = j) := fun ⟨e1, e2⟩ => g3 (by rw [e1, e2])
        refine ih s' (l ++ [⟨i', j'⟩]) i' j' (by omega) (by omega) h7 (by omega) h8 ?_ (by simp) (chain_app h3 h2 hs') (by simp; omega) (k'.mono (by omega)) (by omega)
        cases l with
        | nil => simp at h1
        | cons a l => simpa using h1
      have ap := fun x : Pair => appO_some (s := some l) (l := [x]) (by simp; omega)
      have tryit : ∀ (i' j' : Int), i' ≤ n - 1 → j' ≤ m - 1 → stepOK ⟨i, j⟩ ⟨i', j'⟩ → s0_spec_A2Path n m (s.code, s.pos, s.seed, some l, i, j) = some (.inl (s'.code, s'.pos, s'.seed, appS (some l) [⟨i', j'⟩], i', j')) → ∃ l', loopT (s0_spec_A2Path n m) (s.code, s.pos, s.seed, some l, i, j) = some (some l') ∧ PathOK l' n m ∧ l'.length ≤ 200 := by
        intro i' j' h7 h8 hs e
        rw [loopT_next e]
        exact go i' j' h7 h8 hs
      have ne1 : (⟨i, j⟩ : Pair) ≠ ⟨i + 1, j + 1⟩ := pair_ne (by omega)
      have ne2 : (⟨i, j⟩ : Pair) ≠ ⟨i + 1, j⟩ := pair_ne (by omega)
      have ne3 : (⟨i, j⟩ : Pair) ≠ ⟨i, j + 1⟩ := pair_ne (by omega)
      by_cases ci : i = n - 1
      · have cj : j ≠ m - 1 := fun h => hend ⟨ci, h⟩
        have cj2 : j < m - 1 := by omega
        refine tryit i (j + 1) (by omega) (by omega) ⟨.inl rfl, .inr rfl, pair_ne (by omega)⟩ ?_
        unfold s0_spec_A2Path
        subst ci
        by_cases r0 : r = 0 <;> simp [w1, w2, cj, cj2, er', a2, gl, ne3, ap, r0]
      · have ci2 : i < n - 1 := by omega
        by_cases cj : j = m - 1
        · refine tryit (i + 1) j (by omega) (by omega) ⟨.inr rfl, .inl rfl, pair_ne (by omega)⟩ ?_
          unfold s0_spec_A2Path
          subst cj
          by_cases r0 : r = 0 <;> by_cases c3 : i + 1 = n - 1 <;> simp [w1, w2, ci2, ci, er', a1, gl, ne2, ap, r0, c3]
        · have cj2 : j < m - 1 := by omega
          by_cases r1 : r = 1
          · refine tryit i (j + 1) (by omega) (by omega) ⟨.inl rfl, .inr rfl, pair_ne (by omega)⟩ ?_
            unfold s0_spec_A2Path
            simp [w1, w2, ci2, ci, cj, cj2, er', a1, a2, gl, ne3, ap, r1]
          · by_cases c4 : r = 0 ∧ i + 1 ≠ n - 1
            · refine tryit (i + 1) j (by omega) (by omega) ⟨.inr rfl, .inl rfl, pair_ne (by omega)⟩ ?_
              unfold s0_spec_A2Path
              simp [w1, w2, ci2, ci, cj, cj2, er', a1, a2, gl, ne2, ap, r1, c4]
            · refine tryit (i + 1) (j + 1) (by omega) (by omega) ⟨.inr rfl, .inr rfl, pair_ne (by omega)⟩ ?_
              unfold s0_spec_A2Path
              by_cases r0 : r = 0
              · have c5 : i + 1 = n - 1 := by
                  by_cases h : i + 1 = n - 1
                  · exact h
                  · exact absurd ⟨r0, h⟩ c4
                simp [w1, w2, ci2, ci, cj, cj2, er', a1, a2, gl, ne1, ap, r1, r0, c5]
              · simp [w1, w2, ci2, ci, cj, cj2, er', a1, a2, gl, ne1, ap, r1, r0]
  have h0 := key 200 ⟨code, 0, 0⟩ [⟨0, 0⟩] 0 0 (by omega) (by omega) (by omega) (by omega) (by omega) rfl rfl trivial (by simp) ⟨by simp, by simp⟩ (by omega)
  obtain ⟨l', e, h1, h2⟩ := h0
  simp only at e
  rw [e]
  exact ⟨l', rfl, h1, h2⟩

theorem wr_succ {k n : Nat} (h : k < n) (hn : n ≤ 4294967296) : wr ((k : Int) + 1) = ((k + 1 : Nat) : Int) := by
  rw [wr_id (by omega) (by omega)]
  omega
theorem get_lt {A : Type} {l : List A} {k : Nat} {a : A} (h : l[k]? = some a) : k < l.length := (List.getElem?_eq_some_iff.1 h).1
theorem cf_Feat {p : Feat → Option Bool} {f : Feat → Bool} (l : List Feat) (hl : l.length ≤ 4294967296) (hp : ∀ a ∈ l, p a = some (f a)) : t_slices_ContainsFunc_impl_Feat_impl_Feat p (some l) = some (l.any f) := by
  unfold t_slices_ContainsFunc_impl_Feat_impl_Feat t_slices_IndexFunc_impl_Feat_impl_Feat
  have h := loopT_first (step := s0_slices_IndexFunc_impl_Feat_impl_Feat p (some l)) l (fun k a => bif f a then some (k : Int) else none) (.inl ()) .inr
    (fun k a ha => by
      have hk := get_lt ha
      have c : (k : Int) < (l.length : Nat) := by omega
      have w := wr_succ hk hl
      unfold s0_slices_IndexFunc_impl_Feat_impl_Feat
      simp only [Option.getD_some, c, decide_true, cond_true, getI_nat ha, obind_sm, hp a (List.mem_of_getElem? ha), w]
      cases f a <;> rfl)
    (by
      unfold s0_slices_IndexFunc_impl_Feat_impl_Feat
      simp only [Option.getD_some, Int.lt_irrefl, decide_false, cond_false])
  have key : ∀ (l : List Feat) (k : Nat) (x : Option Int), firstL (fun (k : Nat) a => bif f a then some (k : Int) else none) l k = x → (x = none ∧ l.any f = false) ∨ ∃ r, x = some r ∧ 0 ≤ r ∧ l.any f = true := by
    intro l
    induction l with
    | nil => intro k x hx; exact .inl ⟨hx.symm, rfl⟩
    | cons a l ih =>
      intro k x hx
      unfold firstL at hx
      cases e : f a with
      | true =>
        rw [e] at hx
        exact .inr ⟨(k : Int), hx.symm, by omega, by simp [e]⟩
      | false =>
        rw [e] at hx
        rcases ih (k + 1) x hx with h | ⟨r, h1, h2, h3⟩
        · exact .inl ⟨h.1, by simp [e, h.2]⟩
        · exact .inr ⟨r, h1, h2, by simp [e, h3]⟩
  rcases key l 0 _ rfl with ⟨h1, h2⟩ | ⟨r, h1, h2, h3⟩
  · rw [h1] at h
    simp [h, h2]
  · rw [h1] at h
    simp [h, h2, h3]
theorem validFeat_ok {f : Feat} (h : FOK f) : t_impl_ValidFeat f = some true := by
  obtain ⟨h1, h2, h3, h4, h5, h6⟩ := h
  simp [t_impl_ValidFeat, within, h1, h2, h3, h4, h5, h6]
theorem validSeq_ok {l : List Feat} (h : ∀ f ∈ l, FOK f) (h1 : 1 ≤ l.length) (h2 : l.length ≤ 72) : t_impl_ValidSeq (some l) = some true := by
  have c := cf_Feat (p := t_impl_areFeats_1) (f := fun _ => false) l (by omega) (fun a ha => by simp [t_impl_areFeats_1, validFeat_ok (h a ha)])
  have e : l.any (fun _ => false) = false := by simp
  rw [e] at c
  have c1 : (1 : Int) ≤ (l.length : Nat) := by omega
  have c2 : ((l.length : Nat) : Int) ≤ 72 := by omega
  simp [t_impl_ValidSeq, t_impl_areFeats, c, c1, c2]

/-- Each pair of a path is in the table; its indices differ by the band at most. -/
theorem chain_get : ∀ {l : List Pair} {k : Nat} {p q : Pair}, chain l → l[k]? = some p → l[k + 1]? = some q → stepOK p q
  | a :: b :: r, 0, p, q, h, h1, h2 => by
    simp at h1 h2
    subst h1 h2
    exact h.1
  | a :: b :: r, k + 1, p, q, h, h1, h2 => chain_get (l := b :: r) h.2 (by simpa using h1) (by simpa using h2)
  | [a], 0, p, q, h, h1, h2 => by simp at h2
  | [a], k + 1, p, q, h, h1, h2 => by simp at h1
  | [], _, _, _, _, h1, _ => by simp at h1
theorem chain_mono : ∀ {l : List Pair}, chain l → ∀ (i : Nat) (d : Nat) {p q : Pair}, l[i]? = some p → l[i + d]? = some q → p.i ≤ q.i ∧ p.j ≤ q.j := by
  intro l h i d
  induction d with
  | zero =>
    intro p q h1 h2
    rw [Nat.add_zero, h1] at h2
    cases h2
    exact ⟨Int.le_refl _, Int.le_refl _⟩
  | succ d ih =>
    intro p q h1 h2
    have hlt := get_lt h2
    obtain ⟨m, hm⟩ : ∃ m, l[i + d]? = some m := ⟨l[i + d], List.getElem?_eq_getElem (by omega)⟩
    have h3 := ih h1 hm
    have h4 := chain_get h hm (by rw [Nat.add_assoc]; exact h2)
    obtain ⟨g1, g2, _⟩ := h4
    omega
theorem path_in {l : List Pair} {n m : Int} (P : PathOK l n m) {k : Nat} {p : Pair} (h : l[k]? = some p) : 0 ≤ p.i ∧ p.i ≤ n - 1 ∧ 0 ≤ p.j ∧ p.j ≤ m - 1 := by
  have hk := get_lt h
  have h0 : l[0]? = some ⟨0, 0⟩ := by rw [← P.first]; cases l <;> rfl
  have h1 : l[l.length - 1]? = some ⟨n - 1, m - 1⟩ := by rw [← P.last, List.getLast?_eq_getElem?]
  have a := chain_mono P.steps 0 k h0 (by simpa using h)
  have b := chain_mono P.steps k (l.length - 1 - k) h (by rw [← h1]; congr 1; omega)
  simp only at a b
  omega
theorem validPath_ok {l : List Pair} {n m : Int} (P : PathOK l n m) (hl : l.length ≤ 100000) (hn : n ≤ 73) (hm : m ≤ 73) : t_impl_ValidPath (some l) n m 72 = some true := by
  have hne : l ≠ [] := by
    rintro rfl
    have := P.first
    simp at this
  have hp : 0 < l.length := List.length_pos_iff.2 hne
  have h0 : l[0]? = some ⟨0, 0⟩ := by rw [← P.first]; cases l <;> rfl
  have g0 : getI l 0 = some ⟨0, 0⟩ := getI_nat (m := 0) h0
  have gl := getLast_get P.last (by omega)
  have hin := path_in P h0
  simp only at hin
  have w1 : wr (n - 1) = n - 1 := wr_id (by have := path_in P h0; omega) (by omega)
  have w2 : wr (m - 1) = m - 1 := wr_id (by have := path_in P h0; omega) (by omega)
  have c0 : ¬ ((l.length : Nat) : Int) = 0 := by omega
  have lp := loopT_first (step := s0_impl_ValidPath (some l) 72) l (fun _ _ => (none : Option Bool)) (.inl ()) .inr
    (fun k a ha => by
      have hk := get_lt ha
      have c : (k : Int) < (l.length : Nat) := by omega
      have w := wr_succ hk (by omega)
      have ia := path_in P ha
      have b1 : wr (a.i - a.j) = a.i - a.j := wr_id (by omega) (by omega)
      have b2 : wr (0 - 72 : Int) = -72 := rfl
      have b3 : within (a.i - a.j) (-72) 72 = true := by simp [within]; omega
      unfold s0_impl_ValidPath
      by_cases k0 : k = 0
      · subst k0
        have c' : (0 : Int) < (l.length : Nat) := by omega
        rw [h0] at ha
        cases ha
        have b4 : within (wr 0) (wr (-72)) 72 = true := rfl
        have w' : wr (1 : Int) = 1 := rfl
        simp [hp, g0, b4, w']
      · have c3 : (0 : Int) < (k : Int) := by omega
        have w3 : wr ((k : Int) - 1) = ((k - 1 : Nat) : Int) := by rw [wr_id (by omega) (by omega)]; omega
        obtain ⟨q, hq⟩ : ∃ q, l[k - 1]? = some q := ⟨l[k - 1], List.getElem?_eq_getElem (by omega)⟩
        have st := chain_get P.steps hq (by rw [Nat.sub_add_cancel (by omega)]; exact ha)
        obtain ⟨s1, s2, s3⟩ := st
        have iq := path_in P hq
        have d1 : wr (a.i - q.i) = a.i - q.i := wr_id (by omega) (by omega)
        have d2 : wr (a.j - q.j) = a.j - q.j := wr_id (by omega) (by omega)
        have d3 : wr (a.i - q.i + (a.j - q.j)) = a.i - q.i + (a.j - q.j) := wr_id (by omega) (by omega)
        have d4 : within (a.i - q.i) 0 1 = true := by simp [within]; omega
        have d5 : within (a.j - q.j) 0 1 = true := by simp [within]; omega
        have d6 : ¬ a.i - q.i + (a.j - q.j) = 0 := by
          intro h
          apply s3
          obtain ⟨a1, a2⟩ := a
          obtain ⟨q1, q2⟩ := q
          simp only [Pair.mk.injEq] at *
          omega
        simp only [Option.getD_some, c, c3, decide_true, cond_true, getI_nat ha, obind_sm, w3, getI_nat hq, d1, d2, d3, d4, d5, d6, decide_false, Bool.not_true, cond_false, b1, b2, b3, w])
    (by
      unfold s0_impl_ValidPath
      simp only [Option.getD_some, Int.lt_irrefl, decide_false, cond_false])
  rw [firstL_none (fun _ _ _ => rfl)] at lp
  unfold t_impl_ValidPath
  simp [hne, g0, gl, w1, w2, lp]
theorem pathable_ok {a b : List Feat} {band : Int} (T : Two a b band) {l : List Pair} (P : PathOK l (a.length : Nat) (b.length : Nat)) (hl : l.length ≤ 100000) : t_impl_pathable (some a) (some b) (some l) = some 0 := by
  have h1 := validSeq_ok T.fa T.a1 (by have := T.a2; omega)
  have h2 := validSeq_ok T.fb T.b1 (by have := T.b2; omega)
  have h3 := validPath_ok P hl (by have := T.a2; omega) (by have := T.b2; omega)
  simp [t_impl_pathable, h1, h2, h3]

/-- One pair lies ahead of another. -/
def Pre (p q i j : Nat) : Prop := (i = p + 1 ∧ j = q + 1) ∨ (i = p + 1 ∧ j = q) ∨ (i = p ∧ j = q + 1)
/-- A path's cost, from the first pair on. -/
inductive Pth (C : Nat → Nat → Int) (R : Nat → Nat → Prop) : Nat → Nat → Int → Prop
  | start : R 0 0 → Pth C R 0 0 (C 0 0)
  | step {p q i j : Nat} {c : Int} : Pth C R p q c → Pre p q i j → R i j → Pth C R i j (c + C i j)
theorem Pth.inv {C : Nat → Nat → Int} {R : Nat → Nat → Prop} {i j : Nat} {c : Int} (h : Pth C R i j c) : (i = 0 ∧ j = 0 ∧ c = C 0 0 ∧ R 0 0) ∨ ∃ p q c', Pth C R p q c' ∧ Pre p q i j ∧ R i j ∧ c = c' + C i j := by
  cases h with
  | start h => exact .inl ⟨rfl, rfl, rfl, h⟩
  | step h1 h2 h3 => exact .inr ⟨_, _, _, h1, h2, h3, rfl⟩
theorem Pth.r {C : Nat → Nat → Int} {R : Nat → Nat → Prop} {i j : Nat} {c : Int} (h : Pth C R i j c) : R i j := by
  cases h with
  | start h => exact h
  | step h1 h2 h3 => exact h3
theorem Pth.bound {C : Nat → Nat → Int} {R : Nat → Nat → Prop} {K : Int} (hC : ∀ i j, 0 ≤ C i j ∧ C i j ≤ K) {i j : Nat} {c : Int} (h : Pth C R i j c) : 0 ≤ c ∧ c ≤ K * ((i + j + 1 : Nat) : Int) := by
  have hK : 0 ≤ K := Int.le_trans (hC 0 0).1 (hC 0 0).2
  induction h with
  | start h => have := hC 0 0; simp; omega
  | @step p q i j c h1 h2 h3 ih =>
    have := hC i j
    have e : K * ((p + q + 1 : Nat) : Int) + K ≤ K * ((i + j + 1 : Nat) : Int) := by
      have e1 : K * ((p + q + 1 : Nat) : Int) + K = K * ((p + q + 2 : Nat) : Int) := by
        have e2 : ((p + q + 2 : Nat) : Int) = ((p + q + 1 : Nat) : Int) + 1 := by omega
        rw [e2, Int.mul_add, Int.mul_one]
      rw [e1]
      apply Int.mul_le_mul_of_nonneg_left _ hK
      rcases h2 with h2 | h2 | h2 <;> omega
    omega
/-- The least cost of the paths to a pair, `B` where there is none. -/
def Opt (B : Int) (C : Nat → Nat → Int) (R : Nat → Nat → Prop) (i j : Nat) (v : Int) : Prop :=
  (v = B ∧ ∀ c, ¬ Pth C R i j c) ∨ (v < B ∧ Pth C R i j v ∧ ∀ c, Pth C R i j c → v ≤ c)
theorem Opt.le {B : Int} {C : Nat → Nat → Int} {R : Nat → Nat → Prop} {i j : Nat} {v : Int} (h : Opt B C R i j v) : v ≤ B := by
  rcases h with ⟨h, _⟩ | ⟨h, _⟩ <;> omega
theorem Opt.of {B : Int} {C : Nat → Nat → Int} {R : Nat → Nat → Prop} {i j : Nat} {v : Int} (h : Opt B C R i j v) {c : Int} (hc : Pth C R i j c) : v ≤ c ∧ Pth C R i j v ∧ v < B := by
  rcases h with ⟨_, h⟩ | ⟨h1, h2, h3⟩
  · exact absurd hc (h c)
  · exact ⟨h3 c hc, h2, h1⟩
theorem Opt.path {B : Int} {C : Nat → Nat → Int} {R : Nat → Nat → Prop} {i j : Nat} {v : Int} (h : Opt B C R i j v) (hv : v < B) : Pth C R i j v := by
  rcases h with ⟨h, _⟩ | ⟨_, h, _⟩
  · omega
  · exact h
theorem opt_far {B : Int} {C : Nat → Nat → Int} {R : Nat → Nat → Prop} {i j : Nat} {b : Int} (h0 : ¬ (i = 0 ∧ j = 0)) (h1 : ∀ p q, Pre p q i j → ∃ v, Opt B C R p q v ∧ b ≤ v) (h : ¬ R i j ∨ B ≤ b) : Opt B C R i j B := by
  refine .inl ⟨rfl, fun c hc => ?_⟩
  rcases hc.inv with ⟨h2, h3, _⟩ | ⟨p, q, c', h2, h3, h4, _⟩
  · exact h0 ⟨h2, h3⟩
  · obtain ⟨v, h5, h6⟩ := h1 p q h3
    rcases h with h | h
    · exact h h4
    · have := (h5.of h2).2.2
      omega
theorem opt_step {B K : Int} {C : Nat → Nat → Int} {R : Nat → Nat → Prop} (hC : ∀ i j, 0 ≤ C i j ∧ C i j ≤ K) {i j : Nat} (hB : K * ((i + j + 1 : Nat) : Int) < B) {b : Int} (h0 : ¬ (i = 0 ∧ j = 0)) (h1 : ∀ p q, Pre p q i j → ∃ v, Opt B C R p q v ∧ b ≤ v) (h2 : ∃ p q, Pre p q i j ∧ Opt B C R p q b) (hb : b < B) (hr : R i j) : Opt B C R i j (b + C i j) := by
  obtain ⟨p, q, h3, h4⟩ := h2
  have hp := Pth.step (h4.path hb) h3 hr
  have := hp.bound hC
  refine .inr ⟨by omega, hp, fun c hc => ?_⟩
  rcases hc.inv with ⟨h5, h6, _⟩ | ⟨p', q', c', h5, h6, h7, h8⟩
  · exact absurd ⟨h5, h6⟩ h0
  · obtain ⟨v, h9, h10⟩ := h1 p' q' h6
    have := (h9.of h5).1
    omega
theorem opt_start {B K : Int} {C : Nat → Nat → Int} {R : Nat → Nat → Prop} (hC : ∀ i j, 0 ≤ C i j ∧ C i j ≤ K) (hB : K < B) (hr : R 0 0) : Opt B C R 0 0 (C 0 0) := by
  have := hC 0 0
  refine .inr ⟨by omega, .start hr, fun c hc => ?_⟩
  rcases hc.inv with ⟨_, _, h, _⟩ | ⟨p, q, c', _, h, _⟩
  · omega
  · rcases h with h | h | h <;> omega

theorem Pth.mono {C D : Nat → Nat → Int} {R S : Nat → Nat → Prop} {i j : Nat} {c : Int} (h : Pth C R i j c) (hR : ∀ p q, p ≤ i → q ≤ j → R p q → S p q) (hC : ∀ p q, p ≤ i → q ≤ j → C p q = D p q) : Pth D S i j c := by
  induction h with
  | start h =>
    rw [hC 0 0 (Nat.le_refl _) (Nat.le_refl _)]
    exact .start (hR 0 0 (Nat.le_refl _) (Nat.le_refl _) h)
  | @step p q i j c h1 h2 h3 ih =>
    have hle : p ≤ i ∧ q ≤ j := by rcases h2 with h | h | h <;> omega
    rw [hC i j (Nat.le_refl _) (Nat.le_refl _)]
    exact .step (ih (fun a b h4 h5 => hR a b (by omega) (by omega)) (fun a b h4 h5 => hC a b (by omega) (by omega))) h2 (hR i j (Nat.le_refl _) (Nat.le_refl _) h3)
theorem Pth.swap {C : Nat → Nat → Int} {R : Nat → Nat → Prop} {i j : Nat} {c : Int} (h : Pth C R i j c) : Pth (fun a b => C b a) (fun a b => R b a) j i c := by
  induction h with
  | start h => exact .start (C := fun a b => C b a) (R := fun a b => R b a) h
  | @step p q i j c h1 h2 h3 ih =>
    exact .step (C := fun a b => C b a) (R := fun a b => R b a) (i := j) (j := i) ih (by unfold Pre at *; omega) h3
/-- A path read from its end on. -/
theorem Pth.back {C D : Nat → Nat → Int} {R S : Nat → Nat → Prop} {N M : Nat} (hD : ∀ i j, i ≤ N → j ≤ M → D (N - i) (M - j) = C i j) (hS : ∀ i j, i ≤ N → j ≤ M → S i j) {i j : Nat} {c : Int} (h : Pth C R i j c) :
    ∀ {e : Int}, i ≤ N → j ≤ M → Pth D S (N - i) (M - j) e → Pth D S N M (e + c - C i j) := by
  induction h with
  | start h =>
    intro e hi hj he
    have : e + C 0 0 - C 0 0 = e := by omega
    rw [this]
    exact he
  | @step p q i j c h1 h2 h3 ih =>
    intro e hi hj he
    have hle : p ≤ i ∧ q ≤ j := by rcases h2 with h | h | h <;> omega
    have hs : Pth D S (N - p) (M - q) (e + D (N - p) (M - q)) := .step he (by unfold Pre at *; omega) (hS _ _ (by omega) (by omega))
    have := ih (by omega) (by omega) hs
    rw [hD p q (by omega) (by omega)] at this
    have e2 : e + C p q + c - C p q = e + (c + C i j) - C i j := by omega
    rw [e2] at this
    exact this
theorem Pth.rev {C D : Nat → Nat → Int} {R S : Nat → Nat → Prop} {N M : Nat} (hD : ∀ i j, i ≤ N → j ≤ M → D (N - i) (M - j) = C i j) (hS : ∀ i j, i ≤ N → j ≤ M → S i j) {c : Int} (h : Pth C R N M c) : Pth D S N M c := by
  have h0 : Pth D S (N - N) (M - M) (D 0 0) := by
    rw [Nat.sub_self, Nat.sub_self]
    exact .start (hS 0 0 (Nat.zero_le _) (Nat.zero_le _))
  have := h.back hD hS (Nat.le_refl _) (Nat.le_refl _) h0
  have e := hD N M (Nat.le_refl _) (Nat.le_refl _)
  rw [Nat.sub_self, Nat.sub_self] at e
  rw [e] at this
  have e2 : C N M + c - C N M = c := by omega
  rw [e2] at this
  exact this
theorem Pth.diag {C : Nat → Nat → Int} {R : Nat → Nat → Prop} (h0 : ∀ i, C i i = 0) (hR : ∀ i, R i i) : ∀ n, Pth C R n n 0
  | 0 => by rw [← h0 0]; exact .start (hR 0)
  | n + 1 => by
    have := Pth.step (Pth.diag h0 hR n) (.inl ⟨rfl, rfl⟩) (hR (n + 1))
    rw [h0] at this
    exact this

def fAt (l : List Feat) (i : Nat) : Feat := l.getD i ⟨0, 0, 0⟩
def siz (x : Int) : Int := if x < 0 then -x else x
def fcost (a b : Feat) : Int := siz (a.x - b.x) + siz (a.y - b.y) + 16 * min (siz (a.d - b.d)) (8 - siz (a.d - b.d))
theorem absI_siz {x : Int} (h : -1000000 ≤ x) (h' : x ≤ 1000000) : absI x = siz x := by
  unfold absI siz
  by_cases c : x < 0
  · have w : wr (-x) = -x := wr_id (by omega) (by omega)
    simp [c, w]
  · simp [c]
theorem fAt_ok {l : List Feat} (h : ∀ f ∈ l, FOK f) (i : Nat) : FOK (fAt l i) := by
  unfold fAt
  rw [List.getD_eq_getElem?_getD]
  cases e : l[i]? with
  | none => exact ⟨by simp, by simp, by simp, by simp, by simp, by simp⟩
  | some f => exact h f (List.mem_of_getElem? e)
theorem getI_fAt {l : List Feat} {i : Nat} (h : i < l.length) : getI l (i : Int) = some (fAt l i) := by
  apply getI_nat
  unfold fAt
  rw [List.getD_eq_getElem?_getD, List.getElem?_eq_getElem h]
  rfl
theorem fcost_le {a b : Feat} (ha : FOK a) (hb : FOK b) : 0 ≤ fcost a b ∧ fcost a b ≤ 1000 := by
  obtain ⟨a1, a2, a3, a4, a5, a6⟩ := ha
  obtain ⟨b1, b2, b3, b4, b5, b6⟩ := hb
  unfold fcost siz
  split <;> split <;> split <;> omega
theorem fcost_comm (a b : Feat) : fcost a b = fcost b a := by
  unfold fcost siz
  split <;> split <;> split <;> split <;> split <;> split <;> omega
theorem fcost_self (a : Feat) : fcost a a = 0 := by
  unfold fcost siz
  split <;> split <;> split <;> omega
theorem featCost_ok {a b : Feat} (ha : FOK a) (hb : FOK b) : t_impl_featCost a b = some (fcost a b) := by
  have hc := fcost_le ha hb
  obtain ⟨a1, a2, a3, a4, a5, a6⟩ := ha
  obtain ⟨b1, b2, b3, b4, b5, b6⟩ := hb
  unfold t_impl_featCost
  have w1 : wr (a.d - b.d) = a.d - b.d := wr_id (by omega) (by omega)
  have w2 : wr (a.x - b.x) = a.x - b.x := wr_id (by omega) (by omega)
  have w3 : wr (a.y - b.y) = a.y - b.y := wr_id (by omega) (by omega)
  have q1 := absI_siz (x := a.d - b.d) (by omega) (by omega)
  have q2 := absI_siz (x := a.x - b.x) (by omega) (by omega)
  have q3 := absI_siz (x := a.y - b.y) (by omega) (by omega)
  have p1 : 0 ≤ siz (a.d - b.d) ∧ siz (a.d - b.d) ≤ 7 := by unfold siz; split <;> omega
  have p2 : 0 ≤ siz (a.x - b.x) ∧ siz (a.x - b.x) ≤ 255 := by unfold siz; split <;> omega
  have p3 : 0 ≤ siz (a.y - b.y) ∧ siz (a.y - b.y) ≤ 255 := by unfold siz; split <;> omega
  have w4 : wr (8 - siz (a.d - b.d)) = 8 - siz (a.d - b.d) := wr_id (by omega) (by omega)
  have w5 : wr (siz (a.x - b.x) + siz (a.y - b.y)) = siz (a.x - b.x) + siz (a.y - b.y) := wr_id (by omega) (by omega)
  have w6 : wr (16 * min (siz (a.d - b.d)) (8 - siz (a.d - b.d))) = 16 * min (siz (a.d - b.d)) (8 - siz (a.d - b.d)) := wr_id (by omega) (by omega)
  have w7 : wr (siz (a.x - b.x) + siz (a.y - b.y) + 16 * min (siz (a.d - b.d)) (8 - siz (a.d - b.d))) = fcost a b := by
    have e : siz (a.x - b.x) + siz (a.y - b.y) + 16 * min (siz (a.d - b.d)) (8 - siz (a.d - b.d)) = fcost a b := rfl
    rw [e, wr_id (by omega) (by omega)]
  simp only [w1, w2, w3, obind_sm, q1, q2, q3, w4, w5, w6, w7]

/-- A table's entry. -/
def Val (T : List (Sl Int)) (p q : Nat) (v : Int) : Prop := ∃ row, T[p]? = some (some row) ∧ row[q]? = some v
abbrev far : Int := 1099511627776
theorem lb_in {T : List (Sl Int)} {i j d0 d1 k : Nat} {w v : Int} (hk : k < 3) (h : getI [(⟨1, 1⟩ : Ar2), ⟨1, 0⟩, ⟨0, 1⟩] (k : Int) = some ⟨(d0 : Int), (d1 : Int)⟩) (h0 : d0 ≤ i) (h1 : d1 ≤ j) (hi : i ≤ 1000000) (hj : j ≤ 1000000) (hv : Val T (i - d0) (j - d1) v) :
    s0_impl_leastBefore (some T) (i : Int) (j : Int) ⟨1, 1, 1, 0, 0, 1⟩ (w, (k : Int)) = some (.inl (min w v, ((k + 1 : Nat) : Int))) := by
  obtain ⟨row, r1, r2⟩ := hv
  have c : (k : Int) < 3 := by omega
  have c0 : (d0 : Int) ≤ (i : Int) := by omega
  have c1 : (d1 : Int) ≤ (j : Int) := by omega
  have w0 : wr ((i : Int) - (d0 : Int)) = ((i - d0 : Nat) : Int) := by rw [wr_id (by omega) (by omega)]; omega
  have w1 : wr ((j : Int) - (d1 : Int)) = ((j - d1 : Nat) : Int) := by rw [wr_id (by omega) (by omega)]; omega
  have w2 := wr_succ hk (by omega)
  unfold s0_impl_leastBefore
  simp only [c, decide_true, cond_true, h, obind_sm, c0, c1, Option.getD_some, w0, w1, getI_nat r1, getI_nat r2, w2]
theorem lb_out {T : List (Sl Int)} {i j d0 d1 k : Nat} {w : Int} (hk : k < 3) (h : getI [(⟨1, 1⟩ : Ar2), ⟨1, 0⟩, ⟨0, 1⟩] (k : Int) = some ⟨(d0 : Int), (d1 : Int)⟩) (h0 : ¬ (d0 ≤ i ∧ d1 ≤ j)) :
    s0_impl_leastBefore (some T) (i : Int) (j : Int) ⟨1, 1, 1, 0, 0, 1⟩ (w, (k : Int)) = some (.inl (w, ((k + 1 : Nat) : Int))) := by
  have c : (k : Int) < 3 := by omega
  have w2 := wr_succ hk (by omega)
  unfold s0_impl_leastBefore
  by_cases c0 : (d0 : Int) ≤ (i : Int)
  · have c1 : ¬ (d1 : Int) ≤ (j : Int) := by omega
    simp only [c, decide_true, cond_true, h, obind_sm, c0, c1, decide_false, cond_false, w2]
  · simp only [c, decide_true, cond_true, h, obind_sm, c0, decide_false, cond_false, w2]
/-- The least of the entries ahead of a pair. -/
theorem least_ok {T : List (Sl Int)} {i j : Nat} (hi : i ≤ 1000000) (hj : j ≤ 1000000) (hT : ∀ p q, Pre p q i j → ∃ v, Val T p q v) :
    ∃ b, t_impl_leastBefore (some T) (i : Int) (j : Int) = some b ∧ b ≤ far ∧ (b = far ∨ ∃ p q, Pre p q i j ∧ Val T p q b) ∧ ∀ p q v, Pre p q i j → Val T p q v → b ≤ v := by
  have uniq : ∀ {p q : Nat} {v v' : Int}, Val T p q v → Val T p q v' → v = v' := by
    rintro p q v v' ⟨r, h1, h2⟩ ⟨r', h3, h4⟩
    rw [h1] at h3
    cases h3
    rw [h2] at h4
    cases h4
    rfl
  have round : ∀ (k d0 d1 : Nat) (w : Int), k < 3 → getI [(⟨1, 1⟩ : Ar2), ⟨1, 0⟩, ⟨0, 1⟩] (k : Int) = some ⟨(d0 : Int), (d1 : Int)⟩ → (0 < d0 + d1 ∧ d0 ≤ 1 ∧ d1 ≤ 1) →
      (w = far ∨ ∃ p q, Pre p q i j ∧ Val T p q w) → ∃ w', s0_impl_leastBefore (some T) (i : Int) (j : Int) ⟨1, 1, 1, 0, 0, 1⟩ (w, (k : Int)) = some (.inl (w', ((k + 1 : Nat) : Int))) ∧ w' ≤ w ∧ (w' = far ∨ ∃ p q, Pre p q i j ∧ Val T p q w') ∧
        ∀ p q v, i = p + d0 → j = q + d1 → Val T p q v → w' ≤ v := by
    intro k d0 d1 w hk hg hd hw
    by_cases c : d0 ≤ i ∧ d1 ≤ j
    · have hp : Pre (i - d0) (j - d1) i j := by unfold Pre; omega
      obtain ⟨v, hv⟩ := hT _ _ hp
      refine ⟨min w v, lb_in hk hg c.1 c.2 hi hj hv, by omega, ?_, ?_⟩
      · by_cases m : w ≤ v
        · rw [Int.min_eq_left m]
          exact hw
        · rw [Int.min_eq_right (by omega)]
          exact .inr ⟨_, _, hp, hv⟩
      · intro p q v' e1 e2 hv'
        have ep : p = i - d0 := by omega
        have eq : q = j - d1 := by omega
        subst ep eq
        rw [uniq hv' hv]
        omega
    · refine ⟨w, lb_out hk hg c, Int.le_refl _, hw, ?_⟩
      intro p q v' e1 e2 hv'
      omega
  obtain ⟨w1, e1, l1, o1, m1⟩ := round 0 1 1 far (by omega) rfl (by omega) (.inl rfl)
  obtain ⟨w2, e2, l2, o2, m2⟩ := round 1 1 0 w1 (by omega) rfl (by omega) o1
  obtain ⟨w3, e3, l3, o3, m3⟩ := round 2 0 1 w2 (by omega) rfl (by omega) o2
  refine ⟨w3, ?_, by omega, o3, ?_⟩
  · unfold t_impl_leastBefore t_impl_stepsBack
    simp only [obind_sm]
    rw [show (1099511627776 : Int) = far from rfl, show (0 : Int) = ((0 : Nat) : Int) from rfl, loopT_next (by simpa using e1), loopT_next (by simpa using e2), loopT_next (by simpa using e3)]
    have e4 : s0_impl_leastBefore (some T) (i : Int) (j : Int) ⟨1, 1, 1, 0, 0, 1⟩ (w3, (3 : Int)) = some (.inr w3) := by
      unfold s0_impl_leastBefore
      simp only [Int.lt_irrefl, decide_false, cond_false]
    rw [loopT_end (by simpa using e4)]
    rfl
  · intro p q v hp hv
    rcases hp with ⟨h1, h2⟩ | ⟨h1, h2⟩ | ⟨h1, h2⟩
    · have := m1 p q v h1 h2 hv
      omega
    · have := m2 p q v h1 (by omega) hv
      omega
    · have := m3 p q v (by omega) h2 hv
      omega

abbrev elC (a b : List Feat) : Nat → Nat → Int := fun i j => fcost (fAt a i) (fAt b j)
abbrev elR (band : Int) : Nat → Nat → Prop := fun i j => siz ((i : Int) - (j : Int)) ≤ band
theorem elC_le {a b : List Feat} (fa : ∀ f ∈ a, FOK f) (fb : ∀ f ∈ b, FOK f) (i j : Nat) : 0 ≤ elC a b i j ∧ elC a b i j ≤ 1000 := fcost_le (fAt_ok fa i) (fAt_ok fb j)
/-- The table's rows ahead of `i`, and `j` entries of row `i`, are the least costs. -/
structure Tbl (a b : List Feat) (band : Int) (i j : Nat) (T : List (Sl Int)) : Prop where
  len : T.length = a.length
  val : ∀ p q, q < b.length → (p < i ∨ p = i ∧ q < j) → ∃ v, Val T p q v ∧ Opt far (elC a b) (elR band) p q v
theorem Val.set {T : List (Sl Int)} {i j p q : Nat} {row : List Int} {v w : Int} (hr : T[i]? = some (some row)) (hj : j < row.length) :
    Val (T.set i (some (row.set j w))) p q v ↔ (p = i ∧ q = j ∧ v = w) ∨ (¬ (p = i ∧ q = j) ∧ Val T p q v) := by
  have hi := get_lt hr
  unfold Val
  constructor
  · rintro ⟨r, h1, h2⟩
    by_cases c : i = p
    · subst c
      rw [List.getElem?_set_self hi] at h1
      cases h1
      by_cases d : j = q
      · subst d
        rw [List.getElem?_set_self hj] at h2
        cases h2
        exact .inl ⟨rfl, rfl, rfl⟩
      · rw [List.getElem?_set_ne d] at h2
        exact .inr ⟨fun h => d h.2.symm, row, hr, h2⟩
    · rw [List.getElem?_set_ne c] at h1
      exact .inr ⟨fun h => c h.1.symm, r, h1, h2⟩
  · rintro (⟨rfl, rfl, rfl⟩ | ⟨hne, r, h1, h2⟩)
    · exact ⟨_, List.getElem?_set_self hi, List.getElem?_set_self hj⟩
    · by_cases c : i = p
      · subst c
        rw [hr] at h1
        cases h1
        have d : j ≠ q := fun h => hne ⟨rfl, h.symm⟩
        exact ⟨_, List.getElem?_set_self hi, by rw [List.getElem?_set_ne d]; exact h2⟩
      · exact ⟨r, by rw [List.getElem?_set_ne c]; exact h1, h2⟩
theorem cell_ok {a b : List Feat} {band : Int} (fa : ∀ f ∈ a, FOK f) (fb : ∀ f ∈ b, FOK f) (la : a.length ≤ 100) (lb : b.length ≤ 100) (hb : 0 ≤ band) {i j : Nat} (hi : i < a.length) (hj : j < b.length) {T : List (Sl Int)} {row : List Int}
    (h : Tbl a b band i j T) (hr : T[i]? = some (some row)) (hl : row.length = b.length) :
    ∃ v, s1_impl_costTable (some a) (some b) band (i : Int) (some T, (j : Int)) = some (.inl (some (T.set i (some (row.set j v))), ((j + 1 : Nat) : Int))) ∧ Opt far (elC a b) (elR band) i j v := by
  have hC := elC_le fa fb
  have hpre : ∀ p q, Pre p q i j → q < b.length ∧ (p < i ∨ p = i ∧ q < j) := by
    intro p q hp
    unfold Pre at hp
    omega
  obtain ⟨bef, e1, l1, o1, m1⟩ := least_ok (T := T) (i := i) (j := j) (by omega) (by omega) (fun p q hp => by
    obtain ⟨v, hv, _⟩ := h.val p q (hpre p q hp).1 (hpre p q hp).2
    exact ⟨v, hv⟩)
  have uniq : ∀ {p q : Nat} {v v' : Int}, Val T p q v → Val T p q v' → v = v' := by
    rintro p q v v' ⟨r, h1, h2⟩ ⟨r', h3, h4⟩
    rw [h1] at h3
    cases h3
    rw [h2] at h4
    cases h4
    rfl
  have hp1 : ∀ p q, Pre p q i j → ∃ v, Opt far (elC a b) (elR band) p q v ∧ bef ≤ v := by
    intro p q hp
    obtain ⟨v, hv, ho⟩ := h.val p q (hpre p q hp).1 (hpre p q hp).2
    exact ⟨v, ho, m1 p q v hp hv⟩
  have hB : (1000 : Int) * ((i + j + 1 : Nat) : Int) < far := by unfold far; omega
  have c : (j : Int) < ((b.length : Nat) : Int) := by omega
  have w1 : wr ((i : Int) - (j : Int)) = (i : Int) - (j : Int) := wr_id (by omega) (by omega)
  have q1 := absI_siz (x := (i : Int) - (j : Int)) (by omega) (by omega)
  have ws := wr_succ hj (by omega)
  have gr := getI_nat hr
  obtain ⟨v0, hv0⟩ : ∃ v0, row[j]? = some v0 := ⟨row[j], List.getElem?_eq_getElem (by omega)⟩
  have gv := getI_nat hv0
  have ga := getI_fAt hi
  have gb := getI_fAt hj
  have fc := featCost_ok (fAt_ok fa i) (fAt_ok fb j)
  have hc0 : 0 ≤ fcost (fAt a i) (fAt b j) ∧ fcost (fAt a i) (fAt b j) ≤ 1000 := hC i j
  have tn : ∀ k : Nat, ((k : Int)).toNat = k := fun k => Int.toNat_natCast k
  have st1 : ∀ x : Sl Int, setS (some T) (i : Int) x = some (T.set i x) := fun x => by simp [setS]
  have st2 : ∀ x : Int, setS (some row) (j : Int) x = some (row.set j x) := fun x => by simp [setS]
  have dt : ∀ {P : Prop} [Decidable P], P → decide P = true := fun h => decide_eq_true h
  have df : ∀ {P : Prop} [Decidable P], ¬ P → decide P = false := fun h => decide_eq_false h
  by_cases z : i = 0 ∧ j = 0
  · have q2 : siz ((i : Int) - (j : Int)) = 0 := by unfold siz; split <;> omega
    have D1 := dt (P := (i : Int) = 0) (by omega)
    have D2 := dt (P := (j : Int) = 0) (by omega)
    have D3 := df (P := band < siz ((i : Int) - (j : Int))) (by omega)
    have D4 := df (P := (1099511627776 : Int) ≤ 0) (by omega)
    have w2 : wr (0 + fcost (fAt a i) (fAt b j)) = elC a b i j := by show _ = fcost (fAt a i) (fAt b j); rw [Int.zero_add, wr_id (by omega) (by omega)]
    refine ⟨elC a b i j, ?_, by
      obtain ⟨rfl, rfl⟩ := z
      exact opt_start hC (by unfold far; omega) (by show siz _ ≤ band; rw [q2]; exact hb)⟩
    unfold s1_impl_costTable
    simp only [Option.getD_some, c, decide_true, cond_true, e1, obind_sm, w1, q1, D1, D2, D3, D4, decide_false, cond_false, gr, ga, gb, gv, fc, w2, st1, st2, ws]
    rfl
  · by_cases far1 : band < siz ((i : Int) - (j : Int)) ∨ far ≤ bef
    · refine ⟨far, ?_, opt_far z hp1 (by rcases far1 with h | h; exact .inl (by show ¬ (siz _ ≤ band); omega); exact .inr h)⟩
      unfold s1_impl_costTable
      by_cases ci : (i : Int) = 0
      · have D1 := dt ci
        have D2 := df (P := (j : Int) = 0) (by omega)
        by_cases h : band < siz ((i : Int) - (j : Int))
        · have D3 := dt h
          simp only [Option.getD_some, c, decide_true, cond_true, e1, obind_sm, w1, q1, D1, D2, D3, cond_false, gr, gv, st1, st2, ws]
        · have D3 := df h
          have D4 := dt (P := (1099511627776 : Int) ≤ bef) (far1.resolve_left h)
          simp only [Option.getD_some, c, decide_true, cond_true, e1, obind_sm, w1, q1, D1, D2, D3, D4, cond_false, gr, gv, st1, st2, ws]
      · have D1 := df ci
        by_cases h : band < siz ((i : Int) - (j : Int))
        · have D3 := dt h
          simp only [Option.getD_some, c, decide_true, cond_true, e1, obind_sm, w1, q1, D1, D3, cond_false, gr, gv, st1, st2, ws]
        · have D3 := df h
          have D4 := dt (P := (1099511627776 : Int) ≤ bef) (far1.resolve_left h)
          simp only [Option.getD_some, c, decide_true, cond_true, e1, obind_sm, w1, q1, D1, D3, D4, cond_false, gr, gv, st1, st2, ws]
    · have f1 : ¬ band < siz ((i : Int) - (j : Int)) := fun h => far1 (.inl h)
      have f2 : ¬ (1099511627776 : Int) ≤ bef := fun h => far1 (.inr h)
      have hlt : bef < far := by unfold far; omega
      obtain ⟨p, q, hp, hv⟩ := o1.resolve_left (by omega)
      have ho : Opt far (elC a b) (elR band) p q bef := by
        obtain ⟨v, hv', ho⟩ := h.val p q (hpre p q hp).1 (hpre p q hp).2
        rw [uniq hv hv']
        exact ho
      have os := opt_step hC hB z hp1 ⟨p, q, hp, ho⟩ hlt (by show siz _ ≤ band; omega)
      have bd := (ho.path hlt).bound hC
      refine ⟨bef + elC a b i j, ?_, os⟩
      have w2 : wr (bef + fcost (fAt a i) (fAt b j)) = bef + elC a b i j := by have : bef ≤ far := l1; show _ = bef + fcost (fAt a i) (fAt b j); unfold far at this; rw [wr_id (by omega) (by omega)]
      have D3 := df f1
      have D4 := df f2
      unfold s1_impl_costTable
      by_cases ci : (i : Int) = 0
      · have D1 := dt ci
        have D2 := df (P := (j : Int) = 0) (by omega)
        simp only [Option.getD_some, c, decide_true, cond_true, e1, obind_sm, w1, q1, D1, D2, D3, D4, cond_false, gr, ga, gb, gv, fc, w2, st1, st2, ws]
      · have D1 := df ci
        simp only [Option.getD_some, c, decide_true, cond_true, e1, obind_sm, w1, q1, D1, D3, D4, cond_false, gr, ga, gb, gv, fc, w2, st1, st2, ws]

theorem Tbl.step {a b : List Feat} {band : Int} {i j : Nat} {T : List (Sl Int)} {row : List Int} {v : Int} (h : Tbl a b band i j T) (hr : T[i]? = some (some row)) (hj : j < row.length) (ho : Opt far (elC a b) (elR band) i j v) : Tbl a b band i (j + 1) (T.set i (some (row.set j v))) := by
  refine ⟨by simp [h.len], fun p q hq hpq => ?_⟩
  by_cases e : p = i ∧ q = j
  · obtain ⟨rfl, rfl⟩ := e
    exact ⟨v, (Val.set hr hj).2 (.inl ⟨rfl, rfl, rfl⟩), ho⟩
  · obtain ⟨w, h1, h2⟩ := h.val p q hq (by omega)
    exact ⟨w, (Val.set hr hj).2 (.inr ⟨e, h1⟩), h2⟩
theorem table_ok {a b : List Feat} {band : Int} (fa : ∀ f ∈ a, FOK f) (fb : ∀ f ∈ b, FOK f) (la : a.length ≤ 100) (lb : b.length ≤ 100) (hb : 0 ≤ band) :
    ∃ T, t_impl_costTable (some a) (some b) band = some (some T) ∧ Tbl a b band a.length 0 T := by
  have mk : ∀ {A : Type} (v : A) {n : Nat}, n ≤ 100 → makeO v (n : Int) = some (List.replicate n v) := fun v n hn => by
    unfold makeO
    rw [if_pos ⟨by omega, by omega⟩, Int.toNat_natCast]
  have inner : ∀ (i : Nat), i < a.length → ∀ (T : List (Sl Int)) (row : List Int), Tbl a b band i 0 T → T[i]? = some (some row) → row.length = b.length → ∃ T', loopT (s1_impl_costTable (some a) (some b) band (i : Int)) (some T, 0) = some (some T') ∧ Tbl a b band (i + 1) 0 T' := by
    intro i hi T row h hr hl
    obtain ⟨r, h1, h2⟩ := loopT_ex (step := s1_impl_costTable (some a) (some b) band (i : Int)) (fun j s => ∃ T row, s = (some T, (j : Int)) ∧ Tbl a b band i j T ∧ T[i]? = some (some row) ∧ row.length = b.length) b.length (fun r => ∃ T', r = some T' ∧ Tbl a b band (i + 1) 0 T')
      (fun j s hj hs => by
        obtain ⟨T, row, rfl, h, hr, hl⟩ := hs
        obtain ⟨v, e, ho⟩ := cell_ok fa fb la lb hb hi hj h hr hl
        exact .inl ⟨_, e, _, row.set j v, rfl, h.step hr (by omega) ho, List.getElem?_set_self (get_lt hr), by simp [hl]⟩)
      (fun s hs => by
        obtain ⟨T, row, rfl, h, hr, hl⟩ := hs
        refine ⟨some T, ?_, T, rfl, h.len, fun p q hq hpq => h.val p q hq (by omega)⟩
        unfold s1_impl_costTable
        simp only [Option.getD_some, Int.lt_irrefl, decide_false, cond_false])
      (s := (some T, 0)) ⟨T, row, rfl, h, hr, hl⟩
    obtain ⟨T', rfl, h3⟩ := h2
    exact ⟨T', h1, h3⟩
  obtain ⟨r, h1, h2⟩ := loopT_ex (step := s0_impl_costTable (some a) (some b) band) (fun i s => ∃ T, s = (some T, (i : Int)) ∧ Tbl a b band i 0 T) a.length (fun r => ∃ T, r = some T ∧ Tbl a b band a.length 0 T)
    (fun i s hi hs => by
      obtain ⟨T, rfl, h⟩ := hs
      have c : (i : Int) < ((a.length : Nat) : Int) := by omega
      obtain ⟨x, hx⟩ : ∃ x, T[i]? = some x := ⟨T[i]'(by rw [h.len]; exact hi), List.getElem?_eq_getElem (by rw [h.len]; exact hi)⟩
      have st1 : ∀ x : Sl Int, setS (some T) (i : Int) x = some (T.set i x) := fun x => by simp [setS]
      have hT : Tbl a b band i 0 (T.set i (some (List.replicate b.length 0))) := ⟨by simp [h.len], fun p q hq hpq => by
        obtain ⟨v, ⟨r, h3, h4⟩, h5⟩ := h.val p q hq hpq
        exact ⟨v, ⟨r, by rw [List.getElem?_set_ne (by omega)]; exact h3, h4⟩, h5⟩⟩
      obtain ⟨T', e, h'⟩ := inner i hi _ _ hT (List.getElem?_set_self (get_lt hx)) (by simp)
      refine .inl ⟨(some T', ((i + 1 : Nat) : Int)), ?_, T', rfl, h'⟩
      unfold s0_impl_costTable
      simp only [Option.getD_some, c, decide_true, cond_true, mk (0 : Int) lb, obind_sm, getI_nat hx, st1, e, wr_succ hi (by omega)])
    (fun s hs => by
      obtain ⟨T, rfl, h⟩ := hs
      refine ⟨some T, ?_, T, rfl, h⟩
      unfold s0_impl_costTable
      simp only [Option.getD_some, Int.lt_irrefl, decide_false, cond_false])
    (s := (some (List.replicate a.length none), 0)) ⟨_, rfl, by simp, fun p q _ h => by omega⟩
  obtain ⟨T, rfl, h3⟩ := h2
  refine ⟨T, ?_, h3⟩
  unfold t_impl_costTable
  simp only [Option.getD_some, mk (none : Sl Int) la, obind_sm, h1]
/-- What the program tells as the least cost is the least cost. -/
theorem elastic_ok {a b : List Feat} {band : Int} (fa : ∀ f ∈ a, FOK f) (fb : ∀ f ∈ b, FOK f) (a1 : 1 ≤ a.length) (la : a.length ≤ 72) (b1 : 1 ≤ b.length) (lb : b.length ≤ 72) (hb : 0 ≤ band) (hb2 : band ≤ 72)
    (d1 : (a.length : Int) - b.length ≤ band) (d2 : (b.length : Int) - a.length ≤ band) : ∃ v, t_impl_Elastic (some a) (some b) band = some (v, 0) ∧ Opt far (elC a b) (elR band) (a.length - 1) (b.length - 1) v := by
  obtain ⟨T, e, h⟩ := table_ok (band := band) fa fb (by omega) (by omega) hb
  obtain ⟨v, ⟨r, h1, h2⟩, ho⟩ := h.val (a.length - 1) (b.length - 1) (by omega) (by omega)
  refine ⟨v, ?_, ho⟩
  have w1 : wr ((a.length : Int) - 1) = ((a.length - 1 : Nat) : Int) := by rw [wr_id (by omega) (by omega)]; omega
  have w2 : wr ((b.length : Int) - 1) = ((b.length - 1 : Nat) : Int) := by rw [wr_id (by omega) (by omega)]; omega
  have w3 : wr ((a.length : Int) - b.length) = (a.length : Int) - b.length := wr_id (by omega) (by omega)
  have q := absI_siz (x := (a.length : Int) - b.length) (by omega) (by omega)
  have q2 : siz ((a.length : Int) - b.length) ≤ band := by unfold siz; split <;> omega
  have wi : within band 0 72 = true := by simp [within]; omega
  have v1 := validSeq_ok fa a1 la
  have v2 := validSeq_ok fb b1 lb
  have el : t_impl_elastic (some a) (some b) band = some v := by
    unfold t_impl_elastic
    simp only [e, obind_sm, Option.getD_some, w1, w2, getI_nat h1, getI_nat h2]
  have ma : t_impl_matchable (some a) (some b) band = some 0 := by
    unfold t_impl_matchable t_impl_isBand
    simp [v1, v2, wi, w3, q, q2]
  unfold t_impl_Elastic
  simp [ma, el]

def turn (f : Feat) : Feat := ⟨f.x, f.y, Int.tmod (wr (f.d + 4)) 8⟩
theorem turn_d {f : Feat} (h : FOK f) : (turn f).d = if f.d < 4 then f.d + 4 else f.d - 4 := by
  obtain ⟨h1, h2, h3, h4, h5, h6⟩ := h
  have w : wr (f.d + 4) = f.d + 4 := wr_id (by omega) (by omega)
  have e : (turn f).d = Int.tmod (wr (f.d + 4)) 8 := rfl
  rw [e, w, Int.tmod_eq_emod_of_nonneg (by omega)]
  split <;> omega
theorem turn_ok {f : Feat} (h : FOK f) : FOK (turn f) := by
  have e := turn_d h
  obtain ⟨h1, h2, h3, h4, h5, h6⟩ := h
  refine ⟨h1, h2, h3, h4, ?_, ?_⟩ <;> (rw [e]; split <;> omega)
theorem fcost_turn {f g : Feat} (hf : FOK f) (hg : FOK g) : fcost (turn f) (turn g) = fcost f g := by
  have e1 := turn_d hf
  have e2 := turn_d hg
  have x1 : (turn f).x = f.x := rfl
  have x2 : (turn g).x = g.x := rfl
  have y1 : (turn f).y = f.y := rfl
  have y2 : (turn g).y = g.y := rfl
  obtain ⟨h1, h2, h3, h4, h5, h6⟩ := hf
  obtain ⟨i1, i2, i3, i4, i5, i6⟩ := hg
  unfold fcost
  rw [x1, x2, y1, y2, e1, e2]
  have key : min (siz ((if f.d < 4 then f.d + 4 else f.d - 4) - if g.d < 4 then g.d + 4 else g.d - 4)) (8 - siz ((if f.d < 4 then f.d + 4 else f.d - 4) - if g.d < 4 then g.d + 4 else g.d - 4)) = min (siz (f.d - g.d)) (8 - siz (f.d - g.d)) := by
    unfold siz
    split <;> split <;> split <;> split <;> omega
  rw [key]
def bk (a : List Feat) : List Feat := a.reverse.map turn
theorem bk_len (a : List Feat) : (bk a).length = a.length := by simp [bk]
theorem bk_ok {a : List Feat} (h : ∀ f ∈ a, FOK f) : ∀ f ∈ bk a, FOK f := by
  intro f hf
  simp only [bk, List.mem_map, List.mem_reverse] at hf
  obtain ⟨g, hg, rfl⟩ := hf
  exact turn_ok (h g hg)
theorem bk_at {a : List Feat} {i : Nat} (hi : i ≤ a.length - 1) (h1 : 1 ≤ a.length) : fAt (bk a) (a.length - 1 - i) = turn (fAt a i) := by
  unfold fAt bk
  rw [List.getD_eq_getElem?_getD, List.getD_eq_getElem?_getD, List.getElem?_map, List.getElem?_reverse (by omega)]
  have e : a.length - 1 - (a.length - 1 - i) = i := by omega
  rw [e, List.getElem?_eq_getElem (by omega)]
  rfl
theorem l08Ok_ok {l : List Feat} (h : ∀ f ∈ l, FOK f) (h1 : 1 ≤ l.length) (h2 : l.length ≤ 384) : t_spec_l08Ok (some l) = some true := by
  have lp := loopT_first (step := s0_spec_l08Ok (some l)) l (fun _ _ => (none : Option Bool)) (.inl ()) .inr
    (fun k a ha => by
      have hk := get_lt ha
      have c : (k : Int) < (l.length : Nat) := by omega
      obtain ⟨h1, h2, h3, h4, h5, h6⟩ := h a (List.mem_of_getElem? ha)
      have f : t_spec_l08Feat a = some true := by simp [t_spec_l08Feat, within, h1, h2, h3, h4, h5, h6]
      unfold s0_spec_l08Ok
      simp only [Option.getD_some, c, decide_true, cond_true, getI_nat ha, obind_sm, f, Bool.not_true, cond_false, wr_succ hk (by omega)])
    (by
      unfold s0_spec_l08Ok
      simp only [Option.getD_some, Int.lt_irrefl, decide_false, cond_false])
  rw [firstL_none (fun _ _ _ => rfl)] at lp
  have wi : within (((l.length : Nat) : Int)) 1 384 = true := by simp [within]; omega
  unfold t_spec_l08Ok
  simp [lp, wi]
theorem back_ok {a : List Feat} (h : ∀ f ∈ a, FOK f) (h1 : 1 ≤ a.length) (h2 : a.length ≤ 384) : t_spec_BackFeats (some a) = some (some (bk a), 0) := by
  have lp := loopT_at (step := s0_spec_BackFeats (some a)) a.length (fun k => (some ((bk a).take k), (a.length : Int) - 1 - (k : Int))) (some (bk a))
    (fun k hk => by
      have c : (0 : Int) ≤ (a.length : Int) - 1 - (k : Int) := by omega
      have ci : (a.length : Int) - 1 - (k : Int) = ((a.length - 1 - k : Nat) : Int) := by omega
      have g := getI_fAt (l := a) (i := a.length - 1 - k) (by omega)
      have w : wr ((a.length : Int) - 1 - (k : Int) - 1) = (a.length : Int) - 1 - ((k + 1 : Nat) : Int) := by rw [wr_id (by omega) (by omega)]; omega
      have ap := appO_some (s := some ((bk a).take k)) (l := [turn (fAt a (a.length - 1 - k))]) (by simp; omega)
      have ee : (bk a)[k]? = some (turn (fAt a (a.length - 1 - k))) := by
        have hb := bk_at (a := a) (i := a.length - 1 - k) (by omega) h1
        have e2 : a.length - 1 - (a.length - 1 - k) = k := by omega
        rw [e2] at hb
        rw [← hb]
        unfold fAt
        rw [List.getD_eq_getElem?_getD, List.getElem?_eq_getElem (by rw [bk_len]; exact hk)]
        rfl
      have e3 : appS (some ((bk a).take k)) [turn (fAt a (a.length - 1 - k))] = some ((bk a).take (k + 1)) := by
        show some ((bk a).take k ++ [turn (fAt a (a.length - 1 - k))]) = _
        rw [List.take_add_one, ee]
        rfl
      unfold s0_spec_BackFeats
      rw [← ci] at g
      simp only [Option.getD_some, c, decide_true, cond_true, g, obind_sm, w]
      rw [show (⟨(fAt a (a.length - 1 - k)).x, (fAt a (a.length - 1 - k)).y, Int.tmod (wr ((fAt a (a.length - 1 - k)).d + 4)) 8⟩ : Feat) = turn (fAt a (a.length - 1 - k)) from rfl, ap, obind_sm, e3])
    (by
      have c : ¬ (0 : Int) ≤ (a.length : Int) - 1 - ((a.length : Nat) : Int) := by omega
      unfold s0_spec_BackFeats
      simp only [c, decide_false, cond_false]
      rw [List.take_of_length_le (by rw [bk_len]; exact Nat.le_refl _)])
    0 (Nat.zero_le _)
  have w0 : wr ((a.length : Int) - 1) = (a.length : Int) - 1 - ((0 : Nat) : Int) := by rw [wr_id (by omega) (by omega)]; omega
  unfold t_spec_BackFeats
  simp only [l08Ok_ok h h1 h2, obind_sm, Bool.not_true, cond_false, Option.getD_some, w0]
  rw [show (some ([] : List Feat)) = some ((bk a).take 0) from rfl, lp]
  rfl

/-- What a path costs is what the program says. -/
theorem pathCost_ok {a b : List Feat} (fa : ∀ f ∈ a, FOK f) (fb : ∀ f ∈ b, FOK f) (a1 : 1 ≤ a.length) (la : a.length ≤ 72) (b1 : 1 ≤ b.length) (lb : b.length ≤ 72) {l : List Pair} (P : PathOK l (a.length : Nat) (b.length : Nat)) (hl : l.length ≤ 1000)
    {R : Nat → Nat → Prop} (hR : ∀ p ∈ l, R p.i.toNat p.j.toNat) : ∃ s, t_impl_PathCost (some a) (some b) (some l) = some (s, 0) ∧ Pth (elC a b) R (a.length - 1) (b.length - 1) s := by
  have hne : l ≠ [] := by
    rintro rfl
    have := P.first
    simp at this
  have hp : 0 < l.length := List.length_pos_iff.2 hne
  have h0 : l[0]? = some ⟨0, 0⟩ := by rw [← P.first]; cases l <;> rfl
  have h9 : l[l.length - 1]? = some ⟨(a.length : Int) - 1, (b.length : Int) - 1⟩ := by rw [← P.last, List.getLast?_eq_getElem?]
  obtain ⟨s, h1, h2⟩ := loopT_ex (step := s0_impl_PathCost (some a) (some b) (some l)) (fun k s => s.2 = (k : Int) ∧ (k = 0 → s.1 = 0) ∧ ∀ k', k = k' + 1 → ∃ p, l[k']? = some p ∧ Pth (elC a b) R p.i.toNat p.j.toNat s.1) l.length
    (fun s => Pth (elC a b) R (a.length - 1) (b.length - 1) s)
    (fun k s hk hs => by
      obtain ⟨s, x⟩ := s
      obtain ⟨hx, hz, hs⟩ := hs
      simp only at hx hz hs
      subst hx
      have c : (k : Int) < ((l.length : Nat) : Int) := by omega
      obtain ⟨p, hp⟩ : ∃ p, l[k]? = some p := ⟨l[k], List.getElem?_eq_getElem hk⟩
      have pin := path_in P hp
      have ei : p.i = ((p.i.toNat : Nat) : Int) := by omega
      have ej : p.j = ((p.j.toNat : Nat) : Int) := by omega
      have ga := getI_fAt (l := a) (i := p.i.toNat) (by omega)
      have gb := getI_fAt (l := b) (i := p.j.toNat) (by omega)
      rw [← ei] at ga
      rw [← ej] at gb
      have fc := featCost_ok (fAt_ok fa p.i.toNat) (fAt_ok fb p.j.toNat)
      have hr := hR p (List.mem_of_getElem? hp)
      have new : Pth (elC a b) R p.i.toNat p.j.toNat (s + fcost (fAt a p.i.toNat) (fAt b p.j.toNat)) := by
        cases k with
        | zero =>
          rw [h0] at hp
          cases hp
          rw [hz rfl, Int.zero_add]
          exact .start hr
        | succ k =>
          obtain ⟨q, hq, hpt⟩ := hs k rfl
          have qin := path_in P hq
          obtain ⟨g1, g2, g3⟩ := chain_get P.steps hq hp
          have hne : ¬ (p.i = q.i ∧ p.j = q.j) := by
            rintro ⟨e1, e2⟩
            apply g3
            obtain ⟨p1, p2⟩ := p
            obtain ⟨q1, q2⟩ := q
            simp only at e1 e2
            rw [e1, e2]
          exact .step hpt (by unfold Pre; omega) hr
      have bd := new.bound (elC_le fa fb)
      have w : wr (s + fcost (fAt a p.i.toNat) (fAt b p.j.toNat)) = s + fcost (fAt a p.i.toNat) (fAt b p.j.toNat) := wr_id (by omega) (by omega)
      refine .inl ⟨(s + fcost (fAt a p.i.toNat) (fAt b p.j.toNat), ((k + 1 : Nat) : Int)), ?_, rfl, by omega, fun k' hk' => ?_⟩
      · unfold s0_impl_PathCost
        simp only [Option.getD_some, c, decide_true, cond_true, getI_nat hp, obind_sm, ga, gb, fc, w, wr_succ hk (by omega)]
      · have : k' = k := by omega
        subst this
        exact ⟨p, hp, new⟩)
    (fun s hs => by
      obtain ⟨s, x⟩ := s
      obtain ⟨hx, hz, hs⟩ := hs
      simp only at hx hz hs
      subst hx
      obtain ⟨p, hp, h⟩ := hs (l.length - 1) (by omega)
      rw [h9] at hp
      cases hp
      refine ⟨s, ?_, ?_⟩
      · unfold s0_impl_PathCost
        simp only [Option.getD_some, Int.lt_irrefl, decide_false, cond_false]
      · have e1 : ((a.length : Int) - 1).toNat = a.length - 1 := by omega
        have e2 : ((b.length : Int) - 1).toNat = b.length - 1 := by omega
        simpa only [e1, e2] using h)
    (s := (0, 0)) ⟨rfl, fun _ => rfl, fun k' h => by omega⟩
  refine ⟨s, ?_, h2⟩
  have v1 := validSeq_ok fa a1 la
  have v2 := validSeq_ok fb b1 lb
  have v3 := validPath_ok P (by omega) (by omega) (by omega)
  have pa : t_impl_pathable (some a) (some b) (some l) = some 0 := by
    unfold t_impl_pathable
    simp [v1, v2, v3]
  unfold t_impl_PathCost
  simp [pa, h1]

theorem opt_eq {B : Int} {C D : Nat → Nat → Int} {R S : Nat → Nat → Prop} {i j p q : Nat} {v w : Int} (h : Opt B C R i j v) (h' : Opt B D S p q w) (H : ∀ c, Pth C R i j c ↔ Pth D S p q c) : v = w := by
  rcases h with ⟨rfl, h1⟩ | ⟨h1, h2, h3⟩
  · rcases h' with ⟨rfl, h4⟩ | ⟨h4, h5, h6⟩
    · rfl
    · exact absurd ((H _).2 h5) (h1 _)
  · rcases h' with ⟨rfl, h4⟩ | ⟨h4, h5, h6⟩
    · exact absurd ((H _).1 h2) (h4 _)
    · have e1 := h3 _ ((H _).2 h5)
      have e2 := h6 _ ((H _).1 h2)
      omega
theorem siz_comm (x y : Int) : siz (x - y) = siz (y - x) := by
  unfold siz
  split <;> split <;> omega
theorem el_swap {a b : List Feat} {band : Int} {i j : Nat} {c : Int} (h : Pth (elC a b) (elR band) i j c) : Pth (elC b a) (elR band) j i c :=
  h.swap.mono (fun p q _ _ hr => by show siz _ ≤ band; rw [siz_comm]; exact hr) (fun p q _ _ => fcost_comm _ _)
theorem el_wide {a b : List Feat} {band : Int} {i j : Nat} {c : Int} (hb : band ≤ 72) (h : Pth (elC a b) (elR band) i j c) : Pth (elC a b) (elR 72) i j c :=
  h.mono (fun p q _ _ hr => Int.le_trans hr hb) (fun _ _ _ _ => rfl)
theorem el_in {N M : Nat} (hN : N ≤ 72) (hM : M ≤ 72) (i j : Nat) (hi : i ≤ N) (hj : j ≤ M) : elR 72 i j := by
  show siz _ ≤ 72
  unfold siz
  split <;> omega
theorem el_back {a b : List Feat} (fa : ∀ f ∈ a, FOK f) (fb : ∀ f ∈ b, FOK f) (a1 : 1 ≤ a.length) (la : a.length ≤ 72) (b1 : 1 ≤ b.length) (lb : b.length ≤ 72) (c : Int) : Pth (elC a b) (elR 72) (a.length - 1) (b.length - 1) c ↔ Pth (elC (bk a) (bk b)) (elR 72) (a.length - 1) (b.length - 1) c := by
  have hD : ∀ i j, i ≤ a.length - 1 → j ≤ b.length - 1 → elC (bk a) (bk b) (a.length - 1 - i) (b.length - 1 - j) = elC a b i j := by
    intro i j hi hj
    show fcost _ _ = fcost _ _
    rw [bk_at hi a1, bk_at hj b1, fcost_turn (fAt_ok fa i) (fAt_ok fb j)]
  have hS := el_in (N := a.length - 1) (M := b.length - 1) (by omega) (by omega)
  constructor
  · intro h
    exact h.rev hD hS
  · intro h
    refine h.rev (fun i j hi hj => ?_) hS
    have := hD (a.length - 1 - i) (b.length - 1 - j) (by omega) (by omega)
    have e1 : a.length - 1 - (a.length - 1 - i) = i := by omega
    have e2 : b.length - 1 - (b.length - 1 - j) = j := by omega
    rw [e1, e2] at this
    exact this.symm
theorem true_FnElastic (code more : Sl UInt8) : t_laws_FnElastic code more = some true := by
  unfold t_laws_FnElastic t_laws_a2Long
  by_cases c1 : 3000 < (((code.getD []).length : Nat) : Int)
  · simp [c1]
  by_cases c2 : 3000 < (((more.getD []).length : Nat) : Int)
  · simp [c1, c2]
  obtain ⟨a, b, band, e1, T⟩ := two_ex code
  have a1 := T.a1
  have a2 := T.a2
  have b1 := T.b1
  have b2 := T.b2
  have d1 := T.d1
  have d2 := T.d2
  have p1 := T.b0
  have p2 := T.b3
  obtain ⟨path, e2, P, hl⟩ := path_ex more (n := (a.length : Nat)) (m := (b.length : Nat)) (by omega) (by omega) (by omega) (by omega)
  obtain ⟨v1, E1, o1⟩ := elastic_ok (band := band) T.fa T.fb a1 (by omega) b1 (by omega) p1 (by omega) d1 d2
  obtain ⟨v2, E2, o2⟩ := elastic_ok (band := band) T.fb T.fa b1 (by omega) a1 (by omega) p1 (by omega) d2 d1
  obtain ⟨v3, E3, o3⟩ := elastic_ok (band := 0) T.fa T.fa a1 (by omega) a1 (by omega) (by omega) (by omega) (by omega) (by omega)
  obtain ⟨v4, E4, o4⟩ := elastic_ok (band := 72) T.fa T.fb a1 (by omega) b1 (by omega) (by omega) (by omega) (by omega) (by omega)
  obtain ⟨v5, E5, o5⟩ := elastic_ok (band := 72) (bk_ok T.fa) (bk_ok T.fb) (by rw [bk_len]; omega) (by rw [bk_len]; omega) (by rw [bk_len]; omega) (by rw [bk_len]; omega) (by omega) (by omega) (by rw [bk_len, bk_len]; omega) (by rw [bk_len, bk_len]; omega)
  have B1 := back_ok T.fa a1 (by omega)
  have B2 := back_ok T.fb b1 (by omega)
  obtain ⟨s, E6, h6⟩ := pathCost_ok T.fa T.fb a1 (by omega) b1 (by omega) P (by omega) (R := elR 72) (fun p hp => by
    obtain ⟨k, hk⟩ := List.mem_iff_getElem?.1 hp
    have := path_in P hk
    exact el_in (N := a.length - 1) (M := b.length - 1) (by omega) (by omega) _ _ (by omega) (by omega))
  have V := validPath_ok P (by omega) (by omega) (by omega)
  have q1 : v1 = v2 := opt_eq o1 o2 fun c => ⟨el_swap, el_swap⟩
  have q2 : v3 = 0 := by
    have hd := Pth.diag (C := elC a a) (R := elR 0) (fun i => fcost_self _) (fun i => by show siz _ ≤ 0; unfold siz; split <;> omega) (a.length - 1)
    have h1 := o3.of hd
    have h2 := h1.2.1.bound (elC_le T.fa T.fa)
    omega
  have q3 : ¬ v1 < v4 := by
    rcases o1 with ⟨h, _⟩ | ⟨_, h, _⟩
    · have := o4.le
      omega
    · have := (o4.of (el_wide (by omega) h)).1
      omega
  have q4 : v5 = v4 := by
    rw [bk_len, bk_len] at o5
    exact (opt_eq o4 o5 (el_back T.fa T.fb a1 (by omega) b1 (by omega))).symm
  have q5 : v4 ≤ s := (o4.of h6).1
  subst q1 q2 q4
  simp [c1, c2, e1, E1, E2, E3, E4, E5, B1, B2, e2, E6, V, q3, q5]

theorem ok_laws_FnElastic : PureOK Try.prog n_laws_FnElastic (G2 (fun a b : Sl UInt8 => Wt.big a && Wt.big b) fun _ _ => bv true) := lawC2 tt_laws_FnElastic fun a b _ => true_FnElastic a b
theorem law_FnElastic (a b : Sl UInt8) (ha : Row.fine a) (hb : Row.fine b) : G2 (fun a b : Sl UInt8 => Wt.big a && Wt.big b) (fun _ _ => bv true) [enc a, enc b] = some (bv true) := G2_enc _ _ a b (by simp [Wt.fb a ha, Wt.fb b hb])

theorem isC_5 {cs : List AV} (h : IsC Try.prog 5 cs) : ∃ x : UInt8, cs = Row.cells x ∧ Row.fine x := by
  obtain ⟨n, rfl, hn⟩ := IsC.intE Try.underlying5 h
  exact byte_of hn
theorem isC_22 {cs : List AV} (h : IsC Try.prog 22 cs) : ∃ x : (Sl UInt8), cs = Row.cells x ∧ Row.fine x := by
  rcases IsC.sliceE Try.underlying22 h with rfl | ⟨rows, rfl, h1, h2⟩
  · exact ⟨none, rfl, Sl.fineNil⟩
  · exact Sl.isC (by kernel_rfl) h1 fun row hr => isC_5 (h2 row hr)
theorem own : ownKnob Try.prog.godebug = none := by kernel_rfl
theorem laidOut : laidOutB Try.prog = true := by kernel_rfl

set_option maxRecDepth 100000 in
theorem holds : Rows.FnElasticSaid :=
  OpenClaim.holds_of_wide 3 Try.f3 rfl rfl rfl rfl rfl rfl rfl ⟨rfl, rfl, rfl, rfl, rfl⟩ rfl rfl rfl rfl rfl (by kernel_rfl) Try.func3 (by kernel_rfl)
    (of_decide_eq_true (by kernel_rfl)) (by unfold Func.isWrapper; rw [if_neg (by decide +kernel)]; exact ⟨rfl, rfl⟩)
    (fun os started H enc _ => law_lifted (C := Try.checked) (s := Rows.fnElasticSpec) own started (by kernel_rfl) Try.func3
      (ChangeSpec.witness6 (enc := enc) (C := Try.checked) false ⟨#[], #[.slice none 0 0, .slice none 0 0], []⟩ 8 (by kernel_rfl) (by kernel_rfl) (by kernel_rfl) (by kernel_rfl))
      laidOut rfl (tb := 4) rfl Try.underlying4 (ts := [22, 5]) (by kernel_rfl)
      (fun ds h => by match ds, h with | [d0, d1], _ => rfl)
      hb_laws_FnElastic ok_laws_FnElastic (by
    intro l h
    obtain ⟨a0, l0, rfl, g0, k0⟩ := h
    obtain ⟨a1, l1, rfl, g1, k1⟩ := k0
    cases k1
    obtain ⟨b0, e0, w0⟩ := isC_22 (isV_one (by kernel_rfl) g0)
    obtain rfl := one_enc e0
    obtain ⟨b1, e1, w1⟩ := isC_22 (isV_one (by kernel_rfl) g1)
    obtain rfl := one_enc e1
    exact law_FnElastic b0 b1 w0 w1))
#print axioms holds
end Go.Proofs.Ytdfdmelcnjggfaa
