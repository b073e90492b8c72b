/-
  Functions that the law FnPaths reaches: their walks and contracts, part 1.
-/
import Derived.Test.YtdfdmelcnjggfaaFnPathsGen
namespace Go.Proofs.Ytdfdmelcnjggfaa
open Go Go.Eng Go.Eng.Cod
set_option maxRecDepth 100000
set_option linter.unusedVariables false
set_option linter.unusedSimpArgs false

theorem nil_ok : EnvOK Try.prog (envL []) := E0

def within (a b c : Int) : Bool := decide (b ≤ a) && decide (a ≤ c)

theorem ok_impl_within : PureOK Try.prog n_impl_within (T3 within) := pureT3 nil_ok mixed hb_impl_within fun a b c => by
  simp [e_impl_within, within]

theorem ok_spec_l00In : PureOK Try.prog n_spec_l00In (T3 within) := pureT3 nil_ok mixed hb_spec_l00In fun a b c => by
  simp [e_spec_l00In, within]

def absI (a : Int) : Int := bif decide (a < 0) then wr (-a) else a

theorem ok_impl_abs : PureOK Try.prog n_impl_abs (T1 absI) := pureT1 nil_ok mixed hb_impl_abs fun a => by
  simp [e_impl_abs, absI]

theorem ok_spec_l00Min : PureOK Try.prog n_spec_l00Min (T2 fun a b : Int => min a b) := pureT2 nil_ok mixed hb_spec_l00Min fun a b => by
  simp [e_spec_l00Min, minI]

theorem ok_spec_l00Max : PureOK Try.prog n_spec_l00Max (T2 fun a b : Int => max a b) := pureT2 nil_ok mixed hb_spec_l00Max fun a b => by
  simp [e_spec_l00Max, maxI]

/-- The source of draws: how far it has read, its seed. -/
structure SS where
  at_ : Nat
  w : Int
def srow (q : Sl UInt8) (st : SS) : AObj := ⟨3, [[Sl.enc q, iv (st.at_ : Int), .sc (.int .u64 st.w)]]⟩
theorem store_head (s j k : Nat) (v : AV) (row : List AV) (t : Heap) (h1 : v.cells.length = s) (h2 : j + s ≤ row.length) (h3 : v.cells.all AV.flat = true) : aStore s (.ptr 0 1 0 j) v (⟨k, [row]⟩ :: t) = some (⟨k, [splice row j v.cells]⟩ :: t) := by
  simp only [aStore, List.getElem?_cons_zero, List.length_cons, List.length_nil, Nat.zero_add, if_true]
  rw [if_pos ⟨h1, h2, h3⟩]
  rfl
theorem v_mul (a b : Int) : aBin .mul (.sc (.int .u64 a)) (.sc (.int .u64 b)) = some (.sc (.int .u64 (IntKind.u64.wrap (a * b)))) := (rfl)
theorem v_add (a b : Int) : aBin .add (.sc (.int .u64 a)) (.sc (.int .u64 b)) = some (.sc (.int .u64 (IntKind.u64.wrap (a + b)))) := (rfl)
theorem v_shr40 (a : Int) : aBin .shr (.sc (.int .u64 a)) (.sc (.int .u64 40)) = some (.sc (.int .u64 (a.fdiv (2 ^ 40)))) := (rfl)
theorem v_conv (a : Int) : aConvInt .u64 (iv a) = some (.sc (.int .u64 (IntKind.u64.wrap a))) := (rfl)
theorem v_back (a : Int) : aConvInt .i64 (.sc (.int .u64 a)) = some (iv (wr a)) := (rfl)
theorem v_byte (b : UInt8) : aConvInt .i64 (bt b) = some (iv (b.toNat : Nat)) := by
  have h0 : aConvInt .i64 (bt b) = some (iv (wr (b.toNat : Int))) := rfl
  have := b.toNat_lt
  rw [h0, wr_id (by omega) (by omega)]
theorem v_and (a : Int) : ∃ r : Nat, r ≤ 255 ∧ aBin .and (.sc (.int .u64 a)) (.sc (.int .u64 255)) = some (.sc (.int .u64 (r : Int))) := by
  have h0 : aBin .and (.sc (.int .u64 a)) (.sc (.int .u64 255)) = some (.sc (.int .u64 (IntKind.u64.wrap ((BitVec.ofInt 64 a &&& BitVec.ofInt 64 255).toNat : Nat)))) := rfl
  have h1 : (BitVec.ofInt 64 a &&& BitVec.ofInt 64 255).toNat ≤ 255 := by
    rw [BitVec.toNat_and]
    have : (BitVec.ofInt 64 255).toNat = 255 := by decide
    rw [this]
    exact Nat.and_le_right
  refine ⟨(BitVec.ofInt 64 a &&& BitVec.ofInt 64 255).toNat, h1, ?_⟩
  rw [h0]
  generalize (BitVec.ofInt 64 a &&& BitVec.ofInt 64 255).toNat = r at h1
  congr 3
  simp only [IntKind.wrap, IntKind.bits, IntKind.signed]
  simp only [Bool.false_and, Bool.false_eq_true, if_false]
  omega

/-- What 'l00From' hands out. -/
def fromA (q : Sl UInt8) : AV := .np 3 [[Sl.enc q, iv 0, .sc (.int .u64 0)]] 0 0
theorem ok_spec_l00From : PureOK Try.prog n_spec_l00From (R1 fun q : Sl UInt8 => some (fromA q)) := pureR1 E0 mixed hb_spec_l00From fun q r h => by
  cases h
  apply pureG
  rw [e_spec_l00From]
  cases q <;> rfl
theorem hand_from (q : Sl UInt8) (h : Heap) : hand (fromA q) (noRef depth (Sl.enc q)) h = some (.ptr h.length 1 0 0, h ++ [srow q ⟨0, 0⟩]) := by
  cases q <;> rfl

theorem tt_spec_l00From : PureOK Try.prog n_spec_l00From (C1 fromA (fun q : Sl UInt8 => some q)) := pureR1 E0 mixed hb_spec_l00From fun q r h => by
  cases h
  apply pureG
  rw [e_spec_l00From]
  cases q <;> rfl

def t_laws_a2Long (code_ : Sl UInt8) (more_ : Sl UInt8) : Option Bool :=
  obind (bif decide (3000 < (((code_.getD []).length : Nat) : Int)) then some false else (some (decide (3000 < (((more_.getD []).length : Nat) : Int))))) fun c2 =>
  some (bif decide (3000 < (((code_.getD []).length : Nat) : Int)) then true else c2)

theorem ts_laws_a2Long (env : Nat → Contract)  (code_ : Sl UInt8) (more_ : Sl UInt8) : Sim (denFn Try.prog env n_laws_a2Long [Sl.enc code_, Sl.enc more_] []) (t_laws_a2Long code_ more_) fun c p => release p.2 depth p.1 = some ((fun c : Bool => enc c) c) := by
  have O := Hold.nil []
  generalize hB : (⟨[], []⟩ : Base) = B at O
  clear hB
  rw [e_laws_a2Long]
  unfold t_laws_a2Long
  refine sim_let (v := iv (((code_.getD []).length : Nat) : Int)) (Tab.enc [] code_).len ?_
  refine sim_let (v := bv (decide (3000 < (((code_.getD []).length : Nat) : Int)))) (aBin_gtr _ _) ?_
  refine sim_guardF (e := bv) (fun hb1 => ?_) (fun c2 => ?_)
  · refine sim_let (v := iv (((more_.getD []).length : Nat) : Int)) (Tab.enc [] more_).len ?_
    refine sim_let (v := bv (decide (3000 < (((more_.getD []).length : Nat) : Int)))) (aBin_gtr _ _) ?_
    exact sim_ret rfl
  · refine sim_let (v := bv (bif decide (3000 < (((code_.getD []).length : Nat) : Int)) then true else c2)) (pick_b' _ _ _) ?_
    exact sim_ret (release_plain (by rfl) _)
theorem tt_laws_a2Long : PureOK Try.prog n_laws_a2Long (C2 (fun c : Bool => enc c) t_laws_a2Long) := pureC2 E0 mixed hb_laws_a2Long fun code_ more_ => ts_laws_a2Long _  code_ more_

def t_spec_l00Src_next (s_ : l00Src) : Option (Int × l00Src) :=
  bif decide (s_.pos < (((s_.code.getD []).length : Nat) : Int)) then
    obind (getI (s_.code.getD []) s_.pos) fun a2 =>
    bif decide ((wr (s_.pos + 1)) ≤ (((s_.code.getD []).length : Nat) : Int)) then
      some ((a2.toNat : Int), (⟨s_.code, wr (s_.pos + 1), IntKind.u64.wrap ((IntKind.u64.wrap ((IntKind.u64.wrap (s_.seed * 6364136223846793005)) + (IntKind.u64.wrap (a2.toNat : Int)))) + 1442695040888963407)⟩ : l00Src))
    else
      some (wr (IntKind.u64.wrap ((BitVec.ofInt 64 (Int.fdiv (IntKind.u64.wrap ((IntKind.u64.wrap ((IntKind.u64.wrap (s_.seed * 6364136223846793005)) + (IntKind.u64.wrap (a2.toNat : Int)))) + 1442695040888963407)) (2 ^ 40)) &&& BitVec.ofInt 64 255).toNat : Nat)), (⟨s_.code, wr (s_.pos + 1), IntKind.u64.wrap ((IntKind.u64.wrap ((IntKind.u64.wrap (s_.seed * 6364136223846793005)) + (IntKind.u64.wrap (a2.toNat : Int)))) + 1442695040888963407)⟩ : l00Src))
  else
    bif decide ((wr (s_.pos + 1)) ≤ (((s_.code.getD []).length : Nat) : Int)) then
      some (0, (⟨s_.code, wr (s_.pos + 1), IntKind.u64.wrap ((IntKind.u64.wrap ((IntKind.u64.wrap (s_.seed * 6364136223846793005)) + (IntKind.u64.wrap 0))) + 1442695040888963407)⟩ : l00Src))
    else
      some (wr (IntKind.u64.wrap ((BitVec.ofInt 64 (Int.fdiv (IntKind.u64.wrap ((IntKind.u64.wrap ((IntKind.u64.wrap (s_.seed * 6364136223846793005)) + (IntKind.u64.wrap 0))) + 1442695040888963407)) (2 ^ 40)) &&& BitVec.ofInt 64 255).toNat : Nat)), (⟨s_.code, wr (s_.pos + 1), IntKind.u64.wrap ((IntKind.u64.wrap ((IntKind.u64.wrap (s_.seed * 6364136223846793005)) + (IntKind.u64.wrap 0))) + 1442695040888963407)⟩ : l00Src))

theorem ts_spec_l00Src_next (env : Nat → Contract)  {B : Base} {h : Heap} {o_ : Nat} (s_ : l00Src) (O : Hold B h [(AV.ptr o_ 1 0 0, .pt 3 [Sl.enc s_.code, iv s_.pos, AV.sc (.int .u64 s_.seed)])]) : Sim (denFn Try.prog env n_spec_l00Src_next [AV.ptr o_ 1 0 0] h) (t_spec_l00Src_next s_) (fun c p => p.1 = iv c.1 ∧ Hold B p.2 ([(AV.ptr o_ 1 0 0, .pt 3 [Sl.enc c.2.code, iv c.2.pos, AV.sc (.int .u64 c.2.seed)])])) := by
  rw [e_spec_l00Src_next]
  unfold t_spec_l00Src_next
  refine sim_let (v := AV.ptr o_ 1 0 0) rfl ?_
  refine sim_let (v := AV.ptr o_ 1 0 1) rfl ?_
  refine sim_let (v := iv s_.pos) (O.ld 0 rfl false 1 1) ?_
  refine sim_let (v := AV.ptr o_ 1 0 0) rfl ?_
  refine sim_let (v := AV.ptr o_ 1 0 0) rfl ?_
  refine sim_let (v := Sl.enc s_.code) (O.ld 0 rfl false 1 0) ?_
  refine sim_let (v := iv (((s_.code.getD []).length : Nat) : Int)) (Tab.enc h s_.code).len ?_
  refine sim_let (v := bv (decide (s_.pos < (((s_.code.getD []).length : Nat) : Int)))) (aBin_lss _ _) ?_
  refine sim_cond (fun c1 => ?_) (fun c1 => ?_)
  · refine sim_let (v := AV.ptr o_ 1 0 0) rfl ?_
    refine sim_let (v := AV.ptr o_ 1 0 0) rfl ?_
    refine sim_let (v := Sl.enc s_.code) (O.ld 0 rfl false 1 0) ?_
    refine sim_let (v := AV.ptr o_ 1 0 0) rfl ?_
    refine sim_let (v := AV.ptr o_ 1 0 1) rfl ?_
    refine sim_let (v := iv s_.pos) (O.ld 0 rfl false 1 1) ?_
    refine sim_get (Tab.enc h s_.code) (fun m3 a2 hi4 hm5 => ?_)
    refine sim_let (v := bt a2) ((Tab.enc h s_.code).ld hm5 false 1 0) ?_
    refine sim_let (v := iv (a2.toNat : Int)) (conv_byte _) ?_
    refine sim_let (v := AV.ptr o_ 1 0 0) rfl ?_
    refine sim_let (v := AV.ptr o_ 1 0 1) rfl ?_
    refine sim_let (v := iv s_.pos) (O.ld 0 rfl false 1 1) ?_
    refine sim_let (v := iv (wr (s_.pos + 1))) (aBin_add _ _) ?_
    refine sim_let (v := AV.ptr o_ 1 0 0) rfl ?_
    refine sim_let (v := AV.ptr o_ 1 0 1) rfl ?_
    refine sim_store O 0 (cs' := [Sl.enc s_.code, iv (wr (s_.pos + 1)), AV.sc (.int .u64 s_.seed)]) rfl (by first | rfl | simp) (by simp) (by first | rfl | simp) (by first | rfl | simp [splice]) (fun h6 O7 => ?_)
    replace O7 : Hold B h6 [(AV.ptr o_ 1 0 0, .pt 3 [Sl.enc s_.code, iv (wr (s_.pos + 1)), AV.sc (.int .u64 s_.seed)])] := O7
    refine sim_let (v := AV.ptr o_ 1 0 0) rfl ?_
    refine sim_let (v := AV.ptr o_ 1 0 2) rfl ?_
    refine sim_let (v := AV.sc (.int .u64 s_.seed)) (O7.ld 0 rfl false 1 2) ?_
    refine sim_let (v := AV.sc (.int .u64 (IntKind.u64.wrap (s_.seed * 6364136223846793005)))) rfl ?_
    refine sim_let (v := AV.sc (.int .u64 (IntKind.u64.wrap (a2.toNat : Int)))) rfl ?_
    refine sim_let (v := AV.sc (.int .u64 (IntKind.u64.wrap ((IntKind.u64.wrap (s_.seed * 6364136223846793005)) + (IntKind.u64.wrap (a2.toNat : Int)))))) rfl ?_
    refine sim_let (v := AV.sc (.int .u64 (IntKind.u64.wrap ((IntKind.u64.wrap ((IntKind.u64.wrap (s_.seed * 6364136223846793005)) + (IntKind.u64.wrap (a2.toNat : Int)))) + 1442695040888963407)))) rfl ?_
    refine sim_let (v := AV.ptr o_ 1 0 0) rfl ?_
    refine sim_let (v := AV.ptr o_ 1 0 2) rfl ?_
    refine sim_store O7 0 (cs' := [Sl.enc s_.code, iv (wr (s_.pos + 1)), AV.sc (.int .u64 (IntKind.u64.wrap ((IntKind.u64.wrap ((IntKind.u64.wrap (s_.seed * 6364136223846793005)) + (IntKind.u64.wrap (a2.toNat : Int)))) + 1442695040888963407)))]) rfl (by first | rfl | simp) (by simp) (by first | rfl | simp) (by first | rfl | simp [splice]) (fun h8 O9 => ?_)
    replace O9 : Hold B h8 [(AV.ptr o_ 1 0 0, .pt 3 [Sl.enc s_.code, iv (wr (s_.pos + 1)), AV.sc (.int .u64 (IntKind.u64.wrap ((IntKind.u64.wrap ((IntKind.u64.wrap (s_.seed * 6364136223846793005)) + (IntKind.u64.wrap (a2.toNat : Int)))) + 1442695040888963407)))])] := O9
    refine sim_let (v := AV.ptr o_ 1 0 0) rfl ?_
    refine sim_let (v := AV.ptr o_ 1 0 1) rfl ?_
    refine sim_let (v := iv (wr (s_.pos + 1))) (O9.ld 0 rfl false 1 1) ?_
    refine sim_let (v := AV.ptr o_ 1 0 0) rfl ?_
    refine sim_let (v := AV.ptr o_ 1 0 0) rfl ?_
    refine sim_let (v := Sl.enc s_.code) (O9.ld 0 rfl false 1 0) ?_
    refine sim_let (v := iv (((s_.code.getD []).length : Nat) : Int)) (Tab.enc h8 s_.code).len ?_
    refine sim_let (v := bv (decide ((wr (s_.pos + 1)) ≤ (((s_.code.getD []).length : Nat) : Int)))) (aBin_leq _ _) ?_
    refine sim_cond (fun c10 => ?_) (fun c10 => ?_)
    · exact sim_ret ⟨rfl, O9⟩
    · refine sim_let (v := AV.ptr o_ 1 0 0) rfl ?_
      refine sim_let (v := AV.ptr o_ 1 0 2) rfl ?_
      refine sim_let (v := AV.sc (.int .u64 (IntKind.u64.wrap ((IntKind.u64.wrap ((IntKind.u64.wrap (s_.seed * 6364136223846793005)) + (IntKind.u64.wrap (a2.toNat : Int)))) + 1442695040888963407)))) (O9.ld 0 rfl false 1 2) ?_
      refine sim_let (v := AV.sc (.int .u64 (Int.fdiv (IntKind.u64.wrap ((IntKind.u64.wrap ((IntKind.u64.wrap (s_.seed * 6364136223846793005)) + (IntKind.u64.wrap (a2.toNat : Int)))) + 1442695040888963407)) (2 ^ 40)))) rfl ?_
      refine sim_let (v := AV.sc (.int .u64 (IntKind.u64.wrap ((BitVec.ofInt 64 (Int.fdiv (IntKind.u64.wrap ((IntKind.u64.wrap ((IntKind.u64.wrap (s_.seed * 6364136223846793005)) + (IntKind.u64.wrap (a2.toNat : Int)))) + 1442695040888963407)) (2 ^ 40)) &&& BitVec.ofInt 64 255).toNat : Nat)))) rfl ?_
      refine sim_let (v := iv (wr (IntKind.u64.wrap ((BitVec.ofInt 64 (Int.fdiv (IntKind.u64.wrap ((IntKind.u64.wrap ((IntKind.u64.wrap (s_.seed * 6364136223846793005)) + (IntKind.u64.wrap (a2.toNat : Int)))) + 1442695040888963407)) (2 ^ 40)) &&& BitVec.ofInt 64 255).toNat : Nat)))) rfl ?_
      exact sim_ret ⟨rfl, O9⟩
  · refine sim_let (v := AV.ptr o_ 1 0 0) rfl ?_
    refine sim_let (v := AV.ptr o_ 1 0 1) rfl ?_
    refine sim_let (v := iv s_.pos) (O.ld 0 rfl false 1 1) ?_
    refine sim_let (v := iv (wr (s_.pos + 1))) (aBin_add _ _) ?_
    refine sim_let (v := AV.ptr o_ 1 0 0) rfl ?_
    refine sim_let (v := AV.ptr o_ 1 0 1) rfl ?_
    refine sim_store O 0 (cs' := [Sl.enc s_.code, iv (wr (s_.pos + 1)), AV.sc (.int .u64 s_.seed)]) rfl (by first | rfl | simp) (by simp) (by first | rfl | simp) (by first | rfl | simp [splice]) (fun h13 O14 => ?_)
    replace O14 : Hold B h13 [(AV.ptr o_ 1 0 0, .pt 3 [Sl.enc s_.code, iv (wr (s_.pos + 1)), AV.sc (.int .u64 s_.seed)])] := O14
    refine sim_let (v := AV.ptr o_ 1 0 0) rfl ?_
    refine sim_let (v := AV.ptr o_ 1 0 2) rfl ?_
    refine sim_let (v := AV.sc (.int .u64 s_.seed)) (O14.ld 0 rfl false 1 2) ?_
    refine sim_let (v := AV.sc (.int .u64 (IntKind.u64.wrap (s_.seed * 6364136223846793005)))) rfl ?_
    refine sim_let (v := AV.sc (.int .u64 (IntKind.u64.wrap 0))) rfl ?_
    refine sim_let (v := AV.sc (.int .u64 (IntKind.u64.wrap ((IntKind.u64.wrap (s_.seed * 6364136223846793005)) + (IntKind.u64.wrap 0))))) rfl ?_
    refine sim_let (v := AV.sc (.int .u64 (IntKind.u64.wrap ((IntKind.u64.wrap ((IntKind.u64.wrap (s_.seed * 6364136223846793005)) + (IntKind.u64.wrap 0))) + 1442695040888963407)))) rfl ?_
    refine sim_let (v := AV.ptr o_ 1 0 0) rfl ?_
    refine sim_let (v := AV.ptr o_ 1 0 2) rfl ?_
    refine sim_store O14 0 (cs' := [Sl.enc s_.code, iv (wr (s_.pos + 1)), AV.sc (.int .u64 (IntKind.u64.wrap ((IntKind.u64.wrap ((IntKind.u64.wrap (s_.seed * 6364136223846793005)) + (IntKind.u64.wrap 0))) + 1442695040888963407)))]) rfl (by first | rfl | simp) (by simp) (by first | rfl | simp) (by first | rfl | simp [splice]) (fun h15 O16 => ?_)
    replace O16 : Hold B h15 [(AV.ptr o_ 1 0 0, .pt 3 [Sl.enc s_.code, iv (wr (s_.pos + 1)), AV.sc (.int .u64 (IntKind.u64.wrap ((IntKind.u64.wrap ((IntKind.u64.wrap (s_.seed * 6364136223846793005)) + (IntKind.u64.wrap 0))) + 1442695040888963407)))])] := O16
    refine sim_let (v := AV.ptr o_ 1 0 0) rfl ?_
    refine sim_let (v := AV.ptr o_ 1 0 1) rfl ?_
    refine sim_let (v := iv (wr (s_.pos + 1))) (O16.ld 0 rfl false 1 1) ?_
    refine sim_let (v := AV.ptr o_ 1 0 0) rfl ?_
    refine sim_let (v := AV.ptr o_ 1 0 0) rfl ?_
    refine sim_let (v := Sl.enc s_.code) (O16.ld 0 rfl false 1 0) ?_
    refine sim_let (v := iv (((s_.code.getD []).length : Nat) : Int)) (Tab.enc h15 s_.code).len ?_
    refine sim_let (v := bv (decide ((wr (s_.pos + 1)) ≤ (((s_.code.getD []).length : Nat) : Int)))) (aBin_leq _ _) ?_
    refine sim_cond (fun c17 => ?_) (fun c17 => ?_)
    · exact sim_ret ⟨rfl, O16⟩
    · refine sim_let (v := AV.ptr o_ 1 0 0) rfl ?_
      refine sim_let (v := AV.ptr o_ 1 0 2) rfl ?_
      refine sim_let (v := AV.sc (.int .u64 (IntKind.u64.wrap ((IntKind.u64.wrap ((IntKind.u64.wrap (s_.seed * 6364136223846793005)) + (IntKind.u64.wrap 0))) + 1442695040888963407)))) (O16.ld 0 rfl false 1 2) ?_
      refine sim_let (v := AV.sc (.int .u64 (Int.fdiv (IntKind.u64.wrap ((IntKind.u64.wrap ((IntKind.u64.wrap (s_.seed * 6364136223846793005)) + (IntKind.u64.wrap 0))) + 1442695040888963407)) (2 ^ 40)))) rfl ?_
      refine sim_let (v := AV.sc (.int .u64 (IntKind.u64.wrap ((BitVec.ofInt 64 (Int.fdiv (IntKind.u64.wrap ((IntKind.u64.wrap ((IntKind.u64.wrap (s_.seed * 6364136223846793005)) + (IntKind.u64.wrap 0))) + 1442695040888963407)) (2 ^ 40)) &&& BitVec.ofInt 64 255).toNat : Nat)))) rfl ?_
      refine sim_let (v := iv (wr (IntKind.u64.wrap ((BitVec.ofInt 64 (Int.fdiv (IntKind.u64.wrap ((IntKind.u64.wrap ((IntKind.u64.wrap (s_.seed * 6364136223846793005)) + (IntKind.u64.wrap 0))) + 1442695040888963407)) (2 ^ 40)) &&& BitVec.ofInt 64 255).toNat : Nat)))) rfl ?_
      exact sim_ret ⟨rfl, O16⟩
noncomputable def ev_spec_l00Src_next : Nat → Contract := envL []
theorem eo_spec_l00Src_next : EnvOK Try.prog ev_spec_l00Src_next := E0
theorem tg_spec_l00Src_next {B : Base} {h : Heap} {o_ : Nat} (s_ : l00Src) (O : Hold B h [(AV.ptr o_ 1 0 0, .pt 3 [Sl.enc s_.code, iv s_.pos, AV.sc (.int .u64 s_.seed)])]) : Sim (denFn Try.prog ev_spec_l00Src_next n_spec_l00Src_next [AV.ptr o_ 1 0 0] h) (t_spec_l00Src_next s_) (fun c p => p.1 = iv c.1 ∧ Hold B p.2 ([(AV.ptr o_ 1 0 0, .pt 3 [Sl.enc c.2.code, iv c.2.pos, AV.sc (.int .u64 c.2.seed)])])) := ts_spec_l00Src_next ev_spec_l00Src_next  s_  O

def t_spec_l00Src_pick (s_ : l00Src) (n_ : Int) : Option (Int × l00Src) :=
  bif decide (n_ ≤ 1) then
    some (0, (⟨s_.code, s_.pos, s_.seed⟩ : l00Src))
  else
    obind (t_spec_l00Src_next s_) fun c3 =>
    bif decide (200 < n_) then
      obind (t_spec_l00Src_next c3.2) fun c10 =>
      obind (remI (wr ((wr (c3.1 * 256)) + c10.1)) n_) fun q16 =>
      some (q16, (⟨c10.2.code, c10.2.pos, c10.2.seed⟩ : l00Src))
    else
      obind (remI c3.1 n_) fun q18 =>
      some (q18, (⟨c3.2.code, c3.2.pos, c3.2.seed⟩ : l00Src))

theorem ts_spec_l00Src_pick (env : Nat → Contract) (he_spec_l00Src_next : env n_spec_l00Src_next = .gen (denFn Try.prog ev_spec_l00Src_next n_spec_l00Src_next)) {B : Base} {h : Heap} {o_ : Nat} (s_ : l00Src) (n_ : Int) (O : Hold B h [(AV.ptr o_ 1 0 0, .pt 3 [Sl.enc s_.code, iv s_.pos, AV.sc (.int .u64 s_.seed)])]) : Sim (denFn Try.prog env n_spec_l00Src_pick [AV.ptr o_ 1 0 0, iv n_] h) (t_spec_l00Src_pick s_ n_) (fun c p => p.1 = iv c.1 ∧ Hold B p.2 ([(AV.ptr o_ 1 0 0, .pt 3 [Sl.enc c.2.code, iv c.2.pos, AV.sc (.int .u64 c.2.seed)])])) := by
  rw [e_spec_l00Src_pick]
  unfold t_spec_l00Src_pick
  refine sim_let (v := bv (decide (n_ ≤ 1))) (aBin_leq _ _) ?_
  refine sim_cond (fun c1 => ?_) (fun c1 => ?_)
  · exact sim_ret ⟨rfl, O⟩
  · refine sim_gen he_spec_l00Src_next (tg_spec_l00Src_next s_ (O.start (i := 0) rfl rfl)) (fun c3 v4 h5 hq6 => ?_)
    obtain ⟨e_v4, O7⟩ := hq6
    dsimp only at e_v4
    subst v4
    have O8 : Hold B h5 [(AV.ptr o_ 1 0 0, .pt 3 [Sl.enc c3.2.code, iv c3.2.pos, AV.sc (.int .u64 c3.2.seed)])] := O.merge (i := 0) rfl rfl O7
    refine sim_let (v := bv (decide (200 < n_))) (aBin_gtr _ _) ?_
    refine sim_cond (fun c9 => ?_) (fun c9 => ?_)
    · refine sim_let (v := iv (wr (c3.1 * 256))) (aBin_mul _ _) ?_
      refine sim_gen he_spec_l00Src_next (tg_spec_l00Src_next c3.2 (O8.start (i := 0) rfl rfl)) (fun c10 v11 h12 hq13 => ?_)
      obtain ⟨e_v11, O14⟩ := hq13
      dsimp only at e_v11
      subst v11
      have O15 : Hold B h12 [(AV.ptr o_ 1 0 0, .pt 3 [Sl.enc c10.2.code, iv c10.2.pos, AV.sc (.int .u64 c10.2.seed)])] := O8.merge (i := 0) rfl rfl O14
      refine sim_let (v := iv (wr ((wr (c3.1 * 256)) + c10.1))) (aBin_add _ _) ?_
      refine sim_rem (fun q16 => ?_)
      exact sim_ret ⟨rfl, O15⟩
    · refine sim_rem (fun q18 => ?_)
      exact sim_ret ⟨rfl, O8⟩
noncomputable def ev_spec_l00Src_pick : Nat → Contract := envL [(n_spec_l00Src_next, .gen (denFn Try.prog ev_spec_l00Src_next n_spec_l00Src_next))]
theorem eo_spec_l00Src_pick : EnvOK Try.prog ev_spec_l00Src_pick := (EconsG (gen_of_den eo_spec_l00Src_next mixed hb_spec_l00Src_next) E0)
theorem tg_spec_l00Src_pick {B : Base} {h : Heap} {o_ : Nat} (s_ : l00Src) (n_ : Int) (O : Hold B h [(AV.ptr o_ 1 0 0, .pt 3 [Sl.enc s_.code, iv s_.pos, AV.sc (.int .u64 s_.seed)])]) : Sim (denFn Try.prog ev_spec_l00Src_pick n_spec_l00Src_pick [AV.ptr o_ 1 0 0, iv n_] h) (t_spec_l00Src_pick s_ n_) (fun c p => p.1 = iv c.1 ∧ Hold B p.2 ([(AV.ptr o_ 1 0 0, .pt 3 [Sl.enc c.2.code, iv c.2.pos, AV.sc (.int .u64 c.2.seed)])])) := ts_spec_l00Src_pick ev_spec_l00Src_pick (by simp [ev_spec_l00Src_pick, envL]) s_ n_  O

def s0_spec_l09Draw : ((Sl UInt8) × Int × Int × (Sl Feat) × Int × Int × Int) → Option (Sum ((Sl UInt8) × Int × Int × (Sl Feat) × Int × Int × Int) ((Sl UInt8) × Int × Int × (Sl Feat))) := fun (w23, w24, w25, w27, w30, w31, w32) =>
  bif decide (0 < w32) then
    obind (t_spec_l00Src_pick (⟨w23, w24, w25⟩ : l00Src) 8) fun c45 =>
    obind (appO w27 ([(⟨w30, w31, c45.1⟩ : Feat)] : List Feat)) fun _ =>
    obind (t_spec_l00Src_pick c45.2 61) fun c61 =>
    obind (some ((fun a b : Int => min a b) 255 (wr ((wr (w30 + c61.1)) - 30)))) fun c67 =>
    obind (some ((fun a b : Int => max a b) 0 c67)) fun c68 =>
    obind (t_spec_l00Src_pick c61.2 61) fun c69 =>
    obind (some ((fun a b : Int => min a b) 255 (wr ((wr (w31 + c69.1)) - 30)))) fun c75 =>
    obind (some ((fun a b : Int => max a b) 0 c75)) fun c76 =>
    some (.inl (c69.2.code, c69.2.pos, c69.2.seed, (appS w27 ([(⟨w30, w31, c45.1⟩ : Feat)] : List Feat)), c68, c76, wr (w32 - 1)))
  else
    some (.inr (w23, w24, w25, w27))
def t_spec_l09Draw (s_ : l00Src) (most_ : Int) : Option ((Sl Feat) × l00Src) :=
  obind (t_spec_l00Src_pick s_ 256) fun c5 =>
  obind (t_spec_l00Src_pick c5.2 256) fun c11 =>
  obind (t_spec_l00Src_pick c11.2 most_) fun c17 =>
  obind (loopT s0_spec_l09Draw (c17.2.code, c17.2.pos, c17.2.seed, (some ([] : List Feat)), c5.1, c11.1, wr (1 + c17.1))) fun (q35, q36, q37, q39) =>
  some (q39, (⟨q35, q36, q37⟩ : l00Src))

theorem tl0_spec_l09Draw (env : Nat → Contract) {B : Base} (he_spec_l00Max : env n_spec_l00Max = .pure (T2 (fun a b : Int => max a b))) (he_spec_l00Min : env n_spec_l00Min = .pure (T2 (fun a b : Int => min a b))) (he_spec_l00Src_pick : env n_spec_l00Src_pick = .gen (denFn Try.prog ev_spec_l00Src_pick n_spec_l00Src_pick)) (o_ : Nat) (most_ : Int) (x1 : AV) (c5 : Int × l00Src) (c11 : Int × l00Src) (c17 : Int × l00Src)  {st : (Sl UInt8) × Int × Int × (Sl Feat) × Int × Int × Int} {tm : TM} {h : Heap} (R : (fun (st : (Sl UInt8) × Int × Int × (Sl Feat) × Int × Int × Int) tm h28 => match st with | (w23, w24, w25, w27, w30, w31, w32) => ∃ z26, tm = [AV.ptr o_ 1 0 0, iv most_, und, und, nilS, z26, iv w30, iv w31, iv w32, x1, AV.ptr o_ 1 0 0, iv c5.1, AV.ptr o_ 1 0 0, iv c11.1, AV.ptr o_ 1 0 0, iv most_, iv c17.1, iv (wr (1 + c17.1)), AV.top, AV.top, AV.top, AV.top, AV.top, AV.top, AV.top, AV.top, AV.top, AV.top, AV.top, AV.top, AV.top, AV.top, AV.top, AV.top, AV.top, AV.top, AV.top, AV.top, AV.top, AV.top, AV.top, AV.top, AV.top, AV.top, und] ∧ Hold B h28 [(AV.ptr o_ 1 0 0, .pt 3 [Sl.enc w23, iv w24, AV.sc (.int .u64 w25)]), (z26, obS (w27 : Sl Feat))]) st tm h) : Sim (loopP hm0_spec_l09Draw xm0_spec_l09Draw (lb0_spec_l09Draw env) tm h) (loopT s0_spec_l09Draw st) (fun (q : (Sl UInt8) × Int × Int × (Sl Feat)) (r : Res) => match q with | (q35, q36, q37, q39) => ∃ (q40 : Int) (q41 : Int) (q42 : Int) (z38 : AV) (h33 : Heap), r = (.exit 0, [AV.ptr o_ 1 0 0, iv most_, und, und, nilS, z38, iv q40, iv q41, iv q42, x1, AV.ptr o_ 1 0 0, iv c5.1, AV.ptr o_ 1 0 0, iv c11.1, AV.ptr o_ 1 0 0, iv most_, iv c17.1, iv (wr (1 + c17.1)), AV.top, AV.top, AV.top, AV.top, AV.top, AV.top, AV.top, AV.top, AV.top, AV.top, AV.top, AV.top, AV.top, AV.top, AV.top, AV.top, AV.top, AV.top, AV.top, AV.top, AV.top, AV.top, AV.top, AV.top, AV.top, AV.top, und], h33) ∧ Hold B h33 [(AV.ptr o_ 1 0 0, .pt 3 [Sl.enc q35, iv q36, AV.sc (.int .u64 q37)]), (z38, obS (q39 : Sl Feat))]) := by
  refine loop_sim (Rel := fun (st : (Sl UInt8) × Int × Int × (Sl Feat) × Int × Int × Int) tm h28 => match st with | (w23, w24, w25, w27, w30, w31, w32) => ∃ z26, tm = [AV.ptr o_ 1 0 0, iv most_, und, und, nilS, z26, iv w30, iv w31, iv w32, x1, AV.ptr o_ 1 0 0, iv c5.1, AV.ptr o_ 1 0 0, iv c11.1, AV.ptr o_ 1 0 0, iv most_, iv c17.1, iv (wr (1 + c17.1)), AV.top, AV.top, AV.top, AV.top, AV.top, AV.top, AV.top, AV.top, AV.top, AV.top, AV.top, AV.top, AV.top, AV.top, AV.top, AV.top, AV.top, AV.top, AV.top, AV.top, AV.top, AV.top, AV.top, AV.top, AV.top, AV.top, und] ∧ Hold B h28 [(AV.ptr o_ 1 0 0, .pt 3 [Sl.enc w23, iv w24, AV.sc (.int .u64 w25)]), (z26, obS (w27 : Sl Feat))]) (fun st tm h28 R => ?_) R
  obtain ⟨w23, w24, w25, w27, w30, w31, w32⟩ := st
  obtain ⟨z26, rfl, O29⟩ := R
  rw [e_lb0_spec_l09Draw]
  unfold s0_spec_l09Draw
  dsimp only
  refine sim_let (v := bv (decide (0 < w32))) (aBin_gtr _ _) ?_
  refine sim_cond (fun c44 => ?_) (fun c44 => ?_)
  · refine sim_gen he_spec_l00Src_pick (tg_spec_l00Src_pick (⟨w23, w24, w25⟩ : l00Src) 8 (O29.start (i := 0) rfl rfl)) (fun c45 v46 h47 hq48 => ?_)
    obtain ⟨e_v46, O49⟩ := hq48
    dsimp only at e_v46
    subst v46
    have O50 : Hold B h47 [(AV.ptr o_ 1 0 0, .pt 3 [Sl.enc c45.2.code, iv c45.2.pos, AV.sc (.int .u64 c45.2.seed)]), (z26, obS (w27 : Sl Feat))] := O29.merge (i := 0) rfl rfl O49
    refine sim_let (v := AV.agg [iv w30, iv w31, iv c45.1]) (by first | rfl | simp [aBuild, aFill, splice]) ?_
    refine sim_build (A := Feat) O50 ([(⟨w30, w31, c45.1⟩ : Feat)] : List Feat) rfl (by first | rfl | simp [aFillRows, zrows]) rfl (fun x51 h52 O53 => ?_)
    replace O53 : Hold B h52 [(AV.ptr o_ 1 0 0, .pt 3 [Sl.enc c45.2.code, iv c45.2.pos, AV.sc (.int .u64 c45.2.seed)]), (z26, obS (w27 : Sl Feat)), (x51, obS ((some ([(⟨w30, w31, c45.1⟩ : Feat)] : List Feat)) : Sl Feat))] := O53
    refine sim_append (A := Feat) (s := w27) O53 1 ([(⟨w30, w31, c45.1⟩ : Feat)] : List Feat) rfl (O53.src (A := Feat) (s := (some ([(⟨w30, w31, c45.1⟩ : Feat)] : List Feat))) 2 rfl) (by decide) (fun x56 h57 O58 => ?_)
    replace O58 : Hold B h57 [(AV.ptr o_ 1 0 0, .pt 3 [Sl.enc c45.2.code, iv c45.2.pos, AV.sc (.int .u64 c45.2.seed)]), (x56, obS ((appS w27 ([(⟨w30, w31, c45.1⟩ : Feat)] : List Feat)) : Sl Feat)), (x51, obS ((some ([(⟨w30, w31, c45.1⟩ : Feat)] : List Feat)) : Sl Feat))] := O58
    have O60 : Hold B h57 [(AV.ptr o_ 1 0 0, .pt 3 [Sl.enc c45.2.code, iv c45.2.pos, AV.sc (.int .u64 c45.2.seed)]), (x56, obS ((appS w27 ([(⟨w30, w31, c45.1⟩ : Feat)] : List Feat)) : Sl Feat))] := O58.sel [0, 1] (by decide) rfl
    refine sim_gen he_spec_l00Src_pick (tg_spec_l00Src_pick c45.2 61 (O60.start (i := 0) rfl rfl)) (fun c61 v62 h63 hq64 => ?_)
    obtain ⟨e_v62, O65⟩ := hq64
    dsimp only at e_v62
    subst v62
    have O66 : Hold B h63 [(AV.ptr o_ 1 0 0, .pt 3 [Sl.enc c61.2.code, iv c61.2.pos, AV.sc (.int .u64 c61.2.seed)]), (x56, obS ((appS w27 ([(⟨w30, w31, c45.1⟩ : Feat)] : List Feat)) : Sl Feat))] := O60.merge (i := 0) rfl rfl O65
    refine sim_let (v := iv (wr (w30 + c61.1))) (aBin_add _ _) ?_
    refine sim_let (v := iv (wr ((wr (w30 + c61.1)) - 30))) (aBin_sub _ _) ?_
    refine sim_callV2 (t := (fun a b : Int => min a b)) he_spec_l00Min (snapD_int _ _) (snapD_int _ _) (fun c67 => ?_)
    refine sim_callV2 (t := (fun a b : Int => max a b)) he_spec_l00Max (snapD_int _ _) (snapD_int _ _) (fun c68 => ?_)
    refine sim_gen he_spec_l00Src_pick (tg_spec_l00Src_pick c61.2 61 (O66.start (i := 0) rfl rfl)) (fun c69 v70 h71 hq72 => ?_)
    obtain ⟨e_v70, O73⟩ := hq72
    dsimp only at e_v70
    subst v70
    have O74 : Hold B h71 [(AV.ptr o_ 1 0 0, .pt 3 [Sl.enc c69.2.code, iv c69.2.pos, AV.sc (.int .u64 c69.2.seed)]), (x56, obS ((appS w27 ([(⟨w30, w31, c45.1⟩ : Feat)] : List Feat)) : Sl Feat))] := O66.merge (i := 0) rfl rfl O73
    refine sim_let (v := iv (wr (w31 + c69.1))) (aBin_add _ _) ?_
    refine sim_let (v := iv (wr ((wr (w31 + c69.1)) - 30))) (aBin_sub _ _) ?_
    refine sim_callV2 (t := (fun a b : Int => min a b)) he_spec_l00Min (snapD_int _ _) (snapD_int _ _) (fun c75 => ?_)
    refine sim_callV2 (t := (fun a b : Int => max a b)) he_spec_l00Max (snapD_int _ _) (snapD_int _ _) (fun c76 => ?_)
    refine sim_let (v := iv (wr (w32 - 1))) (aBin_sub _ _) ?_
    exact sim_ret ⟨rfl, _, rfl, O74⟩
  · exact sim_ret ⟨nofun, _, _, _, _, _, rfl, O29⟩
theorem ts_spec_l09Draw (env : Nat → Contract) (he_spec_l00Max : env n_spec_l00Max = .pure (T2 (fun a b : Int => max a b))) (he_spec_l00Min : env n_spec_l00Min = .pure (T2 (fun a b : Int => min a b))) (he_spec_l00Src_pick : env n_spec_l00Src_pick = .gen (denFn Try.prog ev_spec_l00Src_pick n_spec_l00Src_pick)) {B : Base} {h : Heap} {o_ : Nat} (s_ : l00Src) (most_ : Int) (O : Hold B h [(AV.ptr o_ 1 0 0, .pt 3 [Sl.enc s_.code, iv s_.pos, AV.sc (.int .u64 s_.seed)])]) : Sim (denFn Try.prog env n_spec_l09Draw [AV.ptr o_ 1 0 0, iv most_] h) (t_spec_l09Draw s_ most_) (fun c p => ∃ x1, p.1 = x1 ∧ Hold B p.2 ([(AV.ptr o_ 1 0 0, .pt 3 [Sl.enc c.2.code, iv c.2.pos, AV.sc (.int .u64 c.2.seed)]), (x1, obS (c.1 : Sl Feat))])) := by
  rw [e_spec_l09Draw]
  unfold t_spec_l09Draw
  refine sim_build (A := Feat) O ([] : List Feat) rfl (by first | rfl | simp [aFillRows, zrows]) rfl (fun x1 h2 O3 => ?_)
  replace O3 : Hold B h2 [(AV.ptr o_ 1 0 0, .pt 3 [Sl.enc s_.code, iv s_.pos, AV.sc (.int .u64 s_.seed)]), (x1, obS ((some ([] : List Feat)) : Sl Feat))] := O3
  refine sim_gen he_spec_l00Src_pick (tg_spec_l00Src_pick s_ 256 (O3.start (i := 0) rfl rfl)) (fun c5 v6 h7 hq8 => ?_)
  obtain ⟨e_v6, O9⟩ := hq8
  dsimp only at e_v6
  subst v6
  have O10 : Hold B h7 [(AV.ptr o_ 1 0 0, .pt 3 [Sl.enc c5.2.code, iv c5.2.pos, AV.sc (.int .u64 c5.2.seed)]), (x1, obS ((some ([] : List Feat)) : Sl Feat))] := O3.merge (i := 0) rfl rfl O9
  refine sim_gen he_spec_l00Src_pick (tg_spec_l00Src_pick c5.2 256 (O10.start (i := 0) rfl rfl)) (fun c11 v12 h13 hq14 => ?_)
  obtain ⟨e_v12, O15⟩ := hq14
  dsimp only at e_v12
  subst v12
  have O16 : Hold B h13 [(AV.ptr o_ 1 0 0, .pt 3 [Sl.enc c11.2.code, iv c11.2.pos, AV.sc (.int .u64 c11.2.seed)]), (x1, obS ((some ([] : List Feat)) : Sl Feat))] := O10.merge (i := 0) rfl rfl O15
  refine sim_gen he_spec_l00Src_pick (tg_spec_l00Src_pick c11.2 most_ (O16.start (i := 0) rfl rfl)) (fun c17 v18 h19 hq20 => ?_)
  obtain ⟨e_v18, O21⟩ := hq20
  dsimp only at e_v18
  subst v18
  have O22 : Hold B h19 [(AV.ptr o_ 1 0 0, .pt 3 [Sl.enc c17.2.code, iv c17.2.pos, AV.sc (.int .u64 c17.2.seed)]), (x1, obS ((some ([] : List Feat)) : Sl Feat))] := O16.merge (i := 0) rfl rfl O21
  refine sim_let (v := iv (wr (1 + c17.1))) (aBin_add _ _) ?_
  refine sim_bind ((tl0_spec_l09Draw env he_spec_l00Max he_spec_l00Min he_spec_l00Src_pick o_ most_ x1 c5 c11 c17) ⟨_, rfl, O22⟩) (fun qq80 r hq => ?_)
  obtain ⟨q35, q36, q37, q39⟩ := qq80
  obtain ⟨q40, q41, q42, z38, h33, rfl, O34⟩ := hq
  rw [e_lk0x0_spec_l09Draw]
  exact sim_ret ⟨_, rfl, O34⟩
noncomputable def ev_spec_l09Draw : Nat → Contract := envL [(n_spec_l00Max, .pure (T2 (fun a b : Int => max a b))), (n_spec_l00Min, .pure (T2 (fun a b : Int => min a b))), (n_spec_l00Src_pick, .gen (denFn Try.prog ev_spec_l00Src_pick n_spec_l00Src_pick))]
theorem eo_spec_l09Draw : EnvOK Try.prog ev_spec_l09Draw := (Econs ok_spec_l00Max (Econs ok_spec_l00Min (EconsG (gen_of_den eo_spec_l00Src_pick mixed hb_spec_l00Src_pick) E0)))
theorem tg_spec_l09Draw {B : Base} {h : Heap} {o_ : Nat} (s_ : l00Src) (most_ : Int) (O : Hold B h [(AV.ptr o_ 1 0 0, .pt 3 [Sl.enc s_.code, iv s_.pos, AV.sc (.int .u64 s_.seed)])]) : Sim (denFn Try.prog ev_spec_l09Draw n_spec_l09Draw [AV.ptr o_ 1 0 0, iv most_] h) (t_spec_l09Draw s_ most_) (fun c p => ∃ x1, p.1 = x1 ∧ Hold B p.2 ([(AV.ptr o_ 1 0 0, .pt 3 [Sl.enc c.2.code, iv c.2.pos, AV.sc (.int .u64 c.2.seed)]), (x1, obS (c.1 : Sl Feat))])) := ts_spec_l09Draw ev_spec_l09Draw (by simp [ev_spec_l09Draw, envL]) (by simp [ev_spec_l09Draw, envL]) (by simp [ev_spec_l09Draw, envL]) s_ most_  O

def t_spec_l00Src_one (s_ : l00Src) (n_ : Int) : Option (Bool × l00Src) :=
  obind (t_spec_l00Src_pick s_ n_) fun c1 =>
  some (decide (c1.1 = 0), (⟨c1.2.code, c1.2.pos, c1.2.seed⟩ : l00Src))

theorem ts_spec_l00Src_one (env : Nat → Contract) (he_spec_l00Src_pick : env n_spec_l00Src_pick = .gen (denFn Try.prog ev_spec_l00Src_pick n_spec_l00Src_pick)) {B : Base} {h : Heap} {o_ : Nat} (s_ : l00Src) (n_ : Int) (O : Hold B h [(AV.ptr o_ 1 0 0, .pt 3 [Sl.enc s_.code, iv s_.pos, AV.sc (.int .u64 s_.seed)])]) : Sim (denFn Try.prog env n_spec_l00Src_one [AV.ptr o_ 1 0 0, iv n_] h) (t_spec_l00Src_one s_ n_) (fun c p => p.1 = bv c.1 ∧ Hold B p.2 ([(AV.ptr o_ 1 0 0, .pt 3 [Sl.enc c.2.code, iv c.2.pos, AV.sc (.int .u64 c.2.seed)])])) := by
  rw [e_spec_l00Src_one]
  unfold t_spec_l00Src_one
  refine sim_gen he_spec_l00Src_pick (tg_spec_l00Src_pick s_ n_ (O.start (i := 0) rfl rfl)) (fun c1 v2 h3 hq4 => ?_)
  obtain ⟨e_v2, O5⟩ := hq4
  dsimp only at e_v2
  subst v2
  have O6 : Hold B h3 [(AV.ptr o_ 1 0 0, .pt 3 [Sl.enc c1.2.code, iv c1.2.pos, AV.sc (.int .u64 c1.2.seed)])] := O.merge (i := 0) rfl rfl O5
  refine sim_let (v := bv (decide (c1.1 = 0))) (aCmp_eq _ _) ?_
  exact sim_ret ⟨rfl, O6⟩
noncomputable def ev_spec_l00Src_one : Nat → Contract := envL [(n_spec_l00Src_pick, .gen (denFn Try.prog ev_spec_l00Src_pick n_spec_l00Src_pick))]
theorem eo_spec_l00Src_one : EnvOK Try.prog ev_spec_l00Src_one := (EconsG (gen_of_den eo_spec_l00Src_pick mixed hb_spec_l00Src_pick) E0)
theorem tg_spec_l00Src_one {B : Base} {h : Heap} {o_ : Nat} (s_ : l00Src) (n_ : Int) (O : Hold B h [(AV.ptr o_ 1 0 0, .pt 3 [Sl.enc s_.code, iv s_.pos, AV.sc (.int .u64 s_.seed)])]) : Sim (denFn Try.prog ev_spec_l00Src_one n_spec_l00Src_one [AV.ptr o_ 1 0 0, iv n_] h) (t_spec_l00Src_one s_ n_) (fun c p => p.1 = bv c.1 ∧ Hold B p.2 ([(AV.ptr o_ 1 0 0, .pt 3 [Sl.enc c.2.code, iv c.2.pos, AV.sc (.int .u64 c.2.seed)])])) := ts_spec_l00Src_one ev_spec_l00Src_one (by simp [ev_spec_l00Src_one, envL]) s_ n_  O

def t_spec_l09Size (n_ : Int) : Option Int :=
  bif decide (n_ < 0) then
    some (wr (0 - n_))
  else
    some n_

theorem ts_spec_l09Size (env : Nat → Contract)  (n_ : Int) : Sim (denFn Try.prog env n_spec_l09Size [iv n_] []) (t_spec_l09Size n_) fun c p => release p.2 depth p.1 = some ((fun c : Int => enc c) c) := by
  have O := Hold.nil []
  generalize hB : (⟨[], []⟩ : Base) = B at O
  clear hB
  rw [e_spec_l09Size]
  unfold t_spec_l09Size
  refine sim_let (v := bv (decide (n_ < 0))) (aBin_lss _ _) ?_
  refine sim_cond (fun c1 => ?_) (fun c1 => ?_)
  · refine sim_let (v := iv (wr (0 - n_))) (aUn_neg _) ?_
    exact sim_ret (release_plain (by rfl) _)
  · exact sim_ret (release_plain (by rfl) _)
theorem tt_spec_l09Size : PureOK Try.prog n_spec_l09Size (C1 (fun c : Int => enc c) t_spec_l09Size) := pureC1 E0 mixed hb_spec_l09Size fun n_ => ts_spec_l09Size _  n_

def t_spec_A2Two (code_ : Sl UInt8) : Option ((Sl Feat) × (Sl Feat) × Int) :=
  obind (t_spec_l09Draw (⟨code_, 0, 0⟩ : l00Src) 8) fun c5 =>
  obind (t_spec_l09Draw c5.2 8) fun c13 =>
  obind (t_spec_l00Src_one c13.2 2) fun c21 =>
  bif c21.1 then
    obind (appO (some ([] : List Feat)) (c5.1.getD [])) fun _ =>
    obind (t_spec_l00Src_pick c21.2 256) fun c37 =>
    obind (getI ((appS (some ([] : List Feat)) (c5.1.getD [])).getD []) 0) fun a43 =>
    obind (t_spec_l09Size (wr ((((c5.1.getD []).length : Nat) : Int) - ((((setS (appS (some ([] : List Feat)) (c5.1.getD [])) 0 (⟨c37.1, a43.y, a43.d⟩ : Feat)).getD []).length : Nat) : Int)))) fun c49 =>
    obind (t_spec_l00Src_pick c37.2 4) fun c50 =>
    some (c5.1, (setS (appS (some ([] : List Feat)) (c5.1.getD [])) 0 (⟨c37.1, a43.y, a43.d⟩ : Feat)), wr (c49 + c50.1))
  else
    obind (t_spec_l09Size (wr ((((c5.1.getD []).length : Nat) : Int) - (((c13.1.getD []).length : Nat) : Int)))) fun c57 =>
    obind (t_spec_l00Src_pick c21.2 4) fun c58 =>
    some (c5.1, c13.1, wr (c57 + c58.1))

theorem ts_spec_A2Two (env : Nat → Contract) (he_spec_l00From : env n_spec_l00From = .pure (C1 fromA (fun q : Sl UInt8 => some q))) (he_spec_l00Src_one : env n_spec_l00Src_one = .gen (denFn Try.prog ev_spec_l00Src_one n_spec_l00Src_one)) (he_spec_l00Src_pick : env n_spec_l00Src_pick = .gen (denFn Try.prog ev_spec_l00Src_pick n_spec_l00Src_pick)) (he_spec_l09Draw : env n_spec_l09Draw = .gen (denFn Try.prog ev_spec_l09Draw n_spec_l09Draw)) (he_spec_l09Size : env n_spec_l09Size = .pure (C1 (fun c : Int => enc c) t_spec_l09Size)) (code_ : Sl UInt8) : Sim (denFn Try.prog env n_spec_A2Two [Sl.enc code_] []) (t_spec_A2Two code_) fun c p => release p.2 depth p.1 = some ((fun c : (Sl Feat) × (Sl Feat) × Int => AV.tup [rS c.1, rS c.2.1, enc c.2.2]) c) := by
  have O := Hold.nil []
  generalize hB : (⟨[], []⟩ : Base) = B at O
  clear hB
  rw [e_spec_A2Two]
  unfold t_spec_A2Two
  refine sim_src O he_spec_l00From (snapD_enc _ _) (by first | rfl | exact noRef_enc _) (fun o1 h2 O3 => ?_)
  replace O3 : Hold B h2 [(AV.ptr o1 1 0 0, .pt 3 [Sl.enc code_, iv 0, AV.sc (.int .u64 0)])] := O3
  refine sim_gen he_spec_l09Draw (tg_spec_l09Draw (⟨code_, 0, 0⟩ : l00Src) 8 (O3.start (i := 0) rfl rfl)) (fun c5 v6 h7 hq8 => ?_)
  obtain ⟨x11, e_v6, O9⟩ := hq8
  dsimp only at e_v6
  subst v6
  have O10 : Hold B h7 [(AV.ptr o1 1 0 0, .pt 3 [Sl.enc c5.2.code, iv c5.2.pos, AV.sc (.int .u64 c5.2.seed)]), (x11, obS (c5.1 : Sl Feat))] := O3.merge (i := 0) rfl rfl O9
  refine sim_gen he_spec_l09Draw (tg_spec_l09Draw c5.2 8 (O10.start (i := 0) rfl rfl)) (fun c13 v14 h15 hq16 => ?_)
  obtain ⟨x19, e_v14, O17⟩ := hq16
  dsimp only at e_v14
  subst v14
  have O18 : Hold B h15 [(AV.ptr o1 1 0 0, .pt 3 [Sl.enc c13.2.code, iv c13.2.pos, AV.sc (.int .u64 c13.2.seed)]), (x11, obS (c5.1 : Sl Feat)), (x19, obS (c13.1 : Sl Feat))] := O10.merge (i := 0) rfl rfl O17
  refine sim_gen he_spec_l00Src_one (tg_spec_l00Src_one c13.2 2 (O18.start (i := 0) rfl rfl)) (fun c21 v22 h23 hq24 => ?_)
  obtain ⟨e_v22, O25⟩ := hq24
  dsimp only at e_v22
  subst v22
  have O26 : Hold B h23 [(AV.ptr o1 1 0 0, .pt 3 [Sl.enc c21.2.code, iv c21.2.pos, AV.sc (.int .u64 c21.2.seed)]), (x11, obS (c5.1 : Sl Feat)), (x19, obS (c13.1 : Sl Feat))] := O18.merge (i := 0) rfl rfl O25
  refine sim_cond (fun c27 => ?_) (fun c27 => ?_)
  · refine sim_build (A := Feat) O26 ([] : List Feat) rfl (by first | rfl | simp [aFillRows, zrows]) rfl (fun x28 h29 O30 => ?_)
    replace O30 : Hold B h29 [(AV.ptr o1 1 0 0, .pt 3 [Sl.enc c21.2.code, iv c21.2.pos, AV.sc (.int .u64 c21.2.seed)]), (x11, obS (c5.1 : Sl Feat)), (x19, obS (c13.1 : Sl Feat)), (x28, obS ((some ([] : List Feat)) : Sl Feat))] := O30
    refine sim_append (A := Feat) (s := (some ([] : List Feat))) O30 3 (c5.1.getD []) rfl (O30.src (A := Feat) (s := c5.1) 1 rfl) (by decide) (fun x33 h34 O35 => ?_)
    replace O35 : Hold B h34 [(AV.ptr o1 1 0 0, .pt 3 [Sl.enc c21.2.code, iv c21.2.pos, AV.sc (.int .u64 c21.2.seed)]), (x11, obS (c5.1 : Sl Feat)), (x19, obS (c13.1 : Sl Feat)), (x33, obS ((appS (some ([] : List Feat)) (c5.1.getD [])) : Sl Feat))] := O35
    refine sim_gen he_spec_l00Src_pick (tg_spec_l00Src_pick c21.2 256 (O35.start (i := 0) rfl rfl)) (fun c37 v38 h39 hq40 => ?_)
    obtain ⟨e_v38, O41⟩ := hq40
    dsimp only at e_v38
    subst v38
    have O42 : Hold B h39 [(AV.ptr o1 1 0 0, .pt 3 [Sl.enc c37.2.code, iv c37.2.pos, AV.sc (.int .u64 c37.2.seed)]), (x11, obS (c5.1 : Sl Feat)), (x19, obS (c13.1 : Sl Feat)), (x33, obS ((appS (some ([] : List Feat)) (c5.1.getD [])) : Sl Feat))] := O35.merge (i := 0) rfl rfl O41
    refine sim_get (O42.tab (A := Feat) (s := (appS (some ([] : List Feat)) (c5.1.getD []))) 3 rfl) (fun m44 a43 hi45 hm46 => ?_)
    refine sim_let (v := elp x33 m44 0) ((O42.tab (A := Feat) (s := (appS (some ([] : List Feat)) (c5.1.getD []))) 3 rfl).fld _ _ _) ?_
    refine sim_set (A := Feat) O42 3 (⟨c37.1, a43.y, a43.d⟩ : Feat) rfl hi45 hm46 rfl (by simp) (by first | rfl | simp) (by first | rfl | simp [splice]) (fun h47 O48 => ?_)
    replace O48 : Hold B h47 [(AV.ptr o1 1 0 0, .pt 3 [Sl.enc c37.2.code, iv c37.2.pos, AV.sc (.int .u64 c37.2.seed)]), (x11, obS (c5.1 : Sl Feat)), (x19, obS (c13.1 : Sl Feat)), (x33, obS ((setS (appS (some ([] : List Feat)) (c5.1.getD [])) 0 (⟨c37.1, a43.y, a43.d⟩ : Feat)) : Sl Feat))] := O48
    refine sim_let (v := iv (((c5.1.getD []).length : Nat) : Int)) (O48.tab (A := Feat) (s := c5.1) 1 rfl).len ?_
    refine sim_let (v := iv ((((setS (appS (some ([] : List Feat)) (c5.1.getD [])) 0 (⟨c37.1, a43.y, a43.d⟩ : Feat)).getD []).length : Nat) : Int)) (O48.tab (A := Feat) (s := (setS (appS (some ([] : List Feat)) (c5.1.getD [])) 0 (⟨c37.1, a43.y, a43.d⟩ : Feat))) 3 rfl).len ?_
    refine sim_let (v := iv (wr ((((c5.1.getD []).length : Nat) : Int) - ((((setS (appS (some ([] : List Feat)) (c5.1.getD [])) 0 (⟨c37.1, a43.y, a43.d⟩ : Feat)).getD []).length : Nat) : Int)))) (aBin_sub _ _) ?_
    refine sim_call1 he_spec_l09Size (snapD_int _ _) (fun c49 => ?_)
    refine sim_let2 (hand_plain (by rfl) _ _) ?_
    refine sim_gen he_spec_l00Src_pick (tg_spec_l00Src_pick c37.2 4 (O48.start (i := 0) rfl rfl)) (fun c50 v51 h52 hq53 => ?_)
    obtain ⟨e_v51, O54⟩ := hq53
    dsimp only at e_v51
    subst v51
    have O55 : Hold B h52 [(AV.ptr o1 1 0 0, .pt 3 [Sl.enc c50.2.code, iv c50.2.pos, AV.sc (.int .u64 c50.2.seed)]), (x11, obS (c5.1 : Sl Feat)), (x19, obS (c13.1 : Sl Feat)), (x33, obS ((setS (appS (some ([] : List Feat)) (c5.1.getD [])) 0 (⟨c37.1, a43.y, a43.d⟩ : Feat)) : Sl Feat))] := O48.merge (i := 0) rfl rfl O54
    refine sim_let (v := iv (wr (c49 + c50.1))) (aBin_add _ _) ?_
    have O56 : Hold B h52 [(x11, obS (c5.1 : Sl Feat)), (x33, obS ((setS (appS (some ([] : List Feat)) (c5.1.getD [])) 0 (⟨c37.1, a43.y, a43.d⟩ : Feat)) : Sl Feat))] := O55.sel [1, 3] (by decide) rfl
    exact sim_ret (release_of (by simp only [ids_tup, ids_aggD, ids_agg, ids_iv, ids_bv, ids_sv, ids_bt, ids_nilS, ids_enc, O56.idsD (A := Feat) (s := c5.1) 0 rfl, O56.idsD (A := Feat) (s := (setS (appS (some ([] : List Feat)) (c5.1.getD [])) 0 (⟨c37.1, a43.y, a43.d⟩ : Feat))) 1 rfl, List.map_append, List.map_nil, List.flatMap_cons, List.flatMap_nil, List.append_nil, List.nil_append]; simpa only [List.flatMap_cons, List.flatMap_nil, List.append_nil, List.nil_append] using O56.nd2) (by simp only [rel_tup, rel_aggD, rel_agg, rel_iv, rel_bv, rel_sv, rel_bt, rel_nilS, rel_enc, O56.relD (A := Feat) (s := c5.1) 0 rfl, O56.relD (A := Feat) (s := (setS (appS (some ([] : List Feat)) (c5.1.getD [])) 0 (⟨c37.1, a43.y, a43.d⟩ : Feat))) 1 rfl, omapc, omapn, obind_sm] <;> rfl))
  · refine sim_let (v := iv (((c5.1.getD []).length : Nat) : Int)) (O26.tab (A := Feat) (s := c5.1) 1 rfl).len ?_
    refine sim_let (v := iv (((c13.1.getD []).length : Nat) : Int)) (O26.tab (A := Feat) (s := c13.1) 2 rfl).len ?_
    refine sim_let (v := iv (wr ((((c5.1.getD []).length : Nat) : Int) - (((c13.1.getD []).length : Nat) : Int)))) (aBin_sub _ _) ?_
    refine sim_call1 he_spec_l09Size (snapD_int _ _) (fun c57 => ?_)
    refine sim_let2 (hand_plain (by rfl) _ _) ?_
    refine sim_gen he_spec_l00Src_pick (tg_spec_l00Src_pick c21.2 4 (O26.start (i := 0) rfl rfl)) (fun c58 v59 h60 hq61 => ?_)
    obtain ⟨e_v59, O62⟩ := hq61
    dsimp only at e_v59
    subst v59
    have O63 : Hold B h60 [(AV.ptr o1 1 0 0, .pt 3 [Sl.enc c58.2.code, iv c58.2.pos, AV.sc (.int .u64 c58.2.seed)]), (x11, obS (c5.1 : Sl Feat)), (x19, obS (c13.1 : Sl Feat))] := O26.merge (i := 0) rfl rfl O62
    refine sim_let (v := iv (wr (c57 + c58.1))) (aBin_add _ _) ?_
    have O64 : Hold B h60 [(x11, obS (c5.1 : Sl Feat)), (x19, obS (c13.1 : Sl Feat))] := O63.sel [1, 2] (by decide) rfl
    exact sim_ret (release_of (by simp only [ids_tup, ids_aggD, ids_agg, ids_iv, ids_bv, ids_sv, ids_bt, ids_nilS, ids_enc, O64.idsD (A := Feat) (s := c5.1) 0 rfl, O64.idsD (A := Feat) (s := c13.1) 1 rfl, List.map_append, List.map_nil, List.flatMap_cons, List.flatMap_nil, List.append_nil, List.nil_append]; simpa only [List.flatMap_cons, List.flatMap_nil, List.append_nil, List.nil_append] using O64.nd2) (by simp only [rel_tup, rel_aggD, rel_agg, rel_iv, rel_bv, rel_sv, rel_bt, rel_nilS, rel_enc, O64.relD (A := Feat) (s := c5.1) 0 rfl, O64.relD (A := Feat) (s := c13.1) 1 rfl, omapc, omapn, obind_sm] <;> rfl))
theorem tt_spec_A2Two : PureOK Try.prog n_spec_A2Two (C1 (fun c : (Sl Feat) × (Sl Feat) × Int => AV.tup [rS c.1, rS c.2.1, enc c.2.2]) t_spec_A2Two) := pureC1 (Econs tt_spec_l00From (EconsG (gen_of_den eo_spec_l00Src_one mixed hb_spec_l00Src_one) (EconsG (gen_of_den eo_spec_l00Src_pick mixed hb_spec_l00Src_pick) (EconsG (gen_of_den eo_spec_l09Draw mixed hb_spec_l09Draw) (Econs tt_spec_l09Size E0))))) mixed hb_spec_A2Two fun code_ => ts_spec_A2Two _ (by simp [envL]) (by simp [envL]) (by simp [envL]) (by simp [envL]) (by simp [envL]) code_

def s0_slices_IndexFunc_impl_Feat_impl_Feat (p_ : Feat → Option Bool) (s_ : Sl Feat) : Int → Option (Sum Int (Sum Unit Int)) := fun w3 =>
  bif decide (w3 < (((s_.getD []).length : Nat) : Int)) then
    obind (getI (s_.getD []) w3) fun a13 =>
    obind (p_ a13) fun c17 =>
    bif c17 then
      some (.inr (.inr w3))
    else
      some (.inl (wr (w3 + 1)))
  else
    some (.inr (.inl ()))
def t_slices_IndexFunc_impl_Feat_impl_Feat (p_ : Feat → Option Bool) (s_ : Sl Feat) : Option Int :=
  obind (loopT (s0_slices_IndexFunc_impl_Feat_impl_Feat p_ s_) 0) fun qq26 => match qq26 with
  | (.inl _) =>
      some (-1)
  | (.inr q10) =>
      some q10

theorem tl0_slices_IndexFunc_impl_Feat_impl_Feat (env : Nat → Contract) {B : Base} {K : Type} [Cod K] {g : Nat} {caps : K → List AV} {P : K → Feat → Option Bool} (hp : ∀ k (a : Feat) h, Sim (aCall (env g) (AV.agg (Row.cells a) :: caps k) h) (P k a) fun b r => r = (bv b, h))  (s_ : Sl Feat) (f_ : K)  {st : Int} {tm : TM} {h : Heap} (R : (fun (st : Int) tm h1 => match st with | w3 => tm = [Sl.enc s_, AV.fn g (caps f_), und, und, AV.top, AV.top, Sl.enc s_, iv (((s_.getD []).length : Nat) : Int), iv w3, AV.top, AV.top, AV.top, AV.top, AV.top, AV.top, AV.top, AV.top, AV.top, AV.top] ∧ Hold B h1 []) st tm h) : Sim (loopP hm0_slices_IndexFunc_impl_Feat_impl_Feat xm0_slices_IndexFunc_impl_Feat_impl_Feat (lb0_slices_IndexFunc_impl_Feat_impl_Feat env) tm h) (loopT (s0_slices_IndexFunc_impl_Feat_impl_Feat (P f_) s_) st) (fun (q : Sum Unit Int) (r : Res) => match q with | .inl _ => ∃ (z6 : AV) (z7 : AV) (h4 : Heap), r = (.exit 0, [Sl.enc s_, AV.fn g (caps f_), und, und, z6, z7, Sl.enc s_, iv (((s_.getD []).length : Nat) : Int), AV.top, AV.top, AV.top, AV.top, AV.top, AV.top, AV.top, AV.top, AV.top, AV.top, AV.top], h4) ∧ Hold B h4 [] | .inr q10 => ∃ (q11 : Int) (h8 : Heap), r = (.ret, [Sl.enc s_, AV.fn g (caps f_), und, und, iv q10, iv q11, Sl.enc s_, iv (((s_.getD []).length : Nat) : Int), AV.top, AV.top, AV.top, AV.top, AV.top, AV.top, AV.top, AV.top, AV.top, AV.top, AV.top], h8) ∧ Hold B h8 []) := by
  refine loop_sim (Rel := fun (st : Int) tm h1 => match st with | w3 => tm = [Sl.enc s_, AV.fn g (caps f_), und, und, AV.top, AV.top, Sl.enc s_, iv (((s_.getD []).length : Nat) : Int), iv w3, AV.top, AV.top, AV.top, AV.top, AV.top, AV.top, AV.top, AV.top, AV.top, AV.top] ∧ Hold B h1 []) (fun w3 tm h1 R => ?_) R
  obtain ⟨rfl, O2⟩ := R
  rw [e_lb0_slices_IndexFunc_impl_Feat_impl_Feat]
  unfold s0_slices_IndexFunc_impl_Feat_impl_Feat
  dsimp only
  refine sim_let (v := bv (decide (w3 < (((s_.getD []).length : Nat) : Int)))) (aBin_lss _ _) ?_
  refine sim_cond (fun c12 => ?_) (fun c12 => ?_)
  · refine sim_get (Tab.enc h1 s_) (fun m14 a13 hi15 hm16 => ?_)
    refine sim_let (v := AV.agg [iv a13.x, iv a13.y, iv a13.d]) ((Tab.enc h1 s_).ld hm16 true 3 0) ?_
    refine sim_bind2 (hp f_ a13 _) (fun c17 v18 hh19 hq20 => ?_)
    cases hq20
    refine sim_cond (fun c21 => ?_) (fun c21 => ?_)
    · exact sim_ret ⟨nofun, _, _, rfl, O2⟩
    · refine sim_let (v := iv (wr (w3 + 1))) (aBin_add _ _) ?_
      exact sim_ret ⟨rfl, rfl, O2⟩
  · exact sim_ret ⟨nofun, _, _, _, rfl, O2⟩
theorem ts_slices_IndexFunc_impl_Feat_impl_Feat (env : Nat → Contract) {K : Type} [Cod K] {g : Nat} {caps : K → List AV} {P : K → Feat → Option Bool} (hp : ∀ k (a : Feat) h, Sim (aCall (env g) (AV.agg (Row.cells a) :: caps k) h) (P k a) fun b r => r = (bv b, h))  (s_ : Sl Feat) (f_ : K) : Sim (denFn Try.prog env n_slices_IndexFunc_impl_Feat_impl_Feat [Sl.enc s_, AV.fn g (caps f_)] []) (t_slices_IndexFunc_impl_Feat_impl_Feat (P f_) s_) fun c p => release p.2 depth p.1 = some ((fun c : Int => enc c) c) := by
  have O := Hold.nil []
  generalize hB : (⟨[], []⟩ : Base) = B at O
  clear hB
  rw [e_slices_IndexFunc_impl_Feat_impl_Feat]
  unfold t_slices_IndexFunc_impl_Feat_impl_Feat
  refine sim_let (v := iv (((s_.getD []).length : Nat) : Int)) (Tab.enc [] s_).len ?_
  refine sim_bind ((tl0_slices_IndexFunc_impl_Feat_impl_Feat env hp s_ f_) ⟨rfl, O⟩) (fun qq26 r hq => ?_)
  rcases qq26 with _ | q10
  · obtain ⟨z6, z7, h4, rfl, O5⟩ := hq
    rw [e_lk0x0_slices_IndexFunc_impl_Feat_impl_Feat]
    exact sim_ret (release_plain (by rfl) _)
  · obtain ⟨q11, h8, rfl, O9⟩ := hq
    rw [e_lk0r_slices_IndexFunc_impl_Feat_impl_Feat]
    exact sim_ret (release_plain (by rfl) _)
theorem tt0_slices_IndexFunc_impl_Feat_impl_Feat {g : Nat} {t : Feat → Option Bool} (hg : PureOK Try.prog g (C1 (fun c : Bool => enc c) t)) : PureOK Try.prog n_slices_IndexFunc_impl_Feat_impl_Feat (C2 (fun c : Int => enc c) (fun (q : Sl Feat) (k : Clo0 g) => t_slices_IndexFunc_impl_Feat_impl_Feat ((fun _ : Clo0 g => t) k) q)) := pureC2 (Econs hg E0) mixed hb_slices_IndexFunc_impl_Feat_impl_Feat fun q k => ts_slices_IndexFunc_impl_Feat_impl_Feat _ (caps := fun _ => []) (P := (fun _ : Clo0 g => t)) (fun k a h => callP0 (by simp [envL]) (snapD_nr _ a rfl)) q k
theorem tt1_slices_IndexFunc_impl_Feat_impl_Feat {g : Nat} {X : Type} [Row X] {tp : Feat → Pt X → Option Bool} (hg : PureOK Try.prog g (C2 (fun c : Bool => enc c) tp)) : PureOK Try.prog n_slices_IndexFunc_impl_Feat_impl_Feat (C2 (fun c : Int => enc c) (fun (q : Sl Feat) (k : Clo g (Pt X)) => t_slices_IndexFunc_impl_Feat_impl_Feat ((fun (k : Clo g (Pt X)) a => tp a k.val) k) q)) := pureC2 (Econs hg E0) mixed hb_slices_IndexFunc_impl_Feat_impl_Feat fun q k => ts_slices_IndexFunc_impl_Feat_impl_Feat _ (caps := fun k : Clo g (Pt X) => [enc k.val]) (P := (fun (k : Clo g (Pt X)) a => tp a k.val)) (fun k a h => callP1 (by simp [envL]) (snapD_nr _ a rfl) (snapD_fptr _ _ _ _ rfl)) q k

def t_slices_ContainsFunc_impl_Feat_impl_Feat (p_ : Feat → Option Bool) (s_ : Sl Feat) : Option Bool :=
  obind (t_slices_IndexFunc_impl_Feat_impl_Feat p_ s_) fun c1 =>
  some (decide (0 ≤ c1))

theorem ts_slices_ContainsFunc_impl_Feat_impl_Feat (env : Nat → Contract) {K : Type} [Cod K] {g : Nat} {caps : K → List AV} {P : K → Feat → Option Bool} (hs : ∀ k h, snapD h (AV.fn g (caps k)) = some k) (he_slices_IndexFunc_impl_Feat_impl_Feat : env n_slices_IndexFunc_impl_Feat_impl_Feat = .pure (C2 (fun c : Int => enc c) (fun (q : Sl Feat) (k : K) => t_slices_IndexFunc_impl_Feat_impl_Feat (P k) q))) (s_ : Sl Feat) (f_ : K) : Sim (denFn Try.prog env n_slices_ContainsFunc_impl_Feat_impl_Feat [Sl.enc s_, AV.fn g (caps f_)] []) (t_slices_ContainsFunc_impl_Feat_impl_Feat (P f_) s_) fun c p => release p.2 depth p.1 = some ((fun c : Bool => enc c) c) := by
  have O := Hold.nil []
  generalize hB : (⟨[], []⟩ : Base) = B at O
  clear hB
  rw [e_slices_ContainsFunc_impl_Feat_impl_Feat]
  unfold t_slices_ContainsFunc_impl_Feat_impl_Feat
  refine sim_call2 (t := fun (q : Sl Feat) (k : K) => t_slices_IndexFunc_impl_Feat_impl_Feat (P k) q) he_slices_IndexFunc_impl_Feat_impl_Feat (snapD_enc _ _) (hs f_ _) (fun c1 => ?_)
  refine sim_let2 (hand_plain (by rfl) _ _) ?_
  refine sim_let (v := bv (decide (0 ≤ c1))) (aBin_geq _ _) ?_
  exact sim_ret (release_plain (by rfl) _)
theorem tt0_slices_ContainsFunc_impl_Feat_impl_Feat {g : Nat} {t : Feat → Option Bool} (hg : PureOK Try.prog g (C1 (fun c : Bool => enc c) t)) : PureOK Try.prog n_slices_ContainsFunc_impl_Feat_impl_Feat (C2 (fun c : Bool => enc c) (fun (q : Sl Feat) (k : Clo0 g) => t_slices_ContainsFunc_impl_Feat_impl_Feat ((fun _ : Clo0 g => t) k) q)) := pureC2 (Econs (tt0_slices_IndexFunc_impl_Feat_impl_Feat hg) E0) mixed hb_slices_ContainsFunc_impl_Feat_impl_Feat fun q k => ts_slices_ContainsFunc_impl_Feat_impl_Feat _ (caps := fun _ => []) (P := (fun _ : Clo0 g => t)) (fun k h => snapD_clo0 h g) (by simp [envL]) q k
theorem tt1_slices_ContainsFunc_impl_Feat_impl_Feat {g : Nat} {X : Type} [Row X] {tp : Feat → Pt X → Option Bool} (hg : PureOK Try.prog g (C2 (fun c : Bool => enc c) tp)) : PureOK Try.prog n_slices_ContainsFunc_impl_Feat_impl_Feat (C2 (fun c : Bool => enc c) (fun (q : Sl Feat) (k : Clo g (Pt X)) => t_slices_ContainsFunc_impl_Feat_impl_Feat ((fun (k : Clo g (Pt X)) a => tp a k.val) k) q)) := pureC2 (Econs (tt1_slices_IndexFunc_impl_Feat_impl_Feat hg) E0) mixed hb_slices_ContainsFunc_impl_Feat_impl_Feat fun q k => ts_slices_ContainsFunc_impl_Feat_impl_Feat _ (caps := fun k : Clo g (Pt X) => [enc k.val]) (P := (fun (k : Clo g (Pt X)) a => tp a k.val)) (fun k h => snapD_cloE h k) (by simp [envL]) q k

def t_impl_ValidFeat (f_ : Feat) : Option Bool :=
  obind (some (within f_.x 0 255)) fun c5 =>
  obind (bif c5 then (obind (some (within f_.y 0 255)) fun c7 => some c7) else some false) fun c8 =>
  obind (bif (bif c5 then c8 else false) then (obind (some (within f_.d 0 7)) fun c10 => some c10) else some false) fun c11 =>
  some (bif (bif c5 then c8 else false) then c11 else false)

theorem ts_impl_ValidFeat (env : Nat → Contract) (he_impl_within : env n_impl_within = .pure (T3 within)) (f_ : Feat) : Sim (denFn Try.prog env n_impl_ValidFeat [AV.agg [iv f_.x, iv f_.y, iv f_.d]] []) (t_impl_ValidFeat f_) fun c p => release p.2 depth p.1 = some ((fun c : Bool => enc c) c) := by
  have O := Hold.nil []
  generalize hB : (⟨[], []⟩ : Base) = B at O
  clear hB
  rw [e_impl_ValidFeat]
  unfold t_impl_ValidFeat
  refine sim_box O (cs := [iv f_.x, iv f_.y, iv f_.d]) (by first | rfl | simp) (fun o1 h2 O3 => ?_)
  replace O3 : Hold B h2 [(AV.ptr o1 1 0 0, .pt 3 [iv f_.x, iv f_.y, iv f_.d])] := O3
  refine sim_let (v := AV.ptr o1 1 0 0) rfl ?_
  refine sim_let (v := iv f_.x) (O3.ld 0 rfl false 1 0) ?_
  refine sim_callV3 (t := within) he_impl_within (snapD_int _ _) (snapD_int _ _) (snapD_int _ _) (fun c5 => ?_)
  refine sim_guardT (e := bv) (fun hb6 => ?_) (fun c8 => ?_)
  · refine sim_let (v := AV.ptr o1 1 0 1) rfl ?_
    refine sim_let (v := iv f_.y) (O3.ld 0 rfl false 1 1) ?_
    refine sim_callV3 (t := within) he_impl_within (snapD_int _ _) (snapD_int _ _) (snapD_int _ _) (fun c7 => ?_)
    exact sim_ret rfl
  · refine sim_let (v := bv (bif c5 then c8 else false)) (pick_b _ _ _) ?_
    refine sim_guardT (e := bv) (fun hb9 => ?_) (fun c11 => ?_)
    · refine sim_let (v := AV.ptr o1 1 0 2) rfl ?_
      refine sim_let (v := iv f_.d) (O3.ld 0 rfl false 1 2) ?_
      refine sim_callV3 (t := within) he_impl_within (snapD_int _ _) (snapD_int _ _) (snapD_int _ _) (fun c10 => ?_)
      exact sim_ret rfl
    · refine sim_let (v := bv (bif (bif c5 then c8 else false) then c11 else false)) (pick_b _ _ _) ?_
      exact sim_ret (release_plain (by rfl) _)
theorem tt_impl_ValidFeat : PureOK Try.prog n_impl_ValidFeat (C1 (fun c : Bool => enc c) t_impl_ValidFeat) := pureC1 (Econs ok_impl_within E0) mixed hb_impl_ValidFeat fun f_ => ts_impl_ValidFeat _ (by simp [envL]) f_

def t_impl_areFeats_1 (f_ : Feat) : Option Bool :=
  obind (t_impl_ValidFeat f_) fun c5 =>
  some (!c5)

theorem ts_impl_areFeats_1 (env : Nat → Contract) (he_impl_ValidFeat : env n_impl_ValidFeat = .pure (C1 (fun c : Bool => enc c) t_impl_ValidFeat)) (f_ : Feat) : Sim (denFn Try.prog env n_impl_areFeats_1 [AV.agg [iv f_.x, iv f_.y, iv f_.d]] []) (t_impl_areFeats_1 f_) fun c p => release p.2 depth p.1 = some ((fun c : Bool => enc c) c) := by
  have O := Hold.nil []
  generalize hB : (⟨[], []⟩ : Base) = B at O
  clear hB
  rw [e_impl_areFeats_1]
  unfold t_impl_areFeats_1
  refine sim_box O (cs := [iv f_.x, iv f_.y, iv f_.d]) (by first | rfl | simp) (fun o1 h2 O3 => ?_)
  replace O3 : Hold B h2 [(AV.ptr o1 1 0 0, .pt 3 [iv f_.x, iv f_.y, iv f_.d])] := O3
  refine sim_let (v := AV.agg [iv f_.x, iv f_.y, iv f_.d]) (O3.ld 0 rfl true 3 0) ?_
  refine sim_call1 he_impl_ValidFeat (snapD_nr _ f_ rfl) (fun c5 => ?_)
  refine sim_let2 (hand_plain (by rfl) _ _) ?_
  refine sim_let (v := bv (!c5)) (aUn_not _) ?_
  exact sim_ret (release_plain (by rfl) _)
theorem tt_impl_areFeats_1 : PureOK Try.prog n_impl_areFeats_1 (C1 (fun c : Bool => enc c) t_impl_areFeats_1) := pureC1 (Econs tt_impl_ValidFeat E0) mixed hb_impl_areFeats_1 fun f_ => ts_impl_areFeats_1 _ (by simp [envL]) f_

def t_impl_areFeats (list_ : Sl Feat) (most_ : Int) : Option Bool :=
  obind (bif decide (1 ≤ (((list_.getD []).length : Nat) : Int)) then (some (decide ((((list_.getD []).length : Nat) : Int) ≤ most_))) else some false) fun c2 =>
  obind (bif (bif decide (1 ≤ (((list_.getD []).length : Nat) : Int)) then c2 else false) then (obind (t_slices_ContainsFunc_impl_Feat_impl_Feat t_impl_areFeats_1 list_) fun c4 => some (!c4)) else some false) fun c5 =>
  some (bif (bif decide (1 ≤ (((list_.getD []).length : Nat) : Int)) then c2 else false) then c5 else false)

theorem ts_impl_areFeats (env : Nat → Contract) (he_slices_ContainsFunc_impl_Feat_impl_Feat : env n_slices_ContainsFunc_impl_Feat_impl_Feat = .pure (C2 (fun c : Bool => enc c) (fun (q : Sl Feat) (k : Clo0 n_impl_areFeats_1) => t_slices_ContainsFunc_impl_Feat_impl_Feat ((fun _ : Clo0 n_impl_areFeats_1 => t_impl_areFeats_1) k) q))) (list_ : Sl Feat) (most_ : Int) : Sim (denFn Try.prog env n_impl_areFeats [Sl.enc list_, iv most_] []) (t_impl_areFeats list_ most_) fun c p => release p.2 depth p.1 = some ((fun c : Bool => enc c) c) := by
  have O := Hold.nil []
  generalize hB : (⟨[], []⟩ : Base) = B at O
  clear hB
  rw [e_impl_areFeats]
  unfold t_impl_areFeats
  refine sim_let (v := iv (((list_.getD []).length : Nat) : Int)) (Tab.enc [] list_).len ?_
  refine sim_let (v := bv (decide (1 ≤ (((list_.getD []).length : Nat) : Int)))) (aBin_geq _ _) ?_
  refine sim_guardT (e := bv) (fun hb1 => ?_) (fun c2 => ?_)
  · refine sim_let (v := iv (((list_.getD []).length : Nat) : Int)) (Tab.enc [] list_).len ?_
    refine sim_let (v := bv (decide ((((list_.getD []).length : Nat) : Int) ≤ most_))) (aBin_leq _ _) ?_
    exact sim_ret rfl
  · refine sim_let (v := bv (bif decide (1 ≤ (((list_.getD []).length : Nat) : Int)) then c2 else false)) (pick_b _ _ _) ?_
    refine sim_guardT (e := bv) (fun hb3 => ?_) (fun c5 => ?_)
    · refine sim_call2 (t := fun (q : Sl Feat) (k : Clo0 n_impl_areFeats_1) => t_slices_ContainsFunc_impl_Feat_impl_Feat ((fun _ : Clo0 n_impl_areFeats_1 => t_impl_areFeats_1) k) q) he_slices_ContainsFunc_impl_Feat_impl_Feat (snapD_enc _ _) (snapD_clo0 _ _) (fun c4 => ?_)
      refine sim_let2 (hand_plain (by rfl) _ _) ?_
      refine sim_let (v := bv (!c4)) (aUn_not _) ?_
      exact sim_ret rfl
    · refine sim_let (v := bv (bif (bif decide (1 ≤ (((list_.getD []).length : Nat) : Int)) then c2 else false) then c5 else false)) (pick_b _ _ _) ?_
      exact sim_ret (release_plain (by rfl) _)
theorem tt_impl_areFeats : PureOK Try.prog n_impl_areFeats (C2 (fun c : Bool => enc c) t_impl_areFeats) := pureC2 (Econs (tt0_slices_ContainsFunc_impl_Feat_impl_Feat tt_impl_areFeats_1) E0) mixed hb_impl_areFeats fun list_ most_ => ts_impl_areFeats _ (by simp [envL]) list_ most_

def t_impl_ValidSeq (list_ : Sl Feat) : Option Bool :=
  obind (t_impl_areFeats list_ 72) fun c1 =>
  some c1

theorem ts_impl_ValidSeq (env : Nat → Contract) (he_impl_areFeats : env n_impl_areFeats = .pure (C2 (fun c : Bool => enc c) t_impl_areFeats)) (list_ : Sl Feat) : Sim (denFn Try.prog env n_impl_ValidSeq [Sl.enc list_] []) (t_impl_ValidSeq list_) fun c p => release p.2 depth p.1 = some ((fun c : Bool => enc c) c) := by
  have O := Hold.nil []
  generalize hB : (⟨[], []⟩ : Base) = B at O
  clear hB
  rw [e_impl_ValidSeq]
  unfold t_impl_ValidSeq
  refine sim_call2 he_impl_areFeats (snapD_enc _ _) (snapD_int _ _) (fun c1 => ?_)
  refine sim_let2 (hand_plain (by rfl) _ _) ?_
  exact sim_ret (release_plain (by rfl) _)
theorem tt_impl_ValidSeq : PureOK Try.prog n_impl_ValidSeq (C1 (fun c : Bool => enc c) t_impl_ValidSeq) := pureC1 (Econs tt_impl_areFeats E0) mixed hb_impl_ValidSeq fun list_ => ts_impl_ValidSeq _ (by simp [envL]) list_

def t_impl_isBand (band_ : Int) (n_ : Int) (m_ : Int) : Option Bool :=
  obind (some (within band_ 0 72)) fun c1 =>
  obind (bif c1 then (obind (some (absI (wr (n_ - m_)))) fun c3 => some (decide (c3 ≤ band_))) else some false) fun c4 =>
  some (bif c1 then c4 else false)

theorem ts_impl_isBand (env : Nat → Contract) (he_impl_abs : env n_impl_abs = .pure (T1 absI)) (he_impl_within : env n_impl_within = .pure (T3 within)) (band_ : Int) (n_ : Int) (m_ : Int) : Sim (denFn Try.prog env n_impl_isBand [iv band_, iv n_, iv m_] []) (t_impl_isBand band_ n_ m_) fun c p => release p.2 depth p.1 = some ((fun c : Bool => enc c) c) := by
  have O := Hold.nil []
  generalize hB : (⟨[], []⟩ : Base) = B at O
  clear hB
  rw [e_impl_isBand]
  unfold t_impl_isBand
  refine sim_callV3 (t := within) he_impl_within (snapD_int _ _) (snapD_int _ _) (snapD_int _ _) (fun c1 => ?_)
  refine sim_guardT (e := bv) (fun hb2 => ?_) (fun c4 => ?_)
  · refine sim_let (v := iv (wr (n_ - m_))) (aBin_sub _ _) ?_
    refine sim_callV1 (t := absI) he_impl_abs (snapD_int _ _) (fun c3 => ?_)
    refine sim_let (v := bv (decide (c3 ≤ band_))) (aBin_leq _ _) ?_
    exact sim_ret rfl
  · refine sim_let (v := bv (bif c1 then c4 else false)) (pick_b _ _ _) ?_
    exact sim_ret (release_plain (by rfl) _)
theorem tt_impl_isBand : PureOK Try.prog n_impl_isBand (C3 (fun c : Bool => enc c) t_impl_isBand) := pureC3 (Econs ok_impl_abs (Econs ok_impl_within E0)) mixed hb_impl_isBand fun band_ n_ m_ => ts_impl_isBand _ (by simp [envL]) (by simp [envL]) band_ n_ m_

def t_impl_matchable (a_ : Sl Feat) (b_ : Sl Feat) (band_ : Int) : Option Int :=
  obind (t_impl_ValidSeq a_) fun c1 =>
  obind (bif !c1 then some false else (obind (t_impl_ValidSeq b_) fun c3 => some (!c3))) fun c4 =>
  bif (bif !c1 then true else c4) then
    some 1
  else
    obind (t_impl_isBand band_ (((a_.getD []).length : Nat) : Int) (((b_.getD []).length : Nat) : Int)) fun c6 =>
    bif !c6 then
      some 2
    else
      some 0

theorem ts_impl_matchable (env : Nat → Contract) (he_impl_ValidSeq : env n_impl_ValidSeq = .pure (C1 (fun c : Bool => enc c) t_impl_ValidSeq)) (he_impl_isBand : env n_impl_isBand = .pure (C3 (fun c : Bool => enc c) t_impl_isBand)) (a_ : Sl Feat) (b_ : Sl Feat) (band_ : Int) : Sim (denFn Try.prog env n_impl_matchable [Sl.enc a_, Sl.enc b_, iv band_] []) (t_impl_matchable a_ b_ band_) fun c p => release p.2 depth p.1 = some ((fun c : Int => enc c) c) := by
  have O := Hold.nil []
  generalize hB : (⟨[], []⟩ : Base) = B at O
  clear hB
  rw [e_impl_matchable]
  unfold t_impl_matchable
  refine sim_call1 he_impl_ValidSeq (snapD_enc _ _) (fun c1 => ?_)
  refine sim_let2 (hand_plain (by rfl) _ _) ?_
  refine sim_let (v := bv (!c1)) (aUn_not _) ?_
  refine sim_guardF (e := bv) (fun hb2 => ?_) (fun c4 => ?_)
  · refine sim_call1 he_impl_ValidSeq (snapD_enc _ _) (fun c3 => ?_)
    refine sim_let2 (hand_plain (by rfl) _ _) ?_
    refine sim_let (v := bv (!c3)) (aUn_not _) ?_
    exact sim_ret rfl
  · refine sim_let (v := bv (bif !c1 then true else c4)) (pick_b' _ _ _) ?_
    refine sim_cond (fun c5 => ?_) (fun c5 => ?_)
    · exact sim_ret (release_plain (by rfl) _)
    · refine sim_let (v := iv (((a_.getD []).length : Nat) : Int)) (Tab.enc [] a_).len ?_
      refine sim_let (v := iv (((b_.getD []).length : Nat) : Int)) (Tab.enc [] b_).len ?_
      refine sim_call3 he_impl_isBand (snapD_int _ _) (snapD_int _ _) (snapD_int _ _) (fun c6 => ?_)
      refine sim_let2 (hand_plain (by rfl) _ _) ?_
      refine sim_let (v := bv (!c6)) (aUn_not _) ?_
      refine sim_cond (fun c7 => ?_) (fun c7 => ?_)
      · exact sim_ret (release_plain (by rfl) _)
      · exact sim_ret (release_plain (by rfl) _)
theorem tt_impl_matchable : PureOK Try.prog n_impl_matchable (C3 (fun c : Int => enc c) t_impl_matchable) := pureC3 (Econs tt_impl_ValidSeq (Econs tt_impl_isBand E0)) mixed hb_impl_matchable fun a_ b_ band_ => ts_impl_matchable _ (by simp [envL]) (by simp [envL]) a_ b_ band_

def t_impl_stepsBack : Option Ar6 :=
  some (⟨1, 1, 1, 0, 0, 1⟩ : Ar6)

theorem ts_impl_stepsBack (env : Nat → Contract)  : Sim (denFn Try.prog env n_impl_stepsBack [] []) (t_impl_stepsBack ) fun c p => release p.2 depth p.1 = some ((fun c : Ar6 => enc c) c) := by
  have O := Hold.nil []
  generalize hB : (⟨[], []⟩ : Base) = B at O
  clear hB
  rw [e_impl_stepsBack]
  unfold t_impl_stepsBack
  refine sim_box O (cs := [iv 0, iv 0, iv 0, iv 0, iv 0, iv 0]) (by first | rfl | simp) (fun o1 h2 O3 => ?_)
  replace O3 : Hold B h2 [(AV.ptr o1 1 0 0, .pt 6 [iv 0, iv 0, iv 0, iv 0, iv 0, iv 0])] := O3
  refine sim_let (v := AV.agg [iv 1, iv 1]) (by first | rfl | simp [aBuild, aFill, splice]) ?_
  refine sim_let (v := AV.agg [iv 1, iv 0]) (by first | rfl | simp [aBuild, aFill, splice]) ?_
  refine sim_let (v := AV.agg [iv 0, iv 1]) (by first | rfl | simp [aBuild, aFill, splice]) ?_
  refine sim_let (v := AV.agg [iv 1, iv 1, iv 1, iv 0, iv 0, iv 1]) (by first | rfl | simp [aBuild, aFill, splice]) ?_
  refine sim_store O3 0 (cs' := [iv 1, iv 1, iv 1, iv 0, iv 0, iv 1]) rfl (by first | rfl | simp) (by simp) (by first | rfl | simp) (by first | rfl | simp [splice]) (fun h5 O6 => ?_)
  replace O6 : Hold B h5 [(AV.ptr o1 1 0 0, .pt 6 [iv 1, iv 1, iv 1, iv 0, iv 0, iv 1])] := O6
  refine sim_retL (resL_c (v := AV.agg [iv 1, iv 1, iv 1, iv 0, iv 0, iv 1]) (O6.ld 0 rfl true 6 0) (resL_nil _)) ?_
  dsimp only [pack]
  exact sim_ret (release_plain (by rfl) _)
theorem tt_impl_stepsBack : PureOK Try.prog n_impl_stepsBack (C0 (fun c : Ar6 => enc c) t_impl_stepsBack) := pureC0 E0 mixed hb_impl_stepsBack <| ts_impl_stepsBack _

def s0_impl_leastBefore (table_ : Sl (Sl Int)) (i_ : Int) (j_ : Int) (c1 : Ar6) : (Int × Int) → Option (Sum (Int × Int) Int) := fun (w4, w5) =>
  bif decide (w5 < 3) then
    obind (getI [(⟨c1.a0, c1.a1⟩ : Ar2), ⟨c1.a2, c1.a3⟩, ⟨c1.a4, c1.a5⟩] w5) fun a11 =>
    obind (bif decide (a11.a0 ≤ i_) then (some (decide (a11.a1 ≤ j_))) else some false) fun c19 =>
    bif (bif decide (a11.a0 ≤ i_) then c19 else false) then
      obind (getI (table_.getD []) (wr (i_ - a11.a0))) fun a21 =>
      obind (getI (a21.getD []) (wr (j_ - a11.a1))) fun a25 =>
      some (.inl (min w4 a25, wr (w5 + 1)))
    else
      some (.inl (w4, wr (w5 + 1)))
  else
    some (.inr w4)
def t_impl_leastBefore (table_ : Sl (Sl Int)) (i_ : Int) (j_ : Int) : Option Int :=
  obind (t_impl_stepsBack ) fun c1 =>
  obind (loopT (s0_impl_leastBefore table_ i_ j_ c1) (1099511627776, 0)) fun q8 =>
  some q8

theorem tl0_impl_leastBefore (env : Nat → Contract) {B : Base} (he_impl_stepsBack : env n_impl_stepsBack = .pure (C0 (fun c : Ar6 => enc c) t_impl_stepsBack)) (table_ : Sl (Sl Int)) (i_ : Int) (j_ : Int) (c1 : Ar6)  {st : Int × Int} {tm : TM} {h : Heap} (R : (fun (st : Int × Int) tm h2 => match st with | (w4, w5) => tm = [Sl.enc table_, iv i_, iv j_, und, und, und, iv 0, iv w4, und, AV.top, AV.agg [iv c1.a0, iv c1.a1, iv c1.a2, iv c1.a3, iv c1.a4, iv c1.a5], iv w5, AV.top, AV.top, AV.top, AV.top, AV.top, AV.top, AV.top, AV.top, AV.top, AV.top, AV.top, AV.top, AV.top, AV.top, AV.top, AV.top, AV.top, AV.top, AV.top, AV.top, AV.top, AV.top, AV.top, AV.top, AV.top, AV.top, AV.top, AV.top, und] ∧ Hold B h2 []) st tm h) : Sim (loopP hm0_impl_leastBefore xm0_impl_leastBefore (lb0_impl_leastBefore env) tm h) (loopT (s0_impl_leastBefore table_ i_ j_ c1) st) (fun (q : Int) (r : Res) => match q with | q8 => ∃ (z9 : AV) (h6 : Heap), r = (.exit 0, [Sl.enc table_, iv i_, iv j_, und, und, und, iv 0, iv q8, und, z9, AV.agg [iv c1.a0, iv c1.a1, iv c1.a2, iv c1.a3, iv c1.a4, iv c1.a5], AV.top, AV.top, AV.top, AV.top, AV.top, AV.top, AV.top, AV.top, AV.top, AV.top, AV.top, AV.top, AV.top, AV.top, AV.top, AV.top, AV.top, AV.top, AV.top, AV.top, AV.top, AV.top, AV.top, AV.top, AV.top, AV.top, AV.top, AV.top, AV.top, und], h6) ∧ Hold B h6 []) := by
  refine loop_sim (Rel := fun (st : Int × Int) tm h2 => match st with | (w4, w5) => tm = [Sl.enc table_, iv i_, iv j_, und, und, und, iv 0, iv w4, und, AV.top, AV.agg [iv c1.a0, iv c1.a1, iv c1.a2, iv c1.a3, iv c1.a4, iv c1.a5], iv w5, AV.top, AV.top, AV.top, AV.top, AV.top, AV.top, AV.top, AV.top, AV.top, AV.top, AV.top, AV.top, AV.top, AV.top, AV.top, AV.top, AV.top, AV.top, AV.top, AV.top, AV.top, AV.top, AV.top, AV.top, AV.top, AV.top, AV.top, AV.top, und] ∧ Hold B h2 []) (fun st tm h2 R => ?_) R
  obtain ⟨w4, w5⟩ := st
  obtain ⟨rfl, O3⟩ := R
  rw [e_lb0_impl_leastBefore]
  unfold s0_impl_leastBefore
  dsimp only
  refine sim_let (v := bv (decide (w5 < 3))) (aBin_lss _ _) ?_
  refine sim_cond (fun c10 => ?_) (fun c10 => ?_)
  · refine sim_idxA6 (fun a11 => ?_)
    refine sim_box O3 (cs := [iv 0, iv 0]) (by first | rfl | simp) (fun o12 h13 O14 => ?_)
    replace O14 : Hold B h13 [(AV.ptr o12 1 0 0, .pt 2 [iv 0, iv 0])] := O14
    refine sim_store O14 0 (cs' := [iv a11.a0, iv a11.a1]) rfl (by first | rfl | simp) (by simp) (by first | rfl | simp) (by first | rfl | simp [splice]) (fun h16 O17 => ?_)
    replace O17 : Hold B h16 [(AV.ptr o12 1 0 0, .pt 2 [iv a11.a0, iv a11.a1])] := O17
    refine sim_let (v := AV.ptr o12 1 0 0) rfl ?_
    refine sim_let (v := iv a11.a0) (O17.ld 0 rfl false 1 0) ?_
    refine sim_let (v := bv (decide (a11.a0 ≤ i_))) (aBin_geq _ _) ?_
    refine sim_guardT (e := bv) (fun hb18 => ?_) (fun c19 => ?_)
    · refine sim_let (v := AV.ptr o12 1 0 1) rfl ?_
      refine sim_let (v := iv a11.a1) (O17.ld 0 rfl false 1 1) ?_
      refine sim_let (v := bv (decide (a11.a1 ≤ j_))) (aBin_geq _ _) ?_
      exact sim_ret rfl
    · refine sim_let (v := bv (bif decide (a11.a0 ≤ i_) then c19 else false)) (pick_b _ _ _) ?_
      refine sim_cond (fun c20 => ?_) (fun c20 => ?_)
      · refine sim_let (v := AV.ptr o12 1 0 0) rfl ?_
        refine sim_let (v := iv a11.a0) (O17.ld 0 rfl false 1 0) ?_
        refine sim_let (v := iv (wr (i_ - a11.a0))) (aBin_sub _ _) ?_
        refine sim_get (Tab.enc h16 table_) (fun m22 a21 hi23 hm24 => ?_)
        refine sim_let (v := Sl.enc a21) ((Tab.enc h16 table_).ld hm24 false 1 0) ?_
        refine sim_let (v := AV.ptr o12 1 0 1) rfl ?_
        refine sim_let (v := iv a11.a1) (O17.ld 0 rfl false 1 1) ?_
        refine sim_let (v := iv (wr (j_ - a11.a1))) (aBin_sub _ _) ?_
        refine sim_get (Tab.enc h16 a21) (fun m26 a25 hi27 hm28 => ?_)
        refine sim_let (v := iv a25) ((Tab.enc h16 a21).ld hm28 false 1 0) ?_
        refine sim_let (v := iv (min w4 a25)) (aFold_min _ _) ?_
        refine sim_let (v := iv (wr (w5 + 1))) (aBin_add _ _) ?_
        have O29 : Hold B h16 [] := O17.sel [] (by decide) rfl
        exact sim_ret ⟨rfl, rfl, O29⟩
      · refine sim_let (v := iv (wr (w5 + 1))) (aBin_add _ _) ?_
        have O30 : Hold B h16 [] := O17.sel [] (by decide) rfl
        exact sim_ret ⟨rfl, rfl, O30⟩
  · exact sim_ret ⟨nofun, _, _, rfl, O3⟩
theorem ts_impl_leastBefore (env : Nat → Contract) (he_impl_stepsBack : env n_impl_stepsBack = .pure (C0 (fun c : Ar6 => enc c) t_impl_stepsBack)) (table_ : Sl (Sl Int)) (i_ : Int) (j_ : Int) : Sim (denFn Try.prog env n_impl_leastBefore [Sl.enc table_, iv i_, iv j_] []) (t_impl_leastBefore table_ i_ j_) fun c p => release p.2 depth p.1 = some ((fun c : Int => enc c) c) := by
  have O := Hold.nil []
  generalize hB : (⟨[], []⟩ : Base) = B at O
  clear hB
  rw [e_impl_leastBefore]
  unfold t_impl_leastBefore
  refine sim_call0 he_impl_stepsBack  (fun c1 => ?_)
  refine sim_let2 (hand_plain (by rfl) _ _) ?_
  refine sim_bind ((tl0_impl_leastBefore env he_impl_stepsBack table_ i_ j_ c1) ⟨rfl, O⟩) (fun qq33 r hq => ?_)
  revert hq
  revert qq33
  intro q8 hq
  obtain ⟨z9, h6, rfl, O7⟩ := hq
  rw [e_lk0x0_impl_leastBefore]
  exact sim_ret (release_plain (by rfl) _)
theorem tt_impl_leastBefore : PureOK Try.prog n_impl_leastBefore (C3 (fun c : Int => enc c) t_impl_leastBefore) := pureC3 (Econs tt_impl_stepsBack E0) mixed hb_impl_leastBefore fun table_ i_ j_ => ts_impl_leastBefore _ (by simp [envL]) table_ i_ j_

def t_impl_featCost (a_ : Feat) (b_ : Feat) : Option Int :=
  obind (some (absI (wr (a_.d - b_.d)))) fun c9 =>
  obind (some (absI (wr (a_.x - b_.x)))) fun c10 =>
  obind (some (absI (wr (a_.y - b_.y)))) fun c11 =>
  some (wr ((wr (c10 + c11)) + (wr (16 * (min c9 (wr (8 - c9)))))))

theorem ts_impl_featCost (env : Nat → Contract) (he_impl_abs : env n_impl_abs = .pure (T1 absI)) (a_ : Feat) (b_ : Feat) : Sim (denFn Try.prog env n_impl_featCost [AV.agg [iv a_.x, iv a_.y, iv a_.d], AV.agg [iv b_.x, iv b_.y, iv b_.d]] []) (t_impl_featCost a_ b_) fun c p => release p.2 depth p.1 = some ((fun c : Int => enc c) c) := by
  have O := Hold.nil []
  generalize hB : (⟨[], []⟩ : Base) = B at O
  clear hB
  rw [e_impl_featCost]
  unfold t_impl_featCost
  refine sim_box O (cs := [iv a_.x, iv a_.y, iv a_.d]) (by first | rfl | simp) (fun o1 h2 O3 => ?_)
  replace O3 : Hold B h2 [(AV.ptr o1 1 0 0, .pt 3 [iv a_.x, iv a_.y, iv a_.d])] := O3
  refine sim_box O3 (cs := [iv b_.x, iv b_.y, iv b_.d]) (by first | rfl | simp) (fun o5 h6 O7 => ?_)
  replace O7 : Hold B h6 [(AV.ptr o1 1 0 0, .pt 3 [iv a_.x, iv a_.y, iv a_.d]), (AV.ptr o5 1 0 0, .pt 3 [iv b_.x, iv b_.y, iv b_.d])] := O7
  refine sim_let (v := AV.ptr o1 1 0 2) rfl ?_
  refine sim_let (v := iv a_.d) (O7.ld 0 rfl false 1 2) ?_
  refine sim_let (v := AV.ptr o5 1 0 2) rfl ?_
  refine sim_let (v := iv b_.d) (O7.ld 1 rfl false 1 2) ?_
  refine sim_let (v := iv (wr (a_.d - b_.d))) (aBin_sub _ _) ?_
  refine sim_callV1 (t := absI) he_impl_abs (snapD_int _ _) (fun c9 => ?_)
  refine sim_let (v := AV.ptr o1 1 0 0) rfl ?_
  refine sim_let (v := iv a_.x) (O7.ld 0 rfl false 1 0) ?_
  refine sim_let (v := AV.ptr o5 1 0 0) rfl ?_
  refine sim_let (v := iv b_.x) (O7.ld 1 rfl false 1 0) ?_
  refine sim_let (v := iv (wr (a_.x - b_.x))) (aBin_sub _ _) ?_
  refine sim_callVQ1 (t := absI) he_impl_abs (snapD_int _ _) (fun c10 => ?_)
  refine sim_let (v := AV.ptr o1 1 0 1) rfl ?_
  refine sim_let (v := iv a_.y) (O7.ld 0 rfl false 1 1) ?_
  refine sim_let (v := AV.ptr o5 1 0 1) rfl ?_
  refine sim_let (v := iv b_.y) (O7.ld 1 rfl false 1 1) ?_
  refine sim_let (v := iv (wr (a_.y - b_.y))) (aBin_sub _ _) ?_
  refine sim_callVQ1 (t := absI) he_impl_abs (snapD_int _ _) (fun c11 => ?_)
  refine sim_let (v := iv (wr (c10 + c11))) (aBin_add _ _) ?_
  refine sim_let (v := iv (wr (8 - c9))) (aBin_sub _ _) ?_
  refine sim_let (v := iv (min c9 (wr (8 - c9)))) (aFold_min _ _) ?_
  refine sim_let (v := iv (wr (16 * (min c9 (wr (8 - c9)))))) (aBin_mul _ _) ?_
  refine sim_let (v := iv (wr ((wr (c10 + c11)) + (wr (16 * (min c9 (wr (8 - c9)))))))) (aBin_add _ _) ?_
  exact sim_ret (release_plain (by rfl) _)
theorem tt_impl_featCost : PureOK Try.prog n_impl_featCost (C2 (fun c : Int => enc c) t_impl_featCost) := pureC2 (Econs ok_impl_abs E0) mixed hb_impl_featCost fun a_ b_ => ts_impl_featCost _ (by simp [envL]) a_ b_

def s1_impl_costTable (a_ : Sl Feat) (b_ : Sl Feat) (band_ : Int) (w13 : Int) : ((Sl (Sl Int)) × Int) → Option (Sum ((Sl (Sl Int)) × Int) (Sl (Sl Int))) := fun (w40, w45) =>
  bif decide (w45 < (((b_.getD []).length : Nat) : Int)) then
    obind (t_impl_leastBefore w40 w13 w45) fun c55 =>
    obind (bif decide (w13 = 0) then (some (decide (w45 = 0))) else some false) fun c57 =>
    bif (bif decide (w13 = 0) then c57 else false) then
      obind (some (absI (wr (w13 - w45)))) fun c59 =>
      obind (bif decide (band_ < c59) then some false else (some (decide (1099511627776 ≤ 0)))) fun c61 =>
      bif (bif decide (band_ < c59) then true else c61) then
        obind (getI (w40.getD []) w13) fun a63 =>
        obind (getI (a63.getD []) w45) fun a69 =>
        some (.inl ((setS w40 w13 (setS a63 w45 1099511627776)), wr (w45 + 1)))
      else
        obind (getI (w40.getD []) w13) fun a78 =>
        obind (getI (a_.getD []) w13) fun a84 =>
        obind (getI (b_.getD []) w45) fun a88 =>
        obind (t_impl_featCost a84 a88) fun c92 =>
        obind (getI (a78.getD []) w45) fun a93 =>
        some (.inl ((setS w40 w13 (setS a78 w45 (wr (0 + c92)))), wr (w45 + 1)))
    else
      obind (some (absI (wr (w13 - w45)))) fun c102 =>
      obind (bif decide (band_ < c102) then some false else (some (decide (1099511627776 ≤ c55)))) fun c104 =>
      bif (bif decide (band_ < c102) then true else c104) then
        obind (getI (w40.getD []) w13) fun a106 =>
        obind (getI (a106.getD []) w45) fun a112 =>
        some (.inl ((setS w40 w13 (setS a106 w45 1099511627776)), wr (w45 + 1)))
      else
        obind (getI (w40.getD []) w13) fun a121 =>
        obind (getI (a_.getD []) w13) fun a127 =>
        obind (getI (b_.getD []) w45) fun a131 =>
        obind (t_impl_featCost a127 a131) fun c135 =>
        obind (getI (a121.getD []) w45) fun a136 =>
        some (.inl ((setS w40 w13 (setS a121 w45 (wr (c55 + c135)))), wr (w45 + 1)))
  else
    some (.inr w40)
def s0_impl_costTable (a_ : Sl Feat) (b_ : Sl Feat) (band_ : Int) : ((Sl (Sl Int)) × Int) → Option (Sum ((Sl (Sl Int)) × Int) (Sl (Sl Int))) := fun (w8, w13) =>
  bif decide (w13 < (((a_.getD []).length : Nat) : Int)) then
    obind (makeO 0 (((b_.getD []).length : Nat) : Int)) fun l28 =>
    obind (getI (w8.getD []) w13) fun a29 =>
    obind (loopT (s1_impl_costTable a_ b_ band_ w13) ((setS w8 w13 (some l28)), 0)) fun q48 =>
    some (.inl (q48, wr (w13 + 1)))
  else
    some (.inr w8)
def t_impl_costTable (a_ : Sl Feat) (b_ : Sl Feat) (band_ : Int) : Option (Sl (Sl Int)) :=
  obind (makeO (none : Sl Int) (((a_.getD []).length : Nat) : Int)) fun l5 =>
  obind (loopT (s0_impl_costTable a_ b_ band_) ((some l5), 0)) fun q16 =>
  some q16

theorem tl1_impl_costTable (env : Nat → Contract) {B : Base} (he_impl_abs : env n_impl_abs = .pure (T1 absI)) (he_impl_featCost : env n_impl_featCost = .pure (C2 (fun c : Int => enc c) t_impl_featCost)) (he_impl_leastBefore : env n_impl_leastBefore = .pure (C3 (fun c : Int => enc c) t_impl_leastBefore)) (a_ : Sl Feat) (b_ : Sl Feat) (band_ : Int) (x1 : AV) (w13 : Int) (x24 : AV) (m30 : Nat)  {st : (Sl (Sl Int)) × Int} {tm : TM} {h : Heap} (R : (fun (st : (Sl (Sl Int)) × Int) tm h43 => match st with | (w40, w45) => ∃ ps41 : PS (Sl Int), tm = ((Sl.enc a_) :: (Sl.enc b_) :: (iv band_) :: und :: und :: und :: nilS :: x1 :: (iv w13) :: AV.top :: AV.top :: (Sl.enc a_) :: (iv (((a_.getD []).length : Nat) : Int)) :: x1 :: (Sl.enc a_) :: (iv (((a_.getD []).length : Nat) : Int)) :: (iv w13) :: (bv (decide (w13 < (((a_.getD []).length : Nat) : Int)))) :: (iv w13) :: x1 :: (iv w13) :: (Sl.enc b_) :: (iv (((b_.getD []).length : Nat) : Int)) :: x24 :: (elp x1 m30 0) :: (Sl.enc b_) :: (iv (((b_.getD []).length : Nat) : Int)) :: (iv w45) :: AV.top :: AV.top :: AV.top :: AV.top :: AV.top :: AV.top :: AV.top :: AV.top :: AV.top :: AV.top :: AV.top :: AV.top :: AV.top :: AV.top :: AV.top :: AV.top :: AV.top :: AV.top :: AV.top :: AV.top :: AV.top :: AV.top :: AV.top :: AV.top :: AV.top :: AV.top :: AV.top :: AV.top :: AV.top :: AV.top :: AV.top :: AV.top :: AV.top :: AV.top :: AV.top :: AV.top :: AV.top :: AV.top :: AV.top :: AV.top :: AV.top :: AV.top :: AV.top :: AV.top :: AV.top :: AV.top :: AV.top :: und :: []) ∧ pj ps41 = w40 ∧ Hold B h43 ([] ++ D2 (A := (Sl Int)) x1 ps41)) st tm h) : Sim (loopP hm1_impl_costTable xm1_impl_costTable (lb1_impl_costTable env) tm h) (loopT (s1_impl_costTable a_ b_ band_ w13) st) (fun (q : Sl (Sl Int)) (r : Res) => match q with | q48 => ∃ (z51 : AV) (z52 : AV) (ps49 : PS (Sl Int)) (h46 : Heap), r = (.exit 2, ((Sl.enc a_) :: (Sl.enc b_) :: (iv band_) :: und :: und :: und :: nilS :: x1 :: (iv w13) :: z51 :: z52 :: (Sl.enc a_) :: (iv (((a_.getD []).length : Nat) : Int)) :: x1 :: (Sl.enc a_) :: (iv (((a_.getD []).length : Nat) : Int)) :: (iv w13) :: (bv (decide (w13 < (((a_.getD []).length : Nat) : Int)))) :: (iv w13) :: x1 :: (iv w13) :: (Sl.enc b_) :: (iv (((b_.getD []).length : Nat) : Int)) :: x24 :: (elp x1 m30 0) :: (Sl.enc b_) :: (iv (((b_.getD []).length : Nat) : Int)) :: AV.top :: AV.top :: AV.top :: AV.top :: AV.top :: AV.top :: AV.top :: AV.top :: AV.top :: AV.top :: AV.top :: AV.top :: AV.top :: AV.top :: AV.top :: AV.top :: AV.top :: AV.top :: AV.top :: AV.top :: AV.top :: AV.top :: AV.top :: AV.top :: AV.top :: AV.top :: AV.top :: AV.top :: AV.top :: AV.top :: AV.top :: AV.top :: AV.top :: AV.top :: AV.top :: AV.top :: AV.top :: AV.top :: AV.top :: AV.top :: AV.top :: AV.top :: AV.top :: AV.top :: AV.top :: AV.top :: AV.top :: AV.top :: und :: []), h46) ∧ pj ps49 = q48 ∧ Hold B h46 ([] ++ D2 (A := (Sl Int)) x1 ps49)) := by
  refine loop_sim (Rel := fun (st : (Sl (Sl Int)) × Int) tm h43 => match st with | (w40, w45) => ∃ ps41 : PS (Sl Int), tm = ((Sl.enc a_) :: (Sl.enc b_) :: (iv band_) :: und :: und :: und :: nilS :: x1 :: (iv w13) :: AV.top :: AV.top :: (Sl.enc a_) :: (iv (((a_.getD []).length : Nat) : Int)) :: x1 :: (Sl.enc a_) :: (iv (((a_.getD []).length : Nat) : Int)) :: (iv w13) :: (bv (decide (w13 < (((a_.getD []).length : Nat) : Int)))) :: (iv w13) :: x1 :: (iv w13) :: (Sl.enc b_) :: (iv (((b_.getD []).length : Nat) : Int)) :: x24 :: (elp x1 m30 0) :: (Sl.enc b_) :: (iv (((b_.getD []).length : Nat) : Int)) :: (iv w45) :: AV.top :: AV.top :: AV.top :: AV.top :: AV.top :: AV.top :: AV.top :: AV.top :: AV.top :: AV.top :: AV.top :: AV.top :: AV.top :: AV.top :: AV.top :: AV.top :: AV.top :: AV.top :: AV.top :: AV.top :: AV.top :: AV.top :: AV.top :: AV.top :: AV.top :: AV.top :: AV.top :: AV.top :: AV.top :: AV.top :: AV.top :: AV.top :: AV.top :: AV.top :: AV.top :: AV.top :: AV.top :: AV.top :: AV.top :: AV.top :: AV.top :: AV.top :: AV.top :: AV.top :: AV.top :: AV.top :: AV.top :: und :: []) ∧ pj ps41 = w40 ∧ Hold B h43 ([] ++ D2 (A := (Sl Int)) x1 ps41)) (fun st tm h43 R => ?_) R
  obtain ⟨w40, w45⟩ := st
  obtain ⟨ps41, rfl, hp42, O44⟩ := R
  rw [e_lb1_impl_costTable]
  unfold s1_impl_costTable
  dsimp only
  refine sim_let (v := bv (decide (w45 < (((b_.getD []).length : Nat) : Int)))) (aBin_lss _ _) ?_
  refine sim_cond (fun c54 => ?_) (fun c54 => ?_)
  · refine sim_call3 he_impl_leastBefore ((D2.snapD (l := []) (x := x1) (ps := ps41) (A := (Sl Int)) O44 hp42).2) (snapD_int _ _) (snapD_int _ _) (fun c55 => ?_)
    refine sim_let2 (hand_plain (by rfl) _ _) ?_
    refine sim_let (v := bv (decide (w13 = 0))) (aCmp_eq _ _) ?_
    refine sim_guardT (e := bv) (fun hb56 => ?_) (fun c57 => ?_)
    · refine sim_let (v := bv (decide (w45 = 0))) (aCmp_eq _ _) ?_
      exact sim_ret rfl
    · refine sim_let (v := bv (bif decide (w13 = 0) then c57 else false)) (pick_b _ _ _) ?_
      refine sim_cond (fun c58 => ?_) (fun c58 => ?_)
      · refine sim_let (v := iv (wr (w13 - w45))) (aBin_sub _ _) ?_
        refine sim_callV1 (t := absI) he_impl_abs (snapD_int _ _) (fun c59 => ?_)
        refine sim_let (v := bv (decide (band_ < c59))) (aBin_gtr _ _) ?_
        refine sim_guardF (e := bv) (fun hb60 => ?_) (fun c61 => ?_)
        · refine sim_let (v := bv (decide (1099511627776 ≤ 0))) (aBin_geq _ _) ?_
          exact sim_ret rfl
        · refine sim_let (v := bv (bif decide (band_ < c59) then true else c61)) (pick_b' _ _ _) ?_
          refine sim_cond (fun c62 => ?_) (fun c62 => ?_)
          · refine sim_getN (l := []) (x := x1) (ps := ps41) (A := (Sl Int)) O44 hp42 (fun m64 a63 x67 hi65 hm66 hg68 => ?_)
            refine sim_let (v := x67) (D2.ld (l := []) (x := x1) (ps := ps41) (A := (Sl Int)) O44 hm66 false 1 0) ?_
            refine sim_get (D2.tab (l := []) (x := x1) (ps := ps41) (A := (Sl Int)) O44 hm66) (fun m70 a69 hi71 hm72 => ?_)
            refine sim_setIn (l := []) (x := x1) (ps := ps41) (A := (Sl Int)) O44 hp42 (setS a63 w45 1099511627776) 1099511627776 (by first | exact hi65 | rfl) hm66 hi71 hm72 rfl rfl rfl (by simp) (by first | rfl | simp) (by first | rfl | simp [splice]) (fun ps75 h73 hp76 O74 => ?_)
            refine sim_let (v := iv (wr (w45 + 1))) (aBin_add _ _) ?_
            exact sim_ret ⟨rfl, _, rfl, hp76, O74⟩
          · refine sim_getN (l := []) (x := x1) (ps := ps41) (A := (Sl Int)) O44 hp42 (fun m79 a78 x82 hi80 hm81 hg83 => ?_)
            refine sim_let (v := x82) (D2.ld (l := []) (x := x1) (ps := ps41) (A := (Sl Int)) O44 hm81 false 1 0) ?_
            refine sim_get (Tab.enc h43 a_) (fun m85 a84 hi86 hm87 => ?_)
            refine sim_let (v := AV.agg [iv a84.x, iv a84.y, iv a84.d]) ((Tab.enc h43 a_).ld hm87 true 3 0) ?_
            refine sim_get (Tab.enc h43 b_) (fun m89 a88 hi90 hm91 => ?_)
            refine sim_let (v := AV.agg [iv a88.x, iv a88.y, iv a88.d]) ((Tab.enc h43 b_).ld hm91 true 3 0) ?_
            refine sim_callQ2 he_impl_featCost (snapD_nr _ a84 rfl) (snapD_nr _ a88 rfl) (fun c92 => ?_)
            refine sim_let2 (hand_plain (by rfl) _ _) ?_
            refine sim_let (v := iv (wr (0 + c92))) (aBin_add _ _) ?_
            refine sim_get (D2.tab (l := []) (x := x1) (ps := ps41) (A := (Sl Int)) O44 hm81) (fun m94 a93 hi95 hm96 => ?_)
            refine sim_setIn (l := []) (x := x1) (ps := ps41) (A := (Sl Int)) O44 hp42 (setS a78 w45 (wr (0 + c92))) (wr (0 + c92)) (by first | exact hi80 | rfl) hm81 hi95 hm96 rfl rfl rfl (by simp) (by first | rfl | simp) (by first | rfl | simp [splice]) (fun ps99 h97 hp100 O98 => ?_)
            refine sim_let (v := iv (wr (w45 + 1))) (aBin_add _ _) ?_
            exact sim_ret ⟨rfl, _, rfl, hp100, O98⟩
      · refine sim_let (v := iv (wr (w13 - w45))) (aBin_sub _ _) ?_
        refine sim_callV1 (t := absI) he_impl_abs (snapD_int _ _) (fun c102 => ?_)
        refine sim_let (v := bv (decide (band_ < c102))) (aBin_gtr _ _) ?_
        refine sim_guardF (e := bv) (fun hb103 => ?_) (fun c104 => ?_)
        · refine sim_let (v := bv (decide (1099511627776 ≤ c55))) (aBin_geq _ _) ?_
          exact sim_ret rfl
        · refine sim_let (v := bv (bif decide (band_ < c102) then true else c104)) (pick_b' _ _ _) ?_
          refine sim_cond (fun c105 => ?_) (fun c105 => ?_)
          · refine sim_getN (l := []) (x := x1) (ps := ps41) (A := (Sl Int)) O44 hp42 (fun m107 a106 x110 hi108 hm109 hg111 => ?_)
            refine sim_let (v := x110) (D2.ld (l := []) (x := x1) (ps := ps41) (A := (Sl Int)) O44 hm109 false 1 0) ?_
            refine sim_get (D2.tab (l := []) (x := x1) (ps := ps41) (A := (Sl Int)) O44 hm109) (fun m113 a112 hi114 hm115 => ?_)
            refine sim_setIn (l := []) (x := x1) (ps := ps41) (A := (Sl Int)) O44 hp42 (setS a106 w45 1099511627776) 1099511627776 (by first | exact hi108 | rfl) hm109 hi114 hm115 rfl rfl rfl (by simp) (by first | rfl | simp) (by first | rfl | simp [splice]) (fun ps118 h116 hp119 O117 => ?_)
            refine sim_let (v := iv (wr (w45 + 1))) (aBin_add _ _) ?_
            exact sim_ret ⟨rfl, _, rfl, hp119, O117⟩
          · refine sim_getN (l := []) (x := x1) (ps := ps41) (A := (Sl Int)) O44 hp42 (fun m122 a121 x125 hi123 hm124 hg126 => ?_)
            refine sim_let (v := x125) (D2.ld (l := []) (x := x1) (ps := ps41) (A := (Sl Int)) O44 hm124 false 1 0) ?_
            refine sim_get (Tab.enc h43 a_) (fun m128 a127 hi129 hm130 => ?_)
            refine sim_let (v := AV.agg [iv a127.x, iv a127.y, iv a127.d]) ((Tab.enc h43 a_).ld hm130 true 3 0) ?_
            refine sim_get (Tab.enc h43 b_) (fun m132 a131 hi133 hm134 => ?_)
            refine sim_let (v := AV.agg [iv a131.x, iv a131.y, iv a131.d]) ((Tab.enc h43 b_).ld hm134 true 3 0) ?_
            refine sim_callQ2 he_impl_featCost (snapD_nr _ a127 rfl) (snapD_nr _ a131 rfl) (fun c135 => ?_)
            refine sim_let2 (hand_plain (by rfl) _ _) ?_
            refine sim_let (v := iv (wr (c55 + c135))) (aBin_add _ _) ?_
            refine sim_get (D2.tab (l := []) (x := x1) (ps := ps41) (A := (Sl Int)) O44 hm124) (fun m137 a136 hi138 hm139 => ?_)
            refine sim_setIn (l := []) (x := x1) (ps := ps41) (A := (Sl Int)) O44 hp42 (setS a121 w45 (wr (c55 + c135))) (wr (c55 + c135)) (by first | exact hi123 | rfl) hm124 hi138 hm139 rfl rfl rfl (by simp) (by first | rfl | simp) (by first | rfl | simp [splice]) (fun ps142 h140 hp143 O141 => ?_)
            refine sim_let (v := iv (wr (w45 + 1))) (aBin_add _ _) ?_
            exact sim_ret ⟨rfl, _, rfl, hp143, O141⟩
  · exact sim_ret ⟨nofun, _, _, _, _, rfl, hp42, O44⟩
theorem tl0_impl_costTable (env : Nat → Contract) {B : Base} (he_impl_abs : env n_impl_abs = .pure (T1 absI)) (he_impl_featCost : env n_impl_featCost = .pure (C2 (fun c : Int => enc c) t_impl_featCost)) (he_impl_leastBefore : env n_impl_leastBefore = .pure (C3 (fun c : Int => enc c) t_impl_leastBefore)) (a_ : Sl Feat) (b_ : Sl Feat) (band_ : Int) (x1 : AV)  {st : (Sl (Sl Int)) × Int} {tm : TM} {h : Heap} (R : (fun (st : (Sl (Sl Int)) × Int) tm h11 => match st with | (w8, w13) => ∃ ps9 : PS (Sl Int), tm = ((Sl.enc a_) :: (Sl.enc b_) :: (iv band_) :: und :: und :: und :: nilS :: x1 :: AV.top :: AV.top :: AV.top :: (Sl.enc a_) :: (iv (((a_.getD []).length : Nat) : Int)) :: x1 :: (Sl.enc a_) :: (iv (((a_.getD []).length : Nat) : Int)) :: (iv w13) :: AV.top :: AV.top :: AV.top :: AV.top :: AV.top :: AV.top :: AV.top :: AV.top :: AV.top :: AV.top :: AV.top :: AV.top :: AV.top :: AV.top :: AV.top :: AV.top :: AV.top :: AV.top :: AV.top :: AV.top :: AV.top :: AV.top :: AV.top :: AV.top :: AV.top :: AV.top :: AV.top :: AV.top :: AV.top :: AV.top :: AV.top :: AV.top :: AV.top :: AV.top :: AV.top :: AV.top :: AV.top :: AV.top :: AV.top :: AV.top :: AV.top :: AV.top :: AV.top :: AV.top :: AV.top :: AV.top :: AV.top :: AV.top :: AV.top :: AV.top :: AV.top :: AV.top :: AV.top :: AV.top :: AV.top :: AV.top :: AV.top :: AV.top :: und :: []) ∧ pj ps9 = w8 ∧ Hold B h11 ([] ++ D2 (A := (Sl Int)) x1 ps9)) st tm h) : Sim (loopP hm0_impl_costTable xm0_impl_costTable (lb0_impl_costTable env) tm h) (loopT (s0_impl_costTable a_ b_ band_) st) (fun (q : Sl (Sl Int)) (r : Res) => match q with | q16 => ∃ (z19 : AV) (z20 : AV) (z21 : AV) (ps17 : PS (Sl Int)) (h14 : Heap), r = (.exit 0, ((Sl.enc a_) :: (Sl.enc b_) :: (iv band_) :: und :: und :: und :: nilS :: x1 :: z19 :: z20 :: z21 :: (Sl.enc a_) :: (iv (((a_.getD []).length : Nat) : Int)) :: x1 :: (Sl.enc a_) :: (iv (((a_.getD []).length : Nat) : Int)) :: AV.top :: AV.top :: AV.top :: AV.top :: AV.top :: AV.top :: AV.top :: AV.top :: AV.top :: AV.top :: AV.top :: AV.top :: AV.top :: AV.top :: AV.top :: AV.top :: AV.top :: AV.top :: AV.top :: AV.top :: AV.top :: AV.top :: AV.top :: AV.top :: AV.top :: AV.top :: AV.top :: AV.top :: AV.top :: AV.top :: AV.top :: AV.top :: AV.top :: AV.top :: AV.top :: AV.top :: AV.top :: AV.top :: AV.top :: AV.top :: AV.top :: AV.top :: AV.top :: AV.top :: AV.top :: AV.top :: AV.top :: AV.top :: AV.top :: AV.top :: AV.top :: AV.top :: AV.top :: AV.top :: AV.top :: AV.top :: AV.top :: AV.top :: AV.top :: und :: []), h14) ∧ pj ps17 = q16 ∧ Hold B h14 ([] ++ D2 (A := (Sl Int)) x1 ps17)) := by
  refine loop_sim (Rel := fun (st : (Sl (Sl Int)) × Int) tm h11 => match st with | (w8, w13) => ∃ ps9 : PS (Sl Int), tm = ((Sl.enc a_) :: (Sl.enc b_) :: (iv band_) :: und :: und :: und :: nilS :: x1 :: AV.top :: AV.top :: AV.top :: (Sl.enc a_) :: (iv (((a_.getD []).length : Nat) : Int)) :: x1 :: (Sl.enc a_) :: (iv (((a_.getD []).length : Nat) : Int)) :: (iv w13) :: AV.top :: AV.top :: AV.top :: AV.top :: AV.top :: AV.top :: AV.top :: AV.top :: AV.top :: AV.top :: AV.top :: AV.top :: AV.top :: AV.top :: AV.top :: AV.top :: AV.top :: AV.top :: AV.top :: AV.top :: AV.top :: AV.top :: AV.top :: AV.top :: AV.top :: AV.top :: AV.top :: AV.top :: AV.top :: AV.top :: AV.top :: AV.top :: AV.top :: AV.top :: AV.top :: AV.top :: AV.top :: AV.top :: AV.top :: AV.top :: AV.top :: AV.top :: AV.top :: AV.top :: AV.top :: AV.top :: AV.top :: AV.top :: AV.top :: AV.top :: AV.top :: AV.top :: AV.top :: AV.top :: AV.top :: AV.top :: AV.top :: AV.top :: und :: []) ∧ pj ps9 = w8 ∧ Hold B h11 ([] ++ D2 (A := (Sl Int)) x1 ps9)) (fun st tm h11 R => ?_) R
  obtain ⟨w8, w13⟩ := st
  obtain ⟨ps9, rfl, hp10, O12⟩ := R
  rw [e_lb0_impl_costTable]
  unfold s0_impl_costTable
  dsimp only
  refine sim_let (v := bv (decide (w13 < (((a_.getD []).length : Nat) : Int)))) (aBin_lss _ _) ?_
  refine sim_cond (fun c23 => ?_) (fun c23 => ?_)
  · refine sim_let (v := iv (((b_.getD []).length : Nat) : Int)) (Tab.enc h11 b_).len ?_
    refine sim_make (A := Int) O12 0 rfl (by decide) (fun l28 x24 h25 O26 => ?_)
    replace O26 : Hold B h25 ([(x24, obS ((some l28) : Sl Int))] ++ D2 (A := (Sl Int)) x1 ps9) := Hold.rot O26
    refine sim_getN (l := [(x24, obS ((some l28) : Sl Int))]) (x := x1) (ps := ps9) (A := (Sl Int)) O26 hp10 (fun m30 a29 x33 hi31 hm32 hg34 => ?_)
    have O37 := O26
    refine sim_setRow (l := []) (x := x1) (ps := ps9) (a' := (some l28)) O37 hp10 hi31 hm32 (by simp) (by first | rfl | simp [splice, Inn.row]) (fun ps38 h35 hp39 O36 => ?_)
    refine sim_let (v := iv (((b_.getD []).length : Nat) : Int)) (Tab.enc h35 b_).len ?_
    refine sim_bind ((tl1_impl_costTable env he_impl_abs he_impl_featCost he_impl_leastBefore a_ b_ band_ x1 w13 x24 m30) ⟨_, rfl, hp39, O36⟩) (fun qq147 r hq => ?_)
    revert hq
    revert qq147
    intro q48 hq
    obtain ⟨z51, z52, ps49, h46, rfl, hp50, O47⟩ := hq
    rw [e_lk1x2_impl_costTable]
    refine sim_let (v := iv (wr (w13 + 1))) (aBin_add _ _) ?_
    exact sim_ret ⟨rfl, _, rfl, hp50, O47⟩
  · exact sim_ret ⟨nofun, _, _, _, _, _, rfl, hp10, O12⟩
theorem ts_impl_costTable (env : Nat → Contract) (he_impl_abs : env n_impl_abs = .pure (T1 absI)) (he_impl_featCost : env n_impl_featCost = .pure (C2 (fun c : Int => enc c) t_impl_featCost)) (he_impl_leastBefore : env n_impl_leastBefore = .pure (C3 (fun c : Int => enc c) t_impl_leastBefore)) (a_ : Sl Feat) (b_ : Sl Feat) (band_ : Int) : Sim (denFn Try.prog env n_impl_costTable [Sl.enc a_, Sl.enc b_, iv band_] []) (t_impl_costTable a_ b_ band_) fun c p => release p.2 depth p.1 = some ((fun c : (Sl (Sl Int)) => rD c) c) := by
  have O := Hold.nil []
  generalize hB : (⟨[], []⟩ : Base) = B at O
  clear hB
  rw [e_impl_costTable]
  unfold t_impl_costTable
  refine sim_let (v := iv (((a_.getD []).length : Nat) : Int)) (Tab.enc [] a_).len ?_
  refine sim_makeN (l := []) (A := (Sl Int)) O (none : Sl Int) rfl rfl (by decide) (fun l5 x1 ps6 h2 hp7 O3 => ?_)
  refine sim_let (v := iv (((a_.getD []).length : Nat) : Int)) (Tab.enc h2 a_).len ?_
  refine sim_bind ((tl0_impl_costTable env he_impl_abs he_impl_featCost he_impl_leastBefore a_ b_ band_ x1) ⟨_, rfl, hp7, O3⟩) (fun qq150 r hq => ?_)
  revert hq
  revert qq150
  intro q16 hq
  obtain ⟨z19, z20, z21, ps17, h14, rfl, hp18, O15⟩ := hq
  rw [e_lk0x0_impl_costTable]
  have O22 : Hold B h14 ([] ++ D2 (A := (Sl Int)) x1 ps17) := O15.selD [] (by decide) rfl
  exact sim_ret (release_of (by simp only [ids_tup, ids_aggD, ids_agg, ids_iv, ids_bv, ids_sv, ids_bt, ids_nilS, ids_enc, D2.ids8 (l := []) (x := x1) (ps := ps17) (A := (Sl Int)) O22, List.map_append, List.map_nil, List.flatMap_cons, List.flatMap_nil, List.append_nil, List.nil_append]; simpa only [List.flatMap_cons, List.flatMap_nil, List.append_nil, List.nil_append] using O22.nd2) (by simp only [rel_tup, rel_aggD, rel_agg, rel_iv, rel_bv, rel_sv, rel_bt, rel_nilS, rel_enc, D2.rel8 (l := []) (x := x1) (ps := ps17) (A := (Sl Int)) O22 hp18, omapc, omapn, obind_sm] <;> rfl))
theorem tt_impl_costTable : PureOK Try.prog n_impl_costTable (C3 (fun c : (Sl (Sl Int)) => rD c) t_impl_costTable) := pureC3 (Econs ok_impl_abs (Econs tt_impl_featCost (Econs tt_impl_leastBefore E0))) mixed hb_impl_costTable fun a_ b_ band_ => ts_impl_costTable _ (by simp [envL]) (by simp [envL]) (by simp [envL]) a_ b_ band_

def t_impl_elastic (a_ : Sl Feat) (b_ : Sl Feat) (band_ : Int) : Option Int :=
  obind (t_impl_costTable a_ b_ band_) fun c1 =>
  obind (getI (c1.getD []) (wr ((((a_.getD []).length : Nat) : Int) - 1))) fun a8 =>
  obind (getI (a8.getD []) (wr ((((b_.getD []).length : Nat) : Int) - 1))) fun a14 =>
  some a14

theorem ts_impl_elastic (env : Nat → Contract) (he_impl_costTable : env n_impl_costTable = .pure (C3 (fun c : (Sl (Sl Int)) => rD c) t_impl_costTable)) (a_ : Sl Feat) (b_ : Sl Feat) (band_ : Int) : Sim (denFn Try.prog env n_impl_elastic [Sl.enc a_, Sl.enc b_, iv band_] []) (t_impl_elastic a_ b_ band_) fun c p => release p.2 depth p.1 = some ((fun c : Int => enc c) c) := by
  have O := Hold.nil []
  generalize hB : (⟨[], []⟩ : Base) = B at O
  clear hB
  rw [e_impl_elastic]
  unfold t_impl_elastic
  refine sim_call3 he_impl_costTable (snapD_enc _ _) (snapD_enc _ _) (snapD_int _ _) (fun c1 => ?_)
  refine sim_handN (l := []) (A := (Sl Int)) O (fun x3 ps6 h4 hp7 O5 => ?_)
  refine sim_let (v := iv (((a_.getD []).length : Nat) : Int)) (Tab.enc h4 a_).len ?_
  refine sim_let (v := iv (wr ((((a_.getD []).length : Nat) : Int) - 1))) (aBin_sub _ _) ?_
  refine sim_getN (l := []) (x := x3) (ps := ps6) (A := (Sl Int)) O5 hp7 (fun m9 a8 x12 hi10 hm11 hg13 => ?_)
  refine sim_let (v := x12) (D2.ld (l := []) (x := x3) (ps := ps6) (A := (Sl Int)) O5 hm11 false 1 0) ?_
  refine sim_let (v := iv (((b_.getD []).length : Nat) : Int)) (Tab.enc h4 b_).len ?_
  refine sim_let (v := iv (wr ((((b_.getD []).length : Nat) : Int) - 1))) (aBin_sub _ _) ?_
  refine sim_get (D2.tab (l := []) (x := x3) (ps := ps6) (A := (Sl Int)) O5 hm11) (fun m15 a14 hi16 hm17 => ?_)
  refine sim_let (v := iv a14) ((D2.tab (l := []) (x := x3) (ps := ps6) (A := (Sl Int)) O5 hm11).ld hm17 false 1 0) ?_
  exact sim_ret (release_plain (by rfl) _)
theorem tt_impl_elastic : PureOK Try.prog n_impl_elastic (C3 (fun c : Int => enc c) t_impl_elastic) := pureC3 (Econs tt_impl_costTable E0) mixed hb_impl_elastic fun a_ b_ band_ => ts_impl_elastic _ (by simp [envL]) a_ b_ band_

def t_impl_Elastic (a_ : Sl Feat) (b_ : Sl Feat) (band_ : Int) : Option (Int × Int) :=
  obind (t_impl_matchable a_ b_ band_) fun c1 =>
  bif !decide (c1 = 0) then
    some (0, c1)
  else
    obind (t_impl_elastic a_ b_ band_) fun c3 =>
    some (c3, 0)

theorem ts_impl_Elastic (env : Nat → Contract) (he_impl_elastic : env n_impl_elastic = .pure (C3 (fun c : Int => enc c) t_impl_elastic)) (he_impl_matchable : env n_impl_matchable = .pure (C3 (fun c : Int => enc c) t_impl_matchable)) (a_ : Sl Feat) (b_ : Sl Feat) (band_ : Int) : Sim (denFn Try.prog env n_impl_Elastic [Sl.enc a_, Sl.enc b_, iv band_] []) (t_impl_Elastic a_ b_ band_) fun c p => release p.2 depth p.1 = some ((fun c : Int × Int => AV.tup [enc c.1, enc c.2]) c) := by
  have O := Hold.nil []
  generalize hB : (⟨[], []⟩ : Base) = B at O
  clear hB
  rw [e_impl_Elastic]
  unfold t_impl_Elastic
  refine sim_call3 he_impl_matchable (snapD_enc _ _) (snapD_enc _ _) (snapD_int _ _) (fun c1 => ?_)
  refine sim_let2 (hand_plain (by rfl) _ _) ?_
  refine sim_let (v := bv (!decide (c1 = 0))) (aCmp_ne _ _) ?_
  refine sim_cond (fun c2 => ?_) (fun c2 => ?_)
  · exact sim_ret (release_plain (by rfl) _)
  · refine sim_call3 he_impl_elastic (snapD_enc _ _) (snapD_enc _ _) (snapD_int _ _) (fun c3 => ?_)
    refine sim_let2 (hand_plain (by rfl) _ _) ?_
    exact sim_ret (release_plain (by rfl) _)
theorem tt_impl_Elastic : PureOK Try.prog n_impl_Elastic (C3 (fun c : Int × Int => AV.tup [enc c.1, enc c.2]) t_impl_Elastic) := pureC3 (Econs tt_impl_elastic (Econs tt_impl_matchable E0)) mixed hb_impl_Elastic fun a_ b_ band_ => ts_impl_Elastic _ (by simp [envL]) (by simp [envL]) a_ b_ band_

def t_spec_l08Feat (f_ : Feat) : Option Bool :=
  obind (some (within f_.x 0 255)) fun c5 =>
  obind (bif c5 then (obind (some (within f_.y 0 255)) fun c7 => some c7) else some false) fun c8 =>
  obind (bif (bif c5 then c8 else false) then (obind (some (within f_.d 0 7)) fun c10 => some c10) else some false) fun c11 =>
  some (bif (bif c5 then c8 else false) then c11 else false)

def s0_spec_l08Ok (list_ : Sl Feat) : Int → Option (Sum Int (Sum Unit Bool)) := fun w3 =>
  bif decide (w3 < (((list_.getD []).length : Nat) : Int)) then
    obind (getI (list_.getD []) w3) fun a14 =>
    obind (t_spec_l08Feat a14) fun c18 =>
    bif !c18 then
      some (.inr (.inr false))
    else
      some (.inl (wr (w3 + 1)))
  else
    some (.inr (.inl ()))
def t_spec_l08Ok (list_ : Sl Feat) : Option Bool :=
  obind (loopT (s0_spec_l08Ok list_) 0) fun qq24 => match qq24 with
  | (.inl _) =>
      obind (some (within (((list_.getD []).length : Nat) : Int) 1 384)) fun c8 =>
      some c8
  | (.inr q11) =>
      some q11

def s0_spec_BackFeats (list_ : Sl Feat) : ((Sl Feat) × Int) → Option (Sum ((Sl Feat) × Int) (Sl Feat)) := fun (w8, w11) =>
  bif decide (0 ≤ w11) then
    obind (getI (list_.getD []) w11) fun a20 =>
    obind (appO w8 ([(⟨a20.x, a20.y, Int.tmod (wr (a20.d + 4)) 8⟩ : Feat)] : List Feat)) fun _ =>
    some (.inl ((appS w8 ([(⟨a20.x, a20.y, Int.tmod (wr (a20.d + 4)) 8⟩ : Feat)] : List Feat)), wr (w11 - 1)))
  else
    some (.inr w8)
def t_spec_BackFeats (list_ : Sl Feat) : Option ((Sl Feat) × Int) :=
  obind (t_spec_l08Ok list_) fun c1 =>
  bif !c1 then
    some ((none : Sl Feat), 1)
  else
    obind (loopT (s0_spec_BackFeats list_) ((some ([] : List Feat)), wr ((((list_.getD []).length : Nat) : Int) - 1))) fun q15 =>
    some (q15, 0)

def s0_spec_A2Path (n_ : Int) (m_ : Int) : ((Sl UInt8) × Int × Int × (Sl Pair) × Int × Int) → Option (Sum ((Sl UInt8) × Int × Int × (Sl Pair) × Int × Int) (Sl Pair)) := fun (w9, w10, w11, w13, w16, w17) =>
  obind (bif decide (w16 < (wr (n_ - 1))) then some false else (some (decide (w17 < (wr (m_ - 1)))))) fun c29 =>
  bif (bif decide (w16 < (wr (n_ - 1))) then true else c29) then
    obind (t_spec_l00Src_pick (⟨w9, w10, w11⟩ : l00Src) 3) fun c31 =>
    obind (bif decide (w17 = wr (m_ - 1)) then some false else (some (decide (w16 < (wr (n_ - 1)))))) fun c38 =>
    obind (bif (!(decide (w17 = wr (m_ - 1))) && c38) then (some (!decide (c31.1 = 1))) else some false) fun c40 =>
    obind (bif decide (w17 = wr (m_ - 1)) then some false else (some (bif c38 then c40 else false))) fun c42 =>
    bif (bif decide (w17 = wr (m_ - 1)) then true else c42) then
      obind (bif !decide (c31.1 = 0) then some false else (some (decide (wr (w16 + 1) = wr (n_ - 1))))) fun c45 =>
      obind (bif (bif !decide (c31.1 = 0) then true else c45) then (some (decide (w17 < (wr (m_ - 1))))) else some false) fun c47 =>
      bif (bif (bif !decide (c31.1 = 0) then true else c45) then c47 else false) then
        obind (getI (w13.getD []) (wr ((((w13.getD []).length : Nat) : Int) - 1))) fun a49 =>
        bif !decide (a49 = (⟨wr (w16 + 1), wr (w17 + 1)⟩ : Pair)) then
          obind (appO w13 ([(⟨wr (w16 + 1), wr (w17 + 1)⟩ : Pair)] : List Pair)) fun _ =>
          some (.inl (c31.2.code, c31.2.pos, c31.2.seed, (appS w13 ([(⟨wr (w16 + 1), wr (w17 + 1)⟩ : Pair)] : List Pair)), wr (w16 + 1), wr (w17 + 1)))
        else
          some (.inl (c31.2.code, c31.2.pos, c31.2.seed, w13, wr (w16 + 1), wr (w17 + 1)))
      else
        obind (getI (w13.getD []) (wr ((((w13.getD []).length : Nat) : Int) - 1))) fun a66 =>
        bif !decide (a66 = (⟨wr (w16 + 1), w17⟩ : Pair)) then
          obind (appO w13 ([(⟨wr (w16 + 1), w17⟩ : Pair)] : List Pair)) fun _ =>
          some (.inl (c31.2.code, c31.2.pos, c31.2.seed, (appS w13 ([(⟨wr (w16 + 1), w17⟩ : Pair)] : List Pair)), wr (w16 + 1), w17))
        else
          some (.inl (c31.2.code, c31.2.pos, c31.2.seed, w13, wr (w16 + 1), w17))
    else
      obind (bif !decide (c31.1 = 0) then some false else (some (decide (w16 = wr (n_ - 1))))) fun c84 =>
      obind (bif (bif !decide (c31.1 = 0) then true else c84) then (some (decide (w17 < (wr (m_ - 1))))) else some false) fun c86 =>
      bif (bif (bif !decide (c31.1 = 0) then true else c84) then c86 else false) then
        obind (getI (w13.getD []) (wr ((((w13.getD []).length : Nat) : Int) - 1))) fun a88 =>
        bif !decide (a88 = (⟨w16, wr (w17 + 1)⟩ : Pair)) then
          obind (appO w13 ([(⟨w16, wr (w17 + 1)⟩ : Pair)] : List Pair)) fun _ =>
          some (.inl (c31.2.code, c31.2.pos, c31.2.seed, (appS w13 ([(⟨w16, wr (w17 + 1)⟩ : Pair)] : List Pair)), w16, wr (w17 + 1)))
        else
          some (.inl (c31.2.code, c31.2.pos, c31.2.seed, w13, w16, wr (w17 + 1)))
      else
        obind (getI (w13.getD []) (wr ((((w13.getD []).length : Nat) : Int) - 1))) fun a105 =>
        bif !decide (a105 = (⟨w16, w17⟩ : Pair)) then
          obind (appO w13 ([(⟨w16, w17⟩ : Pair)] : List Pair)) fun _ =>
          some (.inl (c31.2.code, c31.2.pos, c31.2.seed, (appS w13 ([(⟨w16, w17⟩ : Pair)] : List Pair)), w16, w17))
        else
          some (.inl (c31.2.code, c31.2.pos, c31.2.seed, w13, w16, w17))
  else
    some (.inr w13)
def t_spec_A2Path (code_ : Sl UInt8) (n_ : Int) (m_ : Int) : Option (Sl Pair) :=
  obind (loopT (s0_spec_A2Path n_ m_) (code_, 0, 0, (some ([(⟨0, 0⟩ : Pair)] : List Pair)), 0, 0)) fun q24 =>
  some q24

def s0_impl_ValidPath (path_ : Sl Pair) (band_ : Int) : Int → Option (Sum Int (Sum Unit Bool)) := fun w16 =>
  bif decide (w16 < (((path_.getD []).length : Nat) : Int)) then
    obind (getI (path_.getD []) w16) fun a32 =>
    bif decide (0 < w16) then
      obind (getI (path_.getD []) (wr (w16 - 1))) fun a43 =>
      obind (getI (path_.getD []) (wr (w16 - 1))) fun a47 =>
      obind (some (within (wr (a32.i - a43.i)) 0 1)) fun c51 =>
      obind (bif !c51 then some false else (obind (some (within (wr (a32.j - a47.j)) 0 1)) fun c53 => some (!c53))) fun c54 =>
      obind (bif (bif !c51 then true else c54) then some false else (some (decide (wr ((wr (a32.i - a43.i)) + (wr (a32.j - a47.j))) = 0)))) fun c56 =>
      bif (bif (bif !c51 then true else c54) then true else c56) then
        some (.inr (.inr false))
      else
        obind (some (within (wr (a32.i - a32.j)) (wr (0 - band_)) band_)) fun c59 =>
        bif !c59 then
          some (.inr (.inr false))
        else
          some (.inl (wr (w16 + 1)))
    else
      obind (some (within (wr (a32.i - a32.j)) (wr (0 - band_)) band_)) fun c63 =>
      bif !c63 then
        some (.inr (.inr false))
      else
        some (.inl (wr (w16 + 1)))
  else
    some (.inr (.inl ()))
def t_impl_ValidPath (path_ : Sl Pair) (n_ : Int) (m_ : Int) (band_ : Int) : Option Bool :=
  obind (bif decide ((((path_.getD []).length : Nat) : Int) = 0) then some false else (obind (getI (path_.getD []) 0) fun a2 => some (!decide (a2 = (⟨0, 0⟩ : Pair))))) fun c6 =>
  obind (bif (bif decide ((((path_.getD []).length : Nat) : Int) = 0) then true else c6) then some false else (obind (getI (path_.getD []) (wr ((((path_.getD []).length : Nat) : Int) - 1))) fun a8 => some (!decide (a8 = (⟨wr (n_ - 1), wr (m_ - 1)⟩ : Pair))))) fun c12 =>
  bif (bif (bif decide ((((path_.getD []).length : Nat) : Int) = 0) then true else c6) then true else c12) then
    some false
  else
    obind (loopT (s0_impl_ValidPath path_ band_) 0) fun qq69 => match qq69 with
    | (.inl _) =>
        some true
    | (.inr q26) =>
        some q26

theorem tl0_impl_ValidPath (env : Nat → Contract) {B : Base} (he_impl_within : env n_impl_within = .pure (T3 within)) (path_ : Sl Pair) (n_ : Int) (m_ : Int) (band_ : Int) (c6 : Bool) (c12 : Bool)  {st : Int} {tm : TM} {h : Heap} (R : (fun (st : Int) tm h14 => match st with | w16 => tm = ((Sl.enc path_) :: (iv n_) :: (iv m_) :: (iv band_) :: und :: und :: und :: und :: AV.top :: AV.top :: AV.top :: AV.top :: AV.top :: (Sl.enc path_) :: (iv (((path_.getD []).length : Nat) : Int)) :: (bv (decide ((((path_.getD []).length : Nat) : Int) = 0))) :: (bv (decide ((((path_.getD []).length : Nat) : Int) = 0))) :: AV.top :: AV.top :: AV.top :: AV.top :: (cond (decide ((((path_.getD []).length : Nat) : Int) = 0)) und (bv c6)) :: (bv (bif decide ((((path_.getD []).length : Nat) : Int) = 0) then true else c6)) :: (bv (bif decide ((((path_.getD []).length : Nat) : Int) = 0) then true else c6)) :: AV.top :: AV.top :: AV.top :: AV.top :: AV.top :: AV.top :: AV.top :: AV.top :: AV.top :: AV.top :: AV.top :: (cond (bif decide ((((path_.getD []).length : Nat) : Int) = 0) then true else c6) und (bv c12)) :: (bv (bif (bif decide ((((path_.getD []).length : Nat) : Int) = 0) then true else c6) then true else c12)) :: (Sl.enc path_) :: (iv (((path_.getD []).length : Nat) : Int)) :: (iv w16) :: AV.top :: AV.top :: AV.top :: AV.top :: AV.top :: AV.top :: AV.top :: AV.top :: AV.top :: AV.top :: AV.top :: AV.top :: AV.top :: AV.top :: AV.top :: AV.top :: AV.top :: AV.top :: AV.top :: AV.top :: AV.top :: AV.top :: AV.top :: AV.top :: AV.top :: AV.top :: AV.top :: AV.top :: AV.top :: AV.top :: AV.top :: AV.top :: AV.top :: AV.top :: AV.top :: AV.top :: AV.top :: AV.top :: AV.top :: AV.top :: AV.top :: AV.top :: AV.top :: AV.top :: AV.top :: AV.top :: AV.top :: AV.top :: AV.top :: []) ∧ Hold B h14 []) st tm h) : Sim (loopP hm0_impl_ValidPath xm0_impl_ValidPath (lb0_impl_ValidPath env) tm h) (loopT (s0_impl_ValidPath path_ band_) st) (fun (q : Sum Unit Bool) (r : Res) => match q with | .inl _ => ∃ (z19 : AV) (z20 : AV) (z21 : AV) (z22 : AV) (z23 : AV) (h17 : Heap), r = (.exit 0, ((Sl.enc path_) :: (iv n_) :: (iv m_) :: (iv band_) :: und :: und :: und :: und :: z19 :: z20 :: z21 :: z22 :: z23 :: (Sl.enc path_) :: (iv (((path_.getD []).length : Nat) : Int)) :: (bv (decide ((((path_.getD []).length : Nat) : Int) = 0))) :: (bv (decide ((((path_.getD []).length : Nat) : Int) = 0))) :: AV.top :: AV.top :: AV.top :: AV.top :: (cond (decide ((((path_.getD []).length : Nat) : Int) = 0)) und (bv c6)) :: (bv (bif decide ((((path_.getD []).length : Nat) : Int) = 0) then true else c6)) :: (bv (bif decide ((((path_.getD []).length : Nat) : Int) = 0) then true else c6)) :: AV.top :: AV.top :: AV.top :: AV.top :: AV.top :: AV.top :: AV.top :: AV.top :: AV.top :: AV.top :: AV.top :: (cond (bif decide ((((path_.getD []).length : Nat) : Int) = 0) then true else c6) und (bv c12)) :: (bv (bif (bif decide ((((path_.getD []).length : Nat) : Int) = 0) then true else c6) then true else c12)) :: (Sl.enc path_) :: (iv (((path_.getD []).length : Nat) : Int)) :: AV.top :: AV.top :: AV.top :: AV.top :: AV.top :: AV.top :: AV.top :: AV.top :: AV.top :: AV.top :: AV.top :: AV.top :: AV.top :: AV.top :: AV.top :: AV.top :: AV.top :: AV.top :: AV.top :: AV.top :: AV.top :: AV.top :: AV.top :: AV.top :: AV.top :: AV.top :: AV.top :: AV.top :: AV.top :: AV.top :: AV.top :: AV.top :: AV.top :: AV.top :: AV.top :: AV.top :: AV.top :: AV.top :: AV.top :: AV.top :: AV.top :: AV.top :: AV.top :: AV.top :: AV.top :: AV.top :: AV.top :: AV.top :: AV.top :: AV.top :: []), h17) ∧ Hold B h17 [] | .inr q26 => ∃ (q27 : Int) (z28 : AV) (z29 : AV) (z30 : AV) (h24 : Heap), r = (.ret, ((Sl.enc path_) :: (iv n_) :: (iv m_) :: (iv band_) :: und :: und :: und :: und :: (bv q26) :: (iv q27) :: z28 :: z29 :: z30 :: (Sl.enc path_) :: (iv (((path_.getD []).length : Nat) : Int)) :: (bv (decide ((((path_.getD []).length : Nat) : Int) = 0))) :: (bv (decide ((((path_.getD []).length : Nat) : Int) = 0))) :: AV.top :: AV.top :: AV.top :: AV.top :: (cond (decide ((((path_.getD []).length : Nat) : Int) = 0)) und (bv c6)) :: (bv (bif decide ((((path_.getD []).length : Nat) : Int) = 0) then true else c6)) :: (bv (bif decide ((((path_.getD []).length : Nat) : Int) = 0) then true else c6)) :: AV.top :: AV.top :: AV.top :: AV.top :: AV.top :: AV.top :: AV.top :: AV.top :: AV.top :: AV.top :: AV.top :: (cond (bif decide ((((path_.getD []).length : Nat) : Int) = 0) then true else c6) und (bv c12)) :: (bv (bif (bif decide ((((path_.getD []).length : Nat) : Int) = 0) then true else c6) then true else c12)) :: (Sl.enc path_) :: (iv (((path_.getD []).length : Nat) : Int)) :: AV.top :: AV.top :: AV.top :: AV.top :: AV.top :: AV.top :: AV.top :: AV.top :: AV.top :: AV.top :: AV.top :: AV.top :: AV.top :: AV.top :: AV.top :: AV.top :: AV.top :: AV.top :: AV.top :: AV.top :: AV.top :: AV.top :: AV.top :: AV.top :: AV.top :: AV.top :: AV.top :: AV.top :: AV.top :: AV.top :: AV.top :: AV.top :: AV.top :: AV.top :: AV.top :: AV.top :: AV.top :: AV.top :: AV.top :: AV.top :: AV.top :: AV.top :: AV.top :: AV.top :: AV.top :: AV.top :: AV.top :: AV.top :: AV.top :: AV.top :: []), h24) ∧ Hold B h24 []) := by
  refine loop_sim (Rel := fun (st : Int) tm h14 => match st with | w16 => tm = ((Sl.enc path_) :: (iv n_) :: (iv m_) :: (iv band_) :: und :: und :: und :: und :: AV.top :: AV.top :: AV.top :: AV.top :: AV.top :: (Sl.enc path_) :: (iv (((path_.getD []).length : Nat) : Int)) :: (bv (decide ((((path_.getD []).length : Nat) : Int) = 0))) :: (bv (decide ((((path_.getD []).length : Nat) : Int) = 0))) :: AV.top :: AV.top :: AV.top :: AV.top :: (cond (decide ((((path_.getD []).length : Nat) : Int) = 0)) und (bv c6)) :: (bv (bif decide ((((path_.getD []).length : Nat) : Int) = 0) then true else c6)) :: (bv (bif decide ((((path_.getD []).length : Nat) : Int) = 0) then true else c6)) :: AV.top :: AV.top :: AV.top :: AV.top :: AV.top :: AV.top :: AV.top :: AV.top :: AV.top :: AV.top :: AV.top :: (cond (bif decide ((((path_.getD []).length : Nat) : Int) = 0) then true else c6) und (bv c12)) :: (bv (bif (bif decide ((((path_.getD []).length : Nat) : Int) = 0) then true else c6) then true else c12)) :: (Sl.enc path_) :: (iv (((path_.getD []).length : Nat) : Int)) :: (iv w16) :: AV.top :: AV.top :: AV.top :: AV.top :: AV.top :: AV.top :: AV.top :: AV.top :: AV.top :: AV.top :: AV.top :: AV.top :: AV.top :: AV.top :: AV.top :: AV.top :: AV.top :: AV.top :: AV.top :: AV.top :: AV.top :: AV.top :: AV.top :: AV.top :: AV.top :: AV.top :: AV.top :: AV.top :: AV.top :: AV.top :: AV.top :: AV.top :: AV.top :: AV.top :: AV.top :: AV.top :: AV.top :: AV.top :: AV.top :: AV.top :: AV.top :: AV.top :: AV.top :: AV.top :: AV.top :: AV.top :: AV.top :: AV.top :: AV.top :: []) ∧ Hold B h14 []) (fun w16 tm h14 R => ?_) R
  obtain ⟨rfl, O15⟩ := R
  rw [e_lb0_impl_ValidPath]
  unfold s0_impl_ValidPath
  dsimp only
  refine sim_let (v := bv (decide (w16 < (((path_.getD []).length : Nat) : Int)))) (aBin_lss _ _) ?_
  refine sim_cond (fun c31 => ?_) (fun c31 => ?_)
  · refine sim_get (Tab.enc h14 path_) (fun m33 a32 hi34 hm35 => ?_)
    refine sim_let (v := AV.agg [iv a32.i, iv a32.j]) ((Tab.enc h14 path_).ld hm35 true 2 0) ?_
    refine sim_box O15 (cs := [iv 0, iv 0]) (by first | rfl | simp) (fun o36 h37 O38 => ?_)
    replace O38 : Hold B h37 [(AV.ptr o36 1 0 0, .pt 2 [iv 0, iv 0])] := O38
    refine sim_store O38 0 (cs' := [iv a32.i, iv a32.j]) rfl (by first | rfl | simp) (by simp) (by first | rfl | simp) (by first | rfl | simp [splice]) (fun h40 O41 => ?_)
    replace O41 : Hold B h40 [(AV.ptr o36 1 0 0, .pt 2 [iv a32.i, iv a32.j])] := O41
    refine sim_let (v := bv (decide (0 < w16))) (aBin_gtr _ _) ?_
    refine sim_cond (fun c42 => ?_) (fun c42 => ?_)
    · refine sim_let (v := AV.ptr o36 1 0 0) rfl ?_
      refine sim_let (v := iv a32.i) (O41.ld 0 rfl false 1 0) ?_
      refine sim_let (v := iv (wr (w16 - 1))) (aBin_sub _ _) ?_
      refine sim_get (Tab.enc h40 path_) (fun m44 a43 hi45 hm46 => ?_)
      refine sim_let (v := elp (Sl.enc path_) m44 0) ((Tab.enc h40 path_).fld _ _ _) ?_
      refine sim_let (v := iv a43.i) ((Tab.enc h40 path_).ld hm46 false 1 0) ?_
      refine sim_let (v := iv (wr (a32.i - a43.i))) (aBin_sub _ _) ?_
      refine sim_let (v := AV.ptr o36 1 0 1) rfl ?_
      refine sim_let (v := iv a32.j) (O41.ld 0 rfl false 1 1) ?_
      refine sim_let (v := iv (wr (w16 - 1))) (aBin_sub _ _) ?_
      refine sim_get (Tab.enc h40 path_) (fun m48 a47 hi49 hm50 => ?_)
      refine sim_let (v := elp (Sl.enc path_) m48 1) ((Tab.enc h40 path_).fld _ _ _) ?_
      refine sim_let (v := iv a47.j) ((Tab.enc h40 path_).ld hm50 false 1 1) ?_
      refine sim_let (v := iv (wr (a32.j - a47.j))) (aBin_sub _ _) ?_
      refine sim_callV3 (t := within) he_impl_within (snapD_int _ _) (snapD_int _ _) (snapD_int _ _) (fun c51 => ?_)
      refine sim_let (v := bv (!c51)) (aUn_not _) ?_
      refine sim_guardF (e := bv) (fun hb52 => ?_) (fun c54 => ?_)
      · refine sim_callV3 (t := within) he_impl_within (snapD_int _ _) (snapD_int _ _) (snapD_int _ _) (fun c53 => ?_)
        refine sim_let (v := bv (!c53)) (aUn_not _) ?_
        exact sim_ret rfl
      · refine sim_let (v := bv (bif !c51 then true else c54)) (pick_b' _ _ _) ?_
        refine sim_guardF (e := bv) (fun hb55 => ?_) (fun c56 => ?_)
        · refine sim_let (v := iv (wr ((wr (a32.i - a43.i)) + (wr (a32.j - a47.j))))) (aBin_add _ _) ?_
          refine sim_let (v := bv (decide (wr ((wr (a32.i - a43.i)) + (wr (a32.j - a47.j))) = 0))) (aCmp_eq _ _) ?_
          exact sim_ret rfl
        · refine sim_let (v := bv (bif (bif !c51 then true else c54) then true else c56)) (pick_b' _ _ _) ?_
          refine sim_cond (fun c57 => ?_) (fun c57 => ?_)
          · have O58 : Hold B h40 [] := O41.sel [] (by decide) rfl
            exact sim_ret ⟨nofun, _, _, _, _, _, rfl, O58⟩
          · refine sim_let (v := AV.ptr o36 1 0 0) rfl ?_
            refine sim_let (v := iv a32.i) (O41.ld 0 rfl false 1 0) ?_
            refine sim_let (v := AV.ptr o36 1 0 1) rfl ?_
            refine sim_let (v := iv a32.j) (O41.ld 0 rfl false 1 1) ?_
            refine sim_let (v := iv (wr (a32.i - a32.j))) (aBin_sub _ _) ?_
            refine sim_let (v := iv (wr (0 - band_))) (aUn_neg _) ?_
            refine sim_callV3 (t := within) he_impl_within (snapD_int _ _) (snapD_int _ _) (snapD_int _ _) (fun c59 => ?_)
            refine sim_let (v := bv (!c59)) (aUn_not _) ?_
            refine sim_cond (fun c60 => ?_) (fun c60 => ?_)
            · have O61 : Hold B h40 [] := O41.sel [] (by decide) rfl
              exact sim_ret ⟨nofun, _, _, _, _, _, rfl, O61⟩
            · refine sim_let (v := iv (wr (w16 + 1))) (aBin_add _ _) ?_
              have O62 : Hold B h40 [] := O41.sel [] (by decide) rfl
              exact sim_ret ⟨rfl, rfl, O62⟩
    · refine sim_let (v := AV.ptr o36 1 0 0) rfl ?_
      refine sim_let (v := iv a32.i) (O41.ld 0 rfl false 1 0) ?_
      refine sim_let (v := AV.ptr o36 1 0 1) rfl ?_
      refine sim_let (v := iv a32.j) (O41.ld 0 rfl false 1 1) ?_
      refine sim_let (v := iv (wr (a32.i - a32.j))) (aBin_sub _ _) ?_
      refine sim_let (v := iv (wr (0 - band_))) (aUn_neg _) ?_
      refine sim_callV3 (t := within) he_impl_within (snapD_int _ _) (snapD_int _ _) (snapD_int _ _) (fun c63 => ?_)
      refine sim_let (v := bv (!c63)) (aUn_not _) ?_
      refine sim_cond (fun c64 => ?_) (fun c64 => ?_)
      · have O65 : Hold B h40 [] := O41.sel [] (by decide) rfl
        exact sim_ret ⟨nofun, _, _, _, _, _, rfl, O65⟩
      · refine sim_let (v := iv (wr (w16 + 1))) (aBin_add _ _) ?_
        have O66 : Hold B h40 [] := O41.sel [] (by decide) rfl
        exact sim_ret ⟨rfl, rfl, O66⟩
  · exact sim_ret ⟨nofun, _, _, _, _, _, _, rfl, O15⟩
theorem ts_impl_ValidPath (env : Nat → Contract) (he_impl_within : env n_impl_within = .pure (T3 within)) (path_ : Sl Pair) (n_ : Int) (m_ : Int) (band_ : Int) : Sim (denFn Try.prog env n_impl_ValidPath [Sl.enc path_, iv n_, iv m_, iv band_] []) (t_impl_ValidPath path_ n_ m_ band_) fun c p => release p.2 depth p.1 = some ((fun c : Bool => enc c) c) := by
  have O := Hold.nil []
  generalize hB : (⟨[], []⟩ : Base) = B at O
  clear hB
  rw [e_impl_ValidPath]
  unfold t_impl_ValidPath
  refine sim_let (v := iv (((path_.getD []).length : Nat) : Int)) (Tab.enc [] path_).len ?_
  refine sim_let (v := bv (decide ((((path_.getD []).length : Nat) : Int) = 0))) (aCmp_eq _ _) ?_
  refine sim_guardF (e := bv) (fun hb1 => ?_) (fun c6 => ?_)
  · refine sim_get (Tab.enc [] path_) (fun m3 a2 hi4 hm5 => ?_)
    refine sim_let (v := AV.agg [iv a2.i, iv a2.j]) ((Tab.enc [] path_).ld hm5 true 2 0) ?_
    refine sim_let (v := AV.agg [iv 0, iv 0]) (by first | rfl | simp [aBuild, aFill, splice]) ?_
    refine sim_let (v := bv (!decide (a2 = (⟨0, 0⟩ : Pair)))) (aCmp_Pair a2 (⟨0, 0⟩ : Pair)).2 ?_
    exact sim_ret rfl
  · refine sim_let (v := bv (bif decide ((((path_.getD []).length : Nat) : Int) = 0) then true else c6)) (pick_b' _ _ _) ?_
    refine sim_guardF (e := bv) (fun hb7 => ?_) (fun c12 => ?_)
    · refine sim_let (v := iv (((path_.getD []).length : Nat) : Int)) (Tab.enc [] path_).len ?_
      refine sim_let (v := iv (wr ((((path_.getD []).length : Nat) : Int) - 1))) (aBin_sub _ _) ?_
      refine sim_get (Tab.enc [] path_) (fun m9 a8 hi10 hm11 => ?_)
      refine sim_let (v := AV.agg [iv a8.i, iv a8.j]) ((Tab.enc [] path_).ld hm11 true 2 0) ?_
      refine sim_let (v := iv (wr (n_ - 1))) (aBin_sub _ _) ?_
      refine sim_let (v := iv (wr (m_ - 1))) (aBin_sub _ _) ?_
      refine sim_let (v := AV.agg [iv (wr (n_ - 1)), iv (wr (m_ - 1))]) (by first | rfl | simp [aBuild, aFill, splice]) ?_
      refine sim_let (v := bv (!decide (a8 = (⟨wr (n_ - 1), wr (m_ - 1)⟩ : Pair)))) (aCmp_Pair a8 (⟨wr (n_ - 1), wr (m_ - 1)⟩ : Pair)).2 ?_
      exact sim_ret rfl
    · refine sim_let (v := bv (bif (bif decide ((((path_.getD []).length : Nat) : Int) = 0) then true else c6) then true else c12)) (pick_b' _ _ _) ?_
      refine sim_cond (fun c13 => ?_) (fun c13 => ?_)
      · exact sim_ret (release_plain (by rfl) _)
      · refine sim_let (v := iv (((path_.getD []).length : Nat) : Int)) (Tab.enc [] path_).len ?_
        refine sim_bind ((tl0_impl_ValidPath env he_impl_within path_ n_ m_ band_ c6 c12) ⟨rfl, O⟩) (fun qq69 r hq => ?_)
        rcases qq69 with _ | q26
        · obtain ⟨z19, z20, z21, z22, z23, h17, rfl, O18⟩ := hq
          rw [e_lk0x0_impl_ValidPath]
          exact sim_ret (release_plain (by rfl) _)
        · obtain ⟨q27, z28, z29, z30, h24, rfl, O25⟩ := hq
          rw [e_lk0r_impl_ValidPath]
          exact sim_ret (release_plain (by rfl) _)
theorem tt_impl_ValidPath : PureOK Try.prog n_impl_ValidPath (C4 (fun c : Bool => enc c) t_impl_ValidPath) := pureC4 (Econs ok_impl_within E0) mixed hb_impl_ValidPath fun path_ n_ m_ band_ => ts_impl_ValidPath _ (by simp [envL]) path_ n_ m_ band_

def t_impl_pathable (a_ : Sl Feat) (b_ : Sl Feat) (path_ : Sl Pair) : Option Int :=
  obind (t_impl_ValidSeq a_) fun c1 =>
  obind (bif !c1 then some false else (obind (t_impl_ValidSeq b_) fun c3 => some (!c3))) fun c4 =>
  bif (bif !c1 then true else c4) then
    some 1
  else
    obind (t_impl_ValidPath path_ (((a_.getD []).length : Nat) : Int) (((b_.getD []).length : Nat) : Int) 72) fun c6 =>
    bif !c6 then
      some 2
    else
      some 0

theorem ts_impl_pathable (env : Nat → Contract) (he_impl_ValidPath : env n_impl_ValidPath = .pure (C4 (fun c : Bool => enc c) t_impl_ValidPath)) (he_impl_ValidSeq : env n_impl_ValidSeq = .pure (C1 (fun c : Bool => enc c) t_impl_ValidSeq)) (a_ : Sl Feat) (b_ : Sl Feat) (path_ : Sl Pair) : Sim (denFn Try.prog env n_impl_pathable [Sl.enc a_, Sl.enc b_, Sl.enc path_] []) (t_impl_pathable a_ b_ path_) fun c p => release p.2 depth p.1 = some ((fun c : Int => enc c) c) := by
  have O := Hold.nil []
  generalize hB : (⟨[], []⟩ : Base) = B at O
  clear hB
  rw [e_impl_pathable]
  unfold t_impl_pathable
  refine sim_call1 he_impl_ValidSeq (snapD_enc _ _) (fun c1 => ?_)
  refine sim_let2 (hand_plain (by rfl) _ _) ?_
  refine sim_let (v := bv (!c1)) (aUn_not _) ?_
  refine sim_guardF (e := bv) (fun hb2 => ?_) (fun c4 => ?_)
  · refine sim_call1 he_impl_ValidSeq (snapD_enc _ _) (fun c3 => ?_)
    refine sim_let2 (hand_plain (by rfl) _ _) ?_
    refine sim_let (v := bv (!c3)) (aUn_not _) ?_
    exact sim_ret rfl
  · refine sim_let (v := bv (bif !c1 then true else c4)) (pick_b' _ _ _) ?_
    refine sim_cond (fun c5 => ?_) (fun c5 => ?_)
    · exact sim_ret (release_plain (by rfl) _)
    · refine sim_let (v := iv (((a_.getD []).length : Nat) : Int)) (Tab.enc [] a_).len ?_
      refine sim_let (v := iv (((b_.getD []).length : Nat) : Int)) (Tab.enc [] b_).len ?_
      refine sim_call4 he_impl_ValidPath (snapD_enc _ _) (snapD_int _ _) (snapD_int _ _) (snapD_int _ _) (fun c6 => ?_)
      refine sim_let2 (hand_plain (by rfl) _ _) ?_
      refine sim_let (v := bv (!c6)) (aUn_not _) ?_
      refine sim_cond (fun c7 => ?_) (fun c7 => ?_)
      · exact sim_ret (release_plain (by rfl) _)
      · exact sim_ret (release_plain (by rfl) _)
theorem tt_impl_pathable : PureOK Try.prog n_impl_pathable (C3 (fun c : Int => enc c) t_impl_pathable) := pureC3 (Econs tt_impl_ValidPath (Econs tt_impl_ValidSeq E0)) mixed hb_impl_pathable fun a_ b_ path_ => ts_impl_pathable _ (by simp [envL]) (by simp [envL]) a_ b_ path_

def s0_impl_PathCost (a_ : Sl Feat) (b_ : Sl Feat) (path_ : Sl Pair) : (Int × Int) → Option (Sum (Int × Int) Int) := fun (w5, w6) =>
  bif decide (w6 < (((path_.getD []).length : Nat) : Int)) then
    obind (getI (path_.getD []) w6) fun a12 =>
    obind (getI (a_.getD []) a12.i) fun a22 =>
    obind (getI (b_.getD []) a12.j) fun a26 =>
    obind (t_impl_featCost a22 a26) fun c30 =>
    some (.inl (wr (w5 + c30), wr (w6 + 1)))
  else
    some (.inr w5)
def t_impl_PathCost (a_ : Sl Feat) (b_ : Sl Feat) (path_ : Sl Pair) : Option (Int × Int) :=
  obind (t_impl_pathable a_ b_ path_) fun c1 =>
  bif !decide (c1 = 0) then
    some (0, c1)
  else
    obind (loopT (s0_impl_PathCost a_ b_ path_) (0, 0)) fun q9 =>
    some (q9, 0)

theorem tl0_impl_PathCost (env : Nat → Contract) {B : Base} (he_impl_featCost : env n_impl_featCost = .pure (C2 (fun c : Int => enc c) t_impl_featCost)) (he_impl_pathable : env n_impl_pathable = .pure (C3 (fun c : Int => enc c) t_impl_pathable)) (a_ : Sl Feat) (b_ : Sl Feat) (path_ : Sl Pair) (c1 : Int)  {st : Int × Int} {tm : TM} {h : Heap} (R : (fun (st : Int × Int) tm h3 => match st with | (w5, w6) => tm = [Sl.enc a_, Sl.enc b_, Sl.enc path_, und, und, und, iv 0, iv 0, iv c1, iv w5, und, AV.top, Sl.enc a_, Sl.enc b_, Sl.enc path_, iv c1, iv c1, bv (!decide (c1 = 0)), und, Sl.enc path_, iv (((path_.getD []).length : Nat) : Int), iv w6, AV.top, AV.top, AV.top, AV.top, AV.top, AV.top, AV.top, AV.top, AV.top, AV.top, AV.top, AV.top, AV.top, AV.top, AV.top, AV.top, AV.top, und] ∧ Hold B h3 []) st tm h) : Sim (loopP hm0_impl_PathCost xm0_impl_PathCost (lb0_impl_PathCost env) tm h) (loopT (s0_impl_PathCost a_ b_ path_) st) (fun (q : Int) (r : Res) => match q with | q9 => ∃ (z10 : AV) (h7 : Heap), r = (.exit 0, [Sl.enc a_, Sl.enc b_, Sl.enc path_, und, und, und, iv 0, iv 0, iv c1, iv q9, und, z10, Sl.enc a_, Sl.enc b_, Sl.enc path_, iv c1, iv c1, bv (!decide (c1 = 0)), und, Sl.enc path_, iv (((path_.getD []).length : Nat) : Int), AV.top, AV.top, AV.top, AV.top, AV.top, AV.top, AV.top, AV.top, AV.top, AV.top, AV.top, AV.top, AV.top, AV.top, AV.top, AV.top, AV.top, AV.top, und], h7) ∧ Hold B h7 []) := by
  refine loop_sim (Rel := fun (st : Int × Int) tm h3 => match st with | (w5, w6) => tm = [Sl.enc a_, Sl.enc b_, Sl.enc path_, und, und, und, iv 0, iv 0, iv c1, iv w5, und, AV.top, Sl.enc a_, Sl.enc b_, Sl.enc path_, iv c1, iv c1, bv (!decide (c1 = 0)), und, Sl.enc path_, iv (((path_.getD []).length : Nat) : Int), iv w6, AV.top, AV.top, AV.top, AV.top, AV.top, AV.top, AV.top, AV.top, AV.top, AV.top, AV.top, AV.top, AV.top, AV.top, AV.top, AV.top, AV.top, und] ∧ Hold B h3 []) (fun st tm h3 R => ?_) R
  obtain ⟨w5, w6⟩ := st
  obtain ⟨rfl, O4⟩ := R
  rw [e_lb0_impl_PathCost]
  unfold s0_impl_PathCost
  dsimp only
  refine sim_let (v := bv (decide (w6 < (((path_.getD []).length : Nat) : Int)))) (aBin_lss _ _) ?_
  refine sim_cond (fun c11 => ?_) (fun c11 => ?_)
  · refine sim_get (Tab.enc h3 path_) (fun m13 a12 hi14 hm15 => ?_)
    refine sim_let (v := AV.agg [iv a12.i, iv a12.j]) ((Tab.enc h3 path_).ld hm15 true 2 0) ?_
    refine sim_box O4 (cs := [iv 0, iv 0]) (by first | rfl | simp) (fun o16 h17 O18 => ?_)
    replace O18 : Hold B h17 [(AV.ptr o16 1 0 0, .pt 2 [iv 0, iv 0])] := O18
    refine sim_store O18 0 (cs' := [iv a12.i, iv a12.j]) rfl (by first | rfl | simp) (by simp) (by first | rfl | simp) (by first | rfl | simp [splice]) (fun h20 O21 => ?_)
    replace O21 : Hold B h20 [(AV.ptr o16 1 0 0, .pt 2 [iv a12.i, iv a12.j])] := O21
    refine sim_let (v := AV.ptr o16 1 0 0) rfl ?_
    refine sim_let (v := iv a12.i) (O21.ld 0 rfl false 1 0) ?_
    refine sim_get (Tab.enc h20 a_) (fun m23 a22 hi24 hm25 => ?_)
    refine sim_let (v := AV.agg [iv a22.x, iv a22.y, iv a22.d]) ((Tab.enc h20 a_).ld hm25 true 3 0) ?_
    refine sim_let (v := AV.ptr o16 1 0 1) rfl ?_
    refine sim_let (v := iv a12.j) (O21.ld 0 rfl false 1 1) ?_
    refine sim_get (Tab.enc h20 b_) (fun m27 a26 hi28 hm29 => ?_)
    refine sim_let (v := AV.agg [iv a26.x, iv a26.y, iv a26.d]) ((Tab.enc h20 b_).ld hm29 true 3 0) ?_
    refine sim_callQ2 he_impl_featCost (snapD_nr _ a22 rfl) (snapD_nr _ a26 rfl) (fun c30 => ?_)
    refine sim_let2 (hand_plain (by rfl) _ _) ?_
    refine sim_let (v := iv (wr (w5 + c30))) (aBin_add _ _) ?_
    refine sim_let (v := iv (wr (w6 + 1))) (aBin_add _ _) ?_
    have O31 : Hold B h20 [] := O21.sel [] (by decide) rfl
    exact sim_ret ⟨rfl, rfl, O31⟩
  · exact sim_ret ⟨nofun, _, _, rfl, O4⟩
theorem ts_impl_PathCost (env : Nat → Contract) (he_impl_featCost : env n_impl_featCost = .pure (C2 (fun c : Int => enc c) t_impl_featCost)) (he_impl_pathable : env n_impl_pathable = .pure (C3 (fun c : Int => enc c) t_impl_pathable)) (a_ : Sl Feat) (b_ : Sl Feat) (path_ : Sl Pair) : Sim (denFn Try.prog env n_impl_PathCost [Sl.enc a_, Sl.enc b_, Sl.enc path_] []) (t_impl_PathCost a_ b_ path_) fun c p => release p.2 depth p.1 = some ((fun c : Int × Int => AV.tup [enc c.1, enc c.2]) c) := by
  have O := Hold.nil []
  generalize hB : (⟨[], []⟩ : Base) = B at O
  clear hB
  rw [e_impl_PathCost]
  unfold t_impl_PathCost
  refine sim_call3 he_impl_pathable (snapD_enc _ _) (snapD_enc _ _) (snapD_enc _ _) (fun c1 => ?_)
  refine sim_let2 (hand_plain (by rfl) _ _) ?_
  refine sim_let (v := bv (!decide (c1 = 0))) (aCmp_ne _ _) ?_
  refine sim_cond (fun c2 => ?_) (fun c2 => ?_)
  · exact sim_ret (release_plain (by rfl) _)
  · refine sim_let (v := iv (((path_.getD []).length : Nat) : Int)) (Tab.enc [] path_).len ?_
    refine sim_bind ((tl0_impl_PathCost env he_impl_featCost he_impl_pathable a_ b_ path_ c1) ⟨rfl, O⟩) (fun qq34 r hq => ?_)
    revert hq
    revert qq34
    intro q9 hq
    obtain ⟨z10, h7, rfl, O8⟩ := hq
    rw [e_lk0x0_impl_PathCost]
    exact sim_ret (release_plain (by rfl) _)
theorem tt_impl_PathCost : PureOK Try.prog n_impl_PathCost (C3 (fun c : Int × Int => AV.tup [enc c.1, enc c.2]) t_impl_PathCost) := pureC3 (Econs tt_impl_featCost (Econs tt_impl_pathable E0)) mixed hb_impl_PathCost fun a_ b_ path_ => ts_impl_PathCost _ (by simp [envL]) (by simp [envL]) a_ b_ path_

def t_laws_FnElastic (code_ : Sl UInt8) (more_ : Sl UInt8) : Option Bool :=
  obind (t_laws_a2Long code_ more_) fun c1 =>
  bif c1 then
    some true
  else
    obind (t_spec_A2Two code_) fun c3 =>
    obind (t_impl_Elastic c3.1 c3.2.1 c3.2.2) fun c10 =>
    obind (t_impl_Elastic c3.2.1 c3.1 c3.2.2) fun c11 =>
    obind (t_impl_Elastic c3.1 c3.1 0) fun c12 =>
    obind (t_impl_Elastic c3.1 c3.2.1 72) fun c13 =>
    obind (t_spec_BackFeats c3.1) fun c14 =>
    obind (t_spec_BackFeats c3.2.1) fun c19 =>
    obind (t_impl_Elastic c14.1 c19.1 72) fun c24 =>
    obind (bif !decide (c10.2 = 0) then some false else (some (!decide (c11.2 = 0)))) fun c26 =>
    obind (bif (bif !decide (c10.2 = 0) then true else c26) then some false else (some (!decide (c12.2 = 0)))) fun c28 =>
    obind (bif (bif (bif !decide (c10.2 = 0) then true else c26) then true else c28) then some false else (some (!decide (c13.2 = 0)))) fun c30 =>
    obind (bif (bif (bif (bif !decide (c10.2 = 0) then true else c26) then true else c28) then true else c30) then some false else (some (!decide (c24.2 = 0)))) fun c32 =>
    obind (bif (bif (bif (bif (bif !decide (c10.2 = 0) then true else c26) then true else c28) then true else c30) then true else c32) then some false else (some (!decide (c10.1 = c11.1)))) fun c34 =>
    obind (bif (bif (bif (bif (bif (bif !decide (c10.2 = 0) then true else c26) then true else c28) then true else c30) then true else c32) then true else c34) then some false else (some (!decide (c12.1 = 0)))) fun c36 =>
    obind (bif (bif (bif (bif (bif (bif (bif !decide (c10.2 = 0) then true else c26) then true else c28) then true else c30) then true else c32) then true else c34) then true else c36) then some false else (some (decide (c10.1 < c13.1)))) fun c38 =>
    obind (bif (bif (bif (bif (bif (bif (bif (bif !decide (c10.2 = 0) then true else c26) then true else c28) then true else c30) then true else c32) then true else c34) then true else c36) then true else c38) then some false else (some (!decide (c24.1 = c13.1)))) fun c40 =>
    bif (bif (bif (bif (bif (bif (bif (bif (bif !decide (c10.2 = 0) then true else c26) then true else c28) then true else c30) then true else c32) then true else c34) then true else c36) then true else c38) then true else c40) then
      some false
    else
      obind (t_spec_A2Path more_ (((c3.1.getD []).length : Nat) : Int) (((c3.2.1.getD []).length : Nat) : Int)) fun c42 =>
      obind (t_impl_PathCost c3.1 c3.2.1 c42) fun c47 =>
      obind (bif decide (c47.2 = 0) then (some (decide (c13.1 ≤ c47.1))) else some false) fun c49 =>
      obind (bif (bif decide (c47.2 = 0) then c49 else false) then (obind (t_impl_ValidPath c42 (((c3.1.getD []).length : Nat) : Int) (((c3.2.1.getD []).length : Nat) : Int) 72) fun c51 => some c51) else some false) fun c52 =>
      some (bif (bif decide (c47.2 = 0) then c49 else false) then c52 else false)

def s2_impl_ElasticPath (q23 : Sl Pair) : ((Sl Pair) × Int) → Option (Sum ((Sl Pair) × Int) (Sl Pair)) := fun (w33, w36) =>
  bif decide (w36 < (((q23.getD []).length : Nat) : Int)) then
    obind (getI (q23.getD []) w36) fun a44 =>
    obind (getI (w33.getD []) (wr ((wr ((((q23.getD []).length : Nat) : Int) - 1)) - w36))) fun a54 =>
    some (.inl ((setS w33 (wr ((wr ((((q23.getD []).length : Nat) : Int) - 1)) - w36)) a44), wr (w36 + 1)))
  else
    some (.inr w33)
def s1_impl_ElasticPath (c3 : (Sl (Sl Int))) (c67 : Int) (c68 : Ar6) : (Int × Int × Int) → Option (Sum (Int × Int × Int) (Int × Int)) := fun (w71, w72, w73) =>
  bif decide (w73 < 3) then
    obind (getI [(⟨c68.a0, c68.a1⟩ : Ar2), ⟨c68.a2, c68.a3⟩, ⟨c68.a4, c68.a5⟩] w73) fun a91 =>
    obind (bif decide (a91.a0 ≤ w71) then (some (decide (a91.a1 ≤ w72))) else some false) fun c99 =>
    obind (bif (bif decide (a91.a0 ≤ w71) then c99 else false) then (obind (getI (c3.getD []) (wr (w71 - a91.a0))) fun a104 => obind (getI (a104.getD []) (wr (w72 - a91.a1))) fun a110 => some (decide (a110 = c67))) else some false) fun c114 =>
    bif (bif (bif decide (a91.a0 ≤ w71) then c99 else false) then c114 else false) then
      some (.inr (wr (w71 - a91.a0), wr (w72 - a91.a1)))
    else
      some (.inl (w71, w72, wr (w73 + 1)))
  else
    some (.inr (w71, w72))
def s0_impl_ElasticPath (c3 : (Sl (Sl Int))) : ((Sl Pair) × Int × Int) → Option (Sum ((Sl Pair) × Int × Int) (Sl Pair)) := fun (w15, w18, w19) =>
  obind (bif decide (0 < w18) then some false else (some (decide (0 < w19)))) fun c65 =>
  bif (bif decide (0 < w18) then true else c65) then
    obind (t_impl_leastBefore c3 w18 w19) fun c67 =>
    obind (t_impl_stepsBack ) fun c68 =>
    obind (loopT (s1_impl_ElasticPath c3 c67 c68) (w18, w19, 0)) fun (q76, q77) =>
    obind (appO w15 ([(⟨q76, q77⟩ : Pair)] : List Pair)) fun _ =>
    some (.inl ((appS w15 ([(⟨q76, q77⟩ : Pair)] : List Pair)), q76, q77))
  else
    some (.inr w15)
def t_impl_ElasticPath (a_ : Sl Feat) (b_ : Sl Feat) (band_ : Int) : Option ((Sl Pair) × Int) :=
  obind (t_impl_matchable a_ b_ band_) fun c1 =>
  bif !decide (c1 = 0) then
    some ((none : Sl Pair), c1)
  else
    obind (t_impl_costTable a_ b_ band_) fun c3 =>
    obind (loopT (s0_impl_ElasticPath c3) ((some ([(⟨wr ((((a_.getD []).length : Nat) : Int) - 1), wr ((((b_.getD []).length : Nat) : Int) - 1)⟩ : Pair)] : List Pair)), wr ((((a_.getD []).length : Nat) : Int) - 1), wr ((((b_.getD []).length : Nat) : Int) - 1))) fun q23 =>
    obind (makeO (⟨0, 0⟩ : Pair) (((q23.getD []).length : Nat) : Int)) fun l32 =>
    obind (loopT (s2_impl_ElasticPath q23) ((some l32), 0)) fun q39 =>
    some (q39, 0)

theorem tl2_impl_ElasticPath (env : Nat → Contract) {B : Base} (he_impl_costTable : env n_impl_costTable = .pure (C3 (fun c : (Sl (Sl Int)) => rD c) t_impl_costTable)) (he_impl_leastBefore : env n_impl_leastBefore = .pure (C3 (fun c : Int => enc c) t_impl_leastBefore)) (he_impl_matchable : env n_impl_matchable = .pure (C3 (fun c : Int => enc c) t_impl_matchable)) (he_impl_stepsBack : env n_impl_stepsBack = .pure (C0 (fun c : Ar6 => enc c) t_impl_stepsBack)) (a_ : Sl Feat) (b_ : Sl Feat) (band_ : Int) (c1 : Int) (x5 : AV) (ps8 : PS (Sl Int)) (x10 : AV) (z22 : AV) (q23 : Sl Pair) (q24 : Int) (q25 : Int) (z26 : AV) (z27 : AV) (x28 : AV)  {st : (Sl Pair) × Int} {tm : TM} {h : Heap} (R : (fun (st : (Sl Pair) × Int) tm h34 => match st with | (w33, w36) => tm = ((Sl.enc a_) :: (Sl.enc b_) :: (iv band_) :: und :: und :: und :: nilS :: (iv 0) :: (iv c1) :: x5 :: (iv q24) :: (iv q25) :: z22 :: z26 :: und :: z27 :: x28 :: AV.top :: AV.top :: (Sl.enc a_) :: (Sl.enc b_) :: (iv band_) :: (iv c1) :: (iv c1) :: (bv (!decide (c1 = 0))) :: und :: (Sl.enc a_) :: (Sl.enc b_) :: (iv band_) :: x5 :: (Sl.enc a_) :: (iv (((a_.getD []).length : Nat) : Int)) :: (iv (wr ((((a_.getD []).length : Nat) : Int) - 1))) :: (Sl.enc b_) :: (iv (((b_.getD []).length : Nat) : Int)) :: (iv (wr ((((b_.getD []).length : Nat) : Int) - 1))) :: (iv (wr ((((a_.getD []).length : Nat) : Int) - 1))) :: (iv (wr ((((b_.getD []).length : Nat) : Int) - 1))) :: (AV.agg [iv (wr ((((a_.getD []).length : Nat) : Int) - 1)), iv (wr ((((b_.getD []).length : Nat) : Int) - 1))]) :: x10 :: AV.top :: AV.top :: AV.top :: AV.top :: AV.top :: AV.top :: AV.top :: AV.top :: AV.top :: AV.top :: AV.top :: AV.top :: AV.top :: AV.top :: AV.top :: AV.top :: AV.top :: AV.top :: AV.top :: AV.top :: AV.top :: AV.top :: AV.top :: AV.top :: AV.top :: AV.top :: AV.top :: AV.top :: AV.top :: AV.top :: AV.top :: AV.top :: AV.top :: AV.top :: AV.top :: AV.top :: AV.top :: AV.top :: AV.top :: AV.top :: AV.top :: AV.top :: AV.top :: AV.top :: AV.top :: AV.top :: AV.top :: AV.top :: AV.top :: AV.top :: AV.top :: AV.top :: AV.top :: AV.top :: AV.top :: AV.top :: z22 :: (iv (((q23.getD []).length : Nat) : Int)) :: x28 :: z22 :: (iv (((q23.getD []).length : Nat) : Int)) :: (iv w36) :: AV.top :: AV.top :: AV.top :: AV.top :: AV.top :: AV.top :: AV.top :: AV.top :: AV.top :: AV.top :: AV.top :: AV.top :: AV.top :: und :: []) ∧ Hold B h34 ([(z22, obS (q23 : Sl Pair)), (x28, obS (w33 : Sl Pair))] ++ D2 (A := (Sl Int)) x5 ps8)) st tm h) : Sim (loopP hm2_impl_ElasticPath xm2_impl_ElasticPath (lb2_impl_ElasticPath env) tm h) (loopT (s2_impl_ElasticPath q23) st) (fun (q : Sl Pair) (r : Res) => match q with | q39 => ∃ (z40 : AV) (z41 : AV) (h37 : Heap), r = (.exit 4, ((Sl.enc a_) :: (Sl.enc b_) :: (iv band_) :: und :: und :: und :: nilS :: (iv 0) :: (iv c1) :: x5 :: (iv q24) :: (iv q25) :: z22 :: z26 :: und :: z27 :: x28 :: z40 :: z41 :: (Sl.enc a_) :: (Sl.enc b_) :: (iv band_) :: (iv c1) :: (iv c1) :: (bv (!decide (c1 = 0))) :: und :: (Sl.enc a_) :: (Sl.enc b_) :: (iv band_) :: x5 :: (Sl.enc a_) :: (iv (((a_.getD []).length : Nat) : Int)) :: (iv (wr ((((a_.getD []).length : Nat) : Int) - 1))) :: (Sl.enc b_) :: (iv (((b_.getD []).length : Nat) : Int)) :: (iv (wr ((((b_.getD []).length : Nat) : Int) - 1))) :: (iv (wr ((((a_.getD []).length : Nat) : Int) - 1))) :: (iv (wr ((((b_.getD []).length : Nat) : Int) - 1))) :: (AV.agg [iv (wr ((((a_.getD []).length : Nat) : Int) - 1)), iv (wr ((((b_.getD []).length : Nat) : Int) - 1))]) :: x10 :: AV.top :: AV.top :: AV.top :: AV.top :: AV.top :: AV.top :: AV.top :: AV.top :: AV.top :: AV.top :: AV.top :: AV.top :: AV.top :: AV.top :: AV.top :: AV.top :: AV.top :: AV.top :: AV.top :: AV.top :: AV.top :: AV.top :: AV.top :: AV.top :: AV.top :: AV.top :: AV.top :: AV.top :: AV.top :: AV.top :: AV.top :: AV.top :: AV.top :: AV.top :: AV.top :: AV.top :: AV.top :: AV.top :: AV.top :: AV.top :: AV.top :: AV.top :: AV.top :: AV.top :: AV.top :: AV.top :: AV.top :: AV.top :: AV.top :: AV.top :: AV.top :: AV.top :: AV.top :: AV.top :: AV.top :: AV.top :: z22 :: (iv (((q23.getD []).length : Nat) : Int)) :: x28 :: z22 :: (iv (((q23.getD []).length : Nat) : Int)) :: AV.top :: AV.top :: AV.top :: AV.top :: AV.top :: AV.top :: AV.top :: AV.top :: AV.top :: AV.top :: AV.top :: AV.top :: AV.top :: AV.top :: und :: []), h37) ∧ Hold B h37 ([(z22, obS (q23 : Sl Pair)), (x28, obS (q39 : Sl Pair))] ++ D2 (A := (Sl Int)) x5 ps8)) := by
  refine loop_sim (Rel := fun (st : (Sl Pair) × Int) tm h34 => match st with | (w33, w36) => tm = ((Sl.enc a_) :: (Sl.enc b_) :: (iv band_) :: und :: und :: und :: nilS :: (iv 0) :: (iv c1) :: x5 :: (iv q24) :: (iv q25) :: z22 :: z26 :: und :: z27 :: x28 :: AV.top :: AV.top :: (Sl.enc a_) :: (Sl.enc b_) :: (iv band_) :: (iv c1) :: (iv c1) :: (bv (!decide (c1 = 0))) :: und :: (Sl.enc a_) :: (Sl.enc b_) :: (iv band_) :: x5 :: (Sl.enc a_) :: (iv (((a_.getD []).length : Nat) : Int)) :: (iv (wr ((((a_.getD []).length : Nat) : Int) - 1))) :: (Sl.enc b_) :: (iv (((b_.getD []).length : Nat) : Int)) :: (iv (wr ((((b_.getD []).length : Nat) : Int) - 1))) :: (iv (wr ((((a_.getD []).length : Nat) : Int) - 1))) :: (iv (wr ((((b_.getD []).length : Nat) : Int) - 1))) :: (AV.agg [iv (wr ((((a_.getD []).length : Nat) : Int) - 1)), iv (wr ((((b_.getD []).length : Nat) : Int) - 1))]) :: x10 :: AV.top :: AV.top :: AV.top :: AV.top :: AV.top :: AV.top :: AV.top :: AV.top :: AV.top :: AV.top :: AV.top :: AV.top :: AV.top :: AV.top :: AV.top :: AV.top :: AV.top :: AV.top :: AV.top :: AV.top :: AV.top :: AV.top :: AV.top :: AV.top :: AV.top :: AV.top :: AV.top :: AV.top :: AV.top :: AV.top :: AV.top :: AV.top :: AV.top :: AV.top :: AV.top :: AV.top :: AV.top :: AV.top :: AV.top :: AV.top :: AV.top :: AV.top :: AV.top :: AV.top :: AV.top :: AV.top :: AV.top :: AV.top :: AV.top :: AV.top :: AV.top :: AV.top :: AV.top :: AV.top :: AV.top :: AV.top :: z22 :: (iv (((q23.getD []).length : Nat) : Int)) :: x28 :: z22 :: (iv (((q23.getD []).length : Nat) : Int)) :: (iv w36) :: AV.top :: AV.top :: AV.top :: AV.top :: AV.top :: AV.top :: AV.top :: AV.top :: AV.top :: AV.top :: AV.top :: AV.top :: AV.top :: und :: []) ∧ Hold B h34 ([(z22, obS (q23 : Sl Pair)), (x28, obS (w33 : Sl Pair))] ++ D2 (A := (Sl Int)) x5 ps8)) (fun st tm h34 R => ?_) R
  obtain ⟨w33, w36⟩ := st
  obtain ⟨rfl, O35⟩ := R
  rw [e_lb2_impl_ElasticPath]
  unfold s2_impl_ElasticPath
  dsimp only
  refine sim_let (v := bv (decide (w36 < (((q23.getD []).length : Nat) : Int)))) (aBin_lss _ _) ?_
  refine sim_cond (fun c43 => ?_) (fun c43 => ?_)
  · refine sim_get (O35.tab (A := Pair) (s := q23) 0 rfl) (fun m45 a44 hi46 hm47 => ?_)
    refine sim_let (v := AV.agg [iv a44.i, iv a44.j]) ((O35.tab (A := Pair) (s := q23) 0 rfl).ld hm47 true 2 0) ?_
    refine sim_box O35 (cs := [iv 0, iv 0]) (by first | rfl | simp) (fun o48 h49 O50 => ?_)
    replace O50 : Hold B h49 ([(z22, obS (q23 : Sl Pair)), (x28, obS (w33 : Sl Pair)), (AV.ptr o48 1 0 0, .pt 2 [iv 0, iv 0])] ++ D2 (A := (Sl Int)) x5 ps8) := Hold.rot O50
    refine sim_store O50 2 (cs' := [iv a44.i, iv a44.j]) rfl (by first | rfl | simp) (by simp) (by first | rfl | simp) (by first | rfl | simp [splice]) (fun h52 O53 => ?_)
    replace O53 : Hold B h52 ([(z22, obS (q23 : Sl Pair)), (x28, obS (w33 : Sl Pair)), (AV.ptr o48 1 0 0, .pt 2 [iv a44.i, iv a44.j])] ++ D2 (A := (Sl Int)) x5 ps8) := O53
    refine sim_let (v := iv (((q23.getD []).length : Nat) : Int)) (O53.tab (A := Pair) (s := q23) 0 rfl).len ?_
    refine sim_let (v := iv (wr ((((q23.getD []).length : Nat) : Int) - 1))) (aBin_sub _ _) ?_
    refine sim_let (v := iv (wr ((wr ((((q23.getD []).length : Nat) : Int) - 1)) - w36))) (aBin_sub _ _) ?_
    refine sim_let (v := AV.agg [iv a44.i, iv a44.j]) (O53.ld 2 rfl true 2 0) ?_
    refine sim_get (O53.tab (A := Pair) (s := w33) 1 rfl) (fun m55 a54 hi56 hm57 => ?_)
    refine sim_set (A := Pair) O53 1 a44 rfl hi56 hm57 rfl (by simp) (by first | rfl | simp) (by first | rfl | simp [splice]) (fun h58 O59 => ?_)
    replace O59 : Hold B h58 ([(z22, obS (q23 : Sl Pair)), (x28, obS ((setS w33 (wr ((wr ((((q23.getD []).length : Nat) : Int) - 1)) - w36)) a44) : Sl Pair)), (AV.ptr o48 1 0 0, .pt 2 [iv a44.i, iv a44.j])] ++ D2 (A := (Sl Int)) x5 ps8) := O59
    refine sim_let (v := iv (wr (w36 + 1))) (aBin_add _ _) ?_
    have O60 : Hold B h58 ([(z22, obS (q23 : Sl Pair)), (x28, obS ((setS w33 (wr ((wr ((((q23.getD []).length : Nat) : Int) - 1)) - w36)) a44) : Sl Pair))] ++ D2 (A := (Sl Int)) x5 ps8) := O59.selD [0, 1] (by decide) rfl
    exact sim_ret ⟨rfl, rfl, O60⟩
  · exact sim_ret ⟨nofun, _, _, _, rfl, O35⟩
theorem tl1_impl_ElasticPath (env : Nat → Contract) {B : Base} (he_impl_costTable : env n_impl_costTable = .pure (C3 (fun c : (Sl (Sl Int)) => rD c) t_impl_costTable)) (he_impl_leastBefore : env n_impl_leastBefore = .pure (C3 (fun c : Int => enc c) t_impl_leastBefore)) (he_impl_matchable : env n_impl_matchable = .pure (C3 (fun c : Int => enc c) t_impl_matchable)) (he_impl_stepsBack : env n_impl_stepsBack = .pure (C0 (fun c : Ar6 => enc c) t_impl_stepsBack)) (a_ : Sl Feat) (b_ : Sl Feat) (band_ : Int) (c1 : Int) (c3 : (Sl (Sl Int))) (x5 : AV) (ps8 : PS (Sl Int)) (hp9 : pj ps8 = c3) (x10 : AV) (z14 : AV) (w15 : Sl Pair) (w18 : Int) (w19 : Int) (c65 : Bool) (c67 : Int) (c68 : Ar6)  {st : Int × Int × Int} {tm : TM} {h : Heap} (R : (fun (st : Int × Int × Int) tm h69 => match st with | (w71, w72, w73) => tm = ((Sl.enc a_) :: (Sl.enc b_) :: (iv band_) :: und :: und :: und :: nilS :: (iv 0) :: (iv c1) :: x5 :: (iv w71) :: (iv w72) :: z14 :: (iv c67) :: und :: AV.top :: und :: und :: und :: (Sl.enc a_) :: (Sl.enc b_) :: (iv band_) :: (iv c1) :: (iv c1) :: (bv (!decide (c1 = 0))) :: und :: (Sl.enc a_) :: (Sl.enc b_) :: (iv band_) :: x5 :: (Sl.enc a_) :: (iv (((a_.getD []).length : Nat) : Int)) :: (iv (wr ((((a_.getD []).length : Nat) : Int) - 1))) :: (Sl.enc b_) :: (iv (((b_.getD []).length : Nat) : Int)) :: (iv (wr ((((b_.getD []).length : Nat) : Int) - 1))) :: (iv (wr ((((a_.getD []).length : Nat) : Int) - 1))) :: (iv (wr ((((b_.getD []).length : Nat) : Int) - 1))) :: (AV.agg [iv (wr ((((a_.getD []).length : Nat) : Int) - 1)), iv (wr ((((b_.getD []).length : Nat) : Int) - 1))]) :: x10 :: (iv w18) :: (bv (decide (0 < w18))) :: (bv (decide (0 < w18))) :: AV.top :: (cond (decide (0 < w18)) und (bv c65)) :: (bv (bif decide (0 < w18) then true else c65)) :: x5 :: (iv w18) :: (iv w19) :: (iv c67) :: (AV.agg [iv c68.a0, iv c68.a1, iv c68.a2, iv c68.a3, iv c68.a4, iv c68.a5]) :: (iv w73) :: AV.top :: AV.top :: AV.top :: AV.top :: AV.top :: AV.top :: AV.top :: AV.top :: AV.top :: AV.top :: AV.top :: AV.top :: AV.top :: AV.top :: AV.top :: AV.top :: AV.top :: AV.top :: AV.top :: AV.top :: AV.top :: AV.top :: AV.top :: AV.top :: AV.top :: AV.top :: AV.top :: AV.top :: AV.top :: AV.top :: AV.top :: AV.top :: AV.top :: AV.top :: AV.top :: AV.top :: AV.top :: AV.top :: AV.top :: AV.top :: AV.top :: AV.top :: AV.top :: AV.top :: und :: und :: und :: und :: und :: und :: und :: und :: und :: und :: und :: und :: und :: und :: und :: und :: und :: und :: und :: und :: []) ∧ Hold B h69 ([(z14, obS (w15 : Sl Pair))] ++ D2 (A := (Sl Int)) x5 ps8)) st tm h) : Sim (loopP hm1_impl_ElasticPath xm1_impl_ElasticPath (lb1_impl_ElasticPath env) tm h) (loopT (s1_impl_ElasticPath c3 c67 c68) st) (fun (q : Int × Int) (r : Res) => match q with | (q76, q77) => ∃ (z78 : AV) (h74 : Heap), r = (.exit 2, ((Sl.enc a_) :: (Sl.enc b_) :: (iv band_) :: und :: und :: und :: nilS :: (iv 0) :: (iv c1) :: x5 :: (iv q76) :: (iv q77) :: z14 :: (iv c67) :: und :: z78 :: und :: und :: und :: (Sl.enc a_) :: (Sl.enc b_) :: (iv band_) :: (iv c1) :: (iv c1) :: (bv (!decide (c1 = 0))) :: und :: (Sl.enc a_) :: (Sl.enc b_) :: (iv band_) :: x5 :: (Sl.enc a_) :: (iv (((a_.getD []).length : Nat) : Int)) :: (iv (wr ((((a_.getD []).length : Nat) : Int) - 1))) :: (Sl.enc b_) :: (iv (((b_.getD []).length : Nat) : Int)) :: (iv (wr ((((b_.getD []).length : Nat) : Int) - 1))) :: (iv (wr ((((a_.getD []).length : Nat) : Int) - 1))) :: (iv (wr ((((b_.getD []).length : Nat) : Int) - 1))) :: (AV.agg [iv (wr ((((a_.getD []).length : Nat) : Int) - 1)), iv (wr ((((b_.getD []).length : Nat) : Int) - 1))]) :: x10 :: (iv w18) :: (bv (decide (0 < w18))) :: (bv (decide (0 < w18))) :: AV.top :: (cond (decide (0 < w18)) und (bv c65)) :: (bv (bif decide (0 < w18) then true else c65)) :: x5 :: (iv w18) :: (iv w19) :: (iv c67) :: (AV.agg [iv c68.a0, iv c68.a1, iv c68.a2, iv c68.a3, iv c68.a4, iv c68.a5]) :: AV.top :: AV.top :: AV.top :: AV.top :: AV.top :: AV.top :: AV.top :: AV.top :: AV.top :: AV.top :: AV.top :: AV.top :: AV.top :: AV.top :: AV.top :: AV.top :: AV.top :: AV.top :: AV.top :: AV.top :: AV.top :: AV.top :: AV.top :: AV.top :: AV.top :: AV.top :: AV.top :: AV.top :: AV.top :: AV.top :: AV.top :: AV.top :: AV.top :: AV.top :: AV.top :: AV.top :: AV.top :: AV.top :: AV.top :: AV.top :: AV.top :: AV.top :: AV.top :: AV.top :: AV.top :: und :: und :: und :: und :: und :: und :: und :: und :: und :: und :: und :: und :: und :: und :: und :: und :: und :: und :: und :: und :: []), h74) ∧ Hold B h74 ([(z14, obS (w15 : Sl Pair))] ++ D2 (A := (Sl Int)) x5 ps8)) := by
  refine loop_sim (Rel := fun (st : Int × Int × Int) tm h69 => match st with | (w71, w72, w73) => tm = ((Sl.enc a_) :: (Sl.enc b_) :: (iv band_) :: und :: und :: und :: nilS :: (iv 0) :: (iv c1) :: x5 :: (iv w71) :: (iv w72) :: z14 :: (iv c67) :: und :: AV.top :: und :: und :: und :: (Sl.enc a_) :: (Sl.enc b_) :: (iv band_) :: (iv c1) :: (iv c1) :: (bv (!decide (c1 = 0))) :: und :: (Sl.enc a_) :: (Sl.enc b_) :: (iv band_) :: x5 :: (Sl.enc a_) :: (iv (((a_.getD []).length : Nat) : Int)) :: (iv (wr ((((a_.getD []).length : Nat) : Int) - 1))) :: (Sl.enc b_) :: (iv (((b_.getD []).length : Nat) : Int)) :: (iv (wr ((((b_.getD []).length : Nat) : Int) - 1))) :: (iv (wr ((((a_.getD []).length : Nat) : Int) - 1))) :: (iv (wr ((((b_.getD []).length : Nat) : Int) - 1))) :: (AV.agg [iv (wr ((((a_.getD []).length : Nat) : Int) - 1)), iv (wr ((((b_.getD []).length : Nat) : Int) - 1))]) :: x10 :: (iv w18) :: (bv (decide (0 < w18))) :: (bv (decide (0 < w18))) :: AV.top :: (cond (decide (0 < w18)) und (bv c65)) :: (bv (bif decide (0 < w18) then true else c65)) :: x5 :: (iv w18) :: (iv w19) :: (iv c67) :: (AV.agg [iv c68.a0, iv c68.a1, iv c68.a2, iv c68.a3, iv c68.a4, iv c68.a5]) :: (iv w73) :: AV.top :: AV.top :: AV.top :: AV.top :: AV.top :: AV.top :: AV.top :: AV.top :: AV.top :: AV.top :: AV.top :: AV.top :: AV.top :: AV.top :: AV.top :: AV.top :: AV.top :: AV.top :: AV.top :: AV.top :: AV.top :: AV.top :: AV.top :: AV.top :: AV.top :: AV.top :: AV.top :: AV.top :: AV.top :: AV.top :: AV.top :: AV.top :: AV.top :: AV.top :: AV.top :: AV.top :: AV.top :: AV.top :: AV.top :: AV.top :: AV.top :: AV.top :: AV.top :: AV.top :: und :: und :: und :: und :: und :: und :: und :: und :: und :: und :: und :: und :: und :: und :: und :: und :: und :: und :: und :: und :: []) ∧ Hold B h69 ([(z14, obS (w15 : Sl Pair))] ++ D2 (A := (Sl Int)) x5 ps8)) (fun st tm h69 R => ?_) R
  obtain ⟨w71, w72, w73⟩ := st
  obtain ⟨rfl, O70⟩ := R
  rw [e_lb1_impl_ElasticPath]
  unfold s1_impl_ElasticPath
  dsimp only
  refine sim_let (v := bv (decide (w73 < 3))) (aBin_lss _ _) ?_
  refine sim_cond (fun c90 => ?_) (fun c90 => ?_)
  · refine sim_idxA6 (fun a91 => ?_)
    refine sim_box O70 (cs := [iv 0, iv 0]) (by first | rfl | simp) (fun o92 h93 O94 => ?_)
    replace O94 : Hold B h93 ([(z14, obS (w15 : Sl Pair)), (AV.ptr o92 1 0 0, .pt 2 [iv 0, iv 0])] ++ D2 (A := (Sl Int)) x5 ps8) := Hold.rot O94
    refine sim_store O94 1 (cs' := [iv a91.a0, iv a91.a1]) rfl (by first | rfl | simp) (by simp) (by first | rfl | simp) (by first | rfl | simp [splice]) (fun h96 O97 => ?_)
    replace O97 : Hold B h96 ([(z14, obS (w15 : Sl Pair)), (AV.ptr o92 1 0 0, .pt 2 [iv a91.a0, iv a91.a1])] ++ D2 (A := (Sl Int)) x5 ps8) := O97
    refine sim_let (v := AV.ptr o92 1 0 0) rfl ?_
    refine sim_let (v := iv a91.a0) (O97.ld 1 rfl false 1 0) ?_
    refine sim_let (v := bv (decide (a91.a0 ≤ w71))) (aBin_geq _ _) ?_
    refine sim_g4T (e := bv) (fun hb98 => ?_) (fun y100 y101 y102 c99 => ?_)
    · refine sim_o0 ?_
      refine sim_o1 ?_
      refine sim_let (v := AV.ptr o92 1 0 1) rfl ?_
      refine sim_o0 ?_
      refine sim_o1 ?_
      refine sim_let (v := iv a91.a1) (O97.ld 1 rfl false 1 1) ?_
      refine sim_o0 ?_
      refine sim_let (v := bv (decide (a91.a1 ≤ w72))) (aBin_geq _ _) ?_
      exact sim_ret rfl
    · refine sim_let (v := bv (bif decide (a91.a0 ≤ w71) then c99 else false)) (pick_b _ _ _) ?_
      refine sim_g15T (e := bv) (fun hb103 => ?_) (fun y115 y116 y117 y118 y119 y120 y121 y122 y123 y124 y125 y126 y127 y128 c114 => ?_)
      · refine sim_o0 ?_
        refine sim_o0 ?_
        refine sim_o1 ?_
        refine sim_let (v := AV.ptr o92 1 0 0) rfl ?_
        refine sim_o0 ?_
        refine sim_o1 ?_
        refine sim_let (v := iv a91.a0) (O97.ld 1 rfl false 1 0) ?_
        refine sim_o0 ?_
        refine sim_o1 ?_
        refine sim_let (v := iv (wr (w71 - a91.a0))) (aBin_sub _ _) ?_
        refine sim_o0 ?_
        refine sim_o1 ?_
        refine sim_getN (l := [(z14, obS (w15 : Sl Pair)), (AV.ptr o92 1 0 0, .pt 2 [iv a91.a0, iv a91.a1])]) (x := x5) (ps := ps8) (A := (Sl Int)) O97 hp9 (fun m105 a104 x108 hi106 hm107 hg109 => ?_)
        refine sim_o0 ?_
        refine sim_o1 ?_
        refine sim_let (v := x108) (D2.ld (l := [(z14, obS (w15 : Sl Pair)), (AV.ptr o92 1 0 0, .pt 2 [iv a91.a0, iv a91.a1])]) (x := x5) (ps := ps8) (A := (Sl Int)) O97 hm107 false 1 0) ?_
        refine sim_o0 ?_
        refine sim_o0 ?_
        refine sim_o1 ?_
        refine sim_let (v := AV.ptr o92 1 0 1) rfl ?_
        refine sim_o0 ?_
        refine sim_o1 ?_
        refine sim_let (v := iv a91.a1) (O97.ld 1 rfl false 1 1) ?_
        refine sim_o0 ?_
        refine sim_o1 ?_
        refine sim_let (v := iv (wr (w72 - a91.a1))) (aBin_sub _ _) ?_
        refine sim_o0 ?_
        refine sim_o1 ?_
        refine sim_get (D2.tab (l := [(z14, obS (w15 : Sl Pair)), (AV.ptr o92 1 0 0, .pt 2 [iv a91.a0, iv a91.a1])]) (x := x5) (ps := ps8) (A := (Sl Int)) O97 hm107) (fun m111 a110 hi112 hm113 => ?_)
        refine sim_o0 ?_
        refine sim_o1 ?_
        refine sim_let (v := iv a110) ((D2.tab (l := [(z14, obS (w15 : Sl Pair)), (AV.ptr o92 1 0 0, .pt 2 [iv a91.a0, iv a91.a1])]) (x := x5) (ps := ps8) (A := (Sl Int)) O97 hm107).ld hm113 false 1 0) ?_
        refine sim_o0 ?_
        refine sim_o0 ?_
        refine sim_let (v := bv (decide (a110 = c67))) (aCmp_eq _ _) ?_
        exact sim_ret rfl
      · refine sim_let (v := bv (bif (bif decide (a91.a0 ≤ w71) then c99 else false) then c114 else false)) (pick_b _ _ _) ?_
        refine sim_cond (fun c129 => ?_) (fun c129 => ?_)
        · refine sim_let (v := AV.ptr o92 1 0 0) rfl ?_
          refine sim_let (v := iv a91.a0) (O97.ld 1 rfl false 1 0) ?_
          refine sim_let (v := iv (wr (w71 - a91.a0))) (aBin_sub _ _) ?_
          refine sim_let (v := AV.ptr o92 1 0 1) rfl ?_
          refine sim_let (v := iv a91.a1) (O97.ld 1 rfl false 1 1) ?_
          refine sim_let (v := iv (wr (w72 - a91.a1))) (aBin_sub _ _) ?_
          have O130 : Hold B h96 ([(z14, obS (w15 : Sl Pair))] ++ D2 (A := (Sl Int)) x5 ps8) := O97.selD [0] (by decide) rfl
          exact sim_ret ⟨nofun, _, _, rfl, O130⟩
        · refine sim_let (v := iv (wr (w73 + 1))) (aBin_add _ _) ?_
          have O131 : Hold B h96 ([(z14, obS (w15 : Sl Pair))] ++ D2 (A := (Sl Int)) x5 ps8) := O97.selD [0] (by decide) rfl
          exact sim_ret ⟨rfl, rfl, O131⟩
  · exact sim_ret ⟨nofun, _, _, rfl, O70⟩
theorem tl0_impl_ElasticPath (env : Nat → Contract) {B : Base} (he_impl_costTable : env n_impl_costTable = .pure (C3 (fun c : (Sl (Sl Int)) => rD c) t_impl_costTable)) (he_impl_leastBefore : env n_impl_leastBefore = .pure (C3 (fun c : Int => enc c) t_impl_leastBefore)) (he_impl_matchable : env n_impl_matchable = .pure (C3 (fun c : Int => enc c) t_impl_matchable)) (he_impl_stepsBack : env n_impl_stepsBack = .pure (C0 (fun c : Ar6 => enc c) t_impl_stepsBack)) (a_ : Sl Feat) (b_ : Sl Feat) (band_ : Int) (c1 : Int) (c3 : (Sl (Sl Int))) (x5 : AV) (ps8 : PS (Sl Int)) (hp9 : pj ps8 = c3) (x10 : AV)  {st : (Sl Pair) × Int × Int} {tm : TM} {h : Heap} (R : (fun (st : (Sl Pair) × Int × Int) tm h16 => match st with | (w15, w18, w19) => ∃ z14, tm = ((Sl.enc a_) :: (Sl.enc b_) :: (iv band_) :: und :: und :: und :: nilS :: (iv 0) :: (iv c1) :: x5 :: (iv w18) :: (iv w19) :: z14 :: AV.top :: und :: AV.top :: und :: und :: und :: (Sl.enc a_) :: (Sl.enc b_) :: (iv band_) :: (iv c1) :: (iv c1) :: (bv (!decide (c1 = 0))) :: und :: (Sl.enc a_) :: (Sl.enc b_) :: (iv band_) :: x5 :: (Sl.enc a_) :: (iv (((a_.getD []).length : Nat) : Int)) :: (iv (wr ((((a_.getD []).length : Nat) : Int) - 1))) :: (Sl.enc b_) :: (iv (((b_.getD []).length : Nat) : Int)) :: (iv (wr ((((b_.getD []).length : Nat) : Int) - 1))) :: (iv (wr ((((a_.getD []).length : Nat) : Int) - 1))) :: (iv (wr ((((b_.getD []).length : Nat) : Int) - 1))) :: (AV.agg [iv (wr ((((a_.getD []).length : Nat) : Int) - 1)), iv (wr ((((b_.getD []).length : Nat) : Int) - 1))]) :: x10 :: AV.top :: AV.top :: AV.top :: AV.top :: AV.top :: AV.top :: AV.top :: AV.top :: AV.top :: AV.top :: AV.top :: AV.top :: AV.top :: AV.top :: AV.top :: AV.top :: AV.top :: AV.top :: AV.top :: AV.top :: AV.top :: AV.top :: AV.top :: AV.top :: AV.top :: AV.top :: AV.top :: AV.top :: AV.top :: AV.top :: AV.top :: AV.top :: AV.top :: AV.top :: AV.top :: AV.top :: AV.top :: AV.top :: AV.top :: AV.top :: AV.top :: AV.top :: AV.top :: AV.top :: AV.top :: AV.top :: AV.top :: AV.top :: AV.top :: AV.top :: AV.top :: AV.top :: AV.top :: AV.top :: AV.top :: AV.top :: und :: und :: und :: und :: und :: und :: und :: und :: und :: und :: und :: und :: und :: und :: und :: und :: und :: und :: und :: und :: []) ∧ Hold B h16 ([(z14, obS (w15 : Sl Pair))] ++ D2 (A := (Sl Int)) x5 ps8)) st tm h) : Sim (loopP hm0_impl_ElasticPath xm0_impl_ElasticPath (lb0_impl_ElasticPath env) tm h) (loopT (s0_impl_ElasticPath c3) st) (fun (q : Sl Pair) (r : Res) => match q with | q23 => ∃ (q24 : Int) (q25 : Int) (z22 : AV) (z26 : AV) (z27 : AV) (h20 : Heap), r = (.exit 0, ((Sl.enc a_) :: (Sl.enc b_) :: (iv band_) :: und :: und :: und :: nilS :: (iv 0) :: (iv c1) :: x5 :: (iv q24) :: (iv q25) :: z22 :: z26 :: und :: z27 :: und :: und :: und :: (Sl.enc a_) :: (Sl.enc b_) :: (iv band_) :: (iv c1) :: (iv c1) :: (bv (!decide (c1 = 0))) :: und :: (Sl.enc a_) :: (Sl.enc b_) :: (iv band_) :: x5 :: (Sl.enc a_) :: (iv (((a_.getD []).length : Nat) : Int)) :: (iv (wr ((((a_.getD []).length : Nat) : Int) - 1))) :: (Sl.enc b_) :: (iv (((b_.getD []).length : Nat) : Int)) :: (iv (wr ((((b_.getD []).length : Nat) : Int) - 1))) :: (iv (wr ((((a_.getD []).length : Nat) : Int) - 1))) :: (iv (wr ((((b_.getD []).length : Nat) : Int) - 1))) :: (AV.agg [iv (wr ((((a_.getD []).length : Nat) : Int) - 1)), iv (wr ((((b_.getD []).length : Nat) : Int) - 1))]) :: x10 :: AV.top :: AV.top :: AV.top :: AV.top :: AV.top :: AV.top :: AV.top :: AV.top :: AV.top :: AV.top :: AV.top :: AV.top :: AV.top :: AV.top :: AV.top :: AV.top :: AV.top :: AV.top :: AV.top :: AV.top :: AV.top :: AV.top :: AV.top :: AV.top :: AV.top :: AV.top :: AV.top :: AV.top :: AV.top :: AV.top :: AV.top :: AV.top :: AV.top :: AV.top :: AV.top :: AV.top :: AV.top :: AV.top :: AV.top :: AV.top :: AV.top :: AV.top :: AV.top :: AV.top :: AV.top :: AV.top :: AV.top :: AV.top :: AV.top :: AV.top :: AV.top :: AV.top :: AV.top :: AV.top :: AV.top :: AV.top :: und :: und :: und :: und :: und :: und :: und :: und :: und :: und :: und :: und :: und :: und :: und :: und :: und :: und :: und :: und :: []), h20) ∧ Hold B h20 ([(z22, obS (q23 : Sl Pair))] ++ D2 (A := (Sl Int)) x5 ps8)) := by
  refine loop_sim (Rel := fun (st : (Sl Pair) × Int × Int) tm h16 => match st with | (w15, w18, w19) => ∃ z14, tm = ((Sl.enc a_) :: (Sl.enc b_) :: (iv band_) :: und :: und :: und :: nilS :: (iv 0) :: (iv c1) :: x5 :: (iv w18) :: (iv w19) :: z14 :: AV.top :: und :: AV.top :: und :: und :: und :: (Sl.enc a_) :: (Sl.enc b_) :: (iv band_) :: (iv c1) :: (iv c1) :: (bv (!decide (c1 = 0))) :: und :: (Sl.enc a_) :: (Sl.enc b_) :: (iv band_) :: x5 :: (Sl.enc a_) :: (iv (((a_.getD []).length : Nat) : Int)) :: (iv (wr ((((a_.getD []).length : Nat) : Int) - 1))) :: (Sl.enc b_) :: (iv (((b_.getD []).length : Nat) : Int)) :: (iv (wr ((((b_.getD []).length : Nat) : Int) - 1))) :: (iv (wr ((((a_.getD []).length : Nat) : Int) - 1))) :: (iv (wr ((((b_.getD []).length : Nat) : Int) - 1))) :: (AV.agg [iv (wr ((((a_.getD []).length : Nat) : Int) - 1)), iv (wr ((((b_.getD []).length : Nat) : Int) - 1))]) :: x10 :: AV.top :: AV.top :: AV.top :: AV.top :: AV.top :: AV.top :: AV.top :: AV.top :: AV.top :: AV.top :: AV.top :: AV.top :: AV.top :: AV.top :: AV.top :: AV.top :: AV.top :: AV.top :: AV.top :: AV.top :: AV.top :: AV.top :: AV.top :: AV.top :: AV.top :: AV.top :: AV.top :: AV.top :: AV.top :: AV.top :: AV.top :: AV.top :: AV.top :: AV.top :: AV.top :: AV.top :: AV.top :: AV.top :: AV.top :: AV.top :: AV.top :: AV.top :: AV.top :: AV.top :: AV.top :: AV.top :: AV.top :: AV.top :: AV.top :: AV.top :: AV.top :: AV.top :: AV.top :: AV.top :: AV.top :: AV.top :: und :: und :: und :: und :: und :: und :: und :: und :: und :: und :: und :: und :: und :: und :: und :: und :: und :: und :: und :: und :: []) ∧ Hold B h16 ([(z14, obS (w15 : Sl Pair))] ++ D2 (A := (Sl Int)) x5 ps8)) (fun st tm h16 R => ?_) R
  obtain ⟨w15, w18, w19⟩ := st
  obtain ⟨z14, rfl, O17⟩ := R
  rw [e_lb0_impl_ElasticPath]
  unfold s0_impl_ElasticPath
  dsimp only
  refine sim_let (v := bv (decide (0 < w18))) (aBin_gtr _ _) ?_
  refine sim_guardF (e := bv) (fun hb64 => ?_) (fun c65 => ?_)
  · refine sim_let (v := bv (decide (0 < w19))) (aBin_gtr _ _) ?_
    exact sim_ret rfl
  · refine sim_let (v := bv (bif decide (0 < w18) then true else c65)) (pick_b' _ _ _) ?_
    refine sim_cond (fun c66 => ?_) (fun c66 => ?_)
    · refine sim_call3 he_impl_leastBefore ((D2.snapD (l := [(z14, obS (w15 : Sl Pair))]) (x := x5) (ps := ps8) (A := (Sl Int)) O17 hp9).2) (snapD_int _ _) (snapD_int _ _) (fun c67 => ?_)
      refine sim_let2 (hand_plain (by rfl) _ _) ?_
      refine sim_call0 he_impl_stepsBack  (fun c68 => ?_)
      refine sim_let2 (hand_plain (by rfl) _ _) ?_
      refine sim_bind ((tl1_impl_ElasticPath env he_impl_costTable he_impl_leastBefore he_impl_matchable he_impl_stepsBack a_ b_ band_ c1 c3 x5 ps8 hp9 x10 z14 w15 w18 w19 c65 c67 c68) ⟨rfl, O17⟩) (fun qq134 r hq => ?_)
      obtain ⟨q76, q77⟩ := qq134
      obtain ⟨z78, h74, rfl, O75⟩ := hq
      rw [e_lk1x2_impl_ElasticPath]
      refine sim_let (v := AV.agg [iv q76, iv q77]) (by first | rfl | simp [aBuild, aFill, splice]) ?_
      refine sim_build (A := Pair) O75 ([(⟨q76, q77⟩ : Pair)] : List Pair) rfl (by first | rfl | simp [aFillRows, zrows]) rfl (fun x79 h80 O81 => ?_)
      replace O81 : Hold B h80 ([(z14, obS (w15 : Sl Pair)), (x79, obS ((some ([(⟨q76, q77⟩ : Pair)] : List Pair)) : Sl Pair))] ++ D2 (A := (Sl Int)) x5 ps8) := Hold.rot O81
      refine sim_append (A := Pair) (s := w15) O81 0 ([(⟨q76, q77⟩ : Pair)] : List Pair) rfl (O81.src (A := Pair) (s := (some ([(⟨q76, q77⟩ : Pair)] : List Pair))) 1 rfl) (by decide) (fun x84 h85 O86 => ?_)
      replace O86 : Hold B h85 ([(x84, obS ((appS w15 ([(⟨q76, q77⟩ : Pair)] : List Pair)) : Sl Pair)), (x79, obS ((some ([(⟨q76, q77⟩ : Pair)] : List Pair)) : Sl Pair))] ++ D2 (A := (Sl Int)) x5 ps8) := O86
      have O88 : Hold B h85 ([(x84, obS ((appS w15 ([(⟨q76, q77⟩ : Pair)] : List Pair)) : Sl Pair))] ++ D2 (A := (Sl Int)) x5 ps8) := O86.selD [0] (by decide) rfl
      exact sim_ret ⟨rfl, _, rfl, O88⟩
    · exact sim_ret ⟨nofun, _, _, _, _, _, _, rfl, O17⟩
theorem ts_impl_ElasticPath (env : Nat → Contract) (he_impl_costTable : env n_impl_costTable = .pure (C3 (fun c : (Sl (Sl Int)) => rD c) t_impl_costTable)) (he_impl_leastBefore : env n_impl_leastBefore = .pure (C3 (fun c : Int => enc c) t_impl_leastBefore)) (he_impl_matchable : env n_impl_matchable = .pure (C3 (fun c : Int => enc c) t_impl_matchable)) (he_impl_stepsBack : env n_impl_stepsBack = .pure (C0 (fun c : Ar6 => enc c) t_impl_stepsBack)) (a_ : Sl Feat) (b_ : Sl Feat) (band_ : Int) : Sim (denFn Try.prog env n_impl_ElasticPath [Sl.enc a_, Sl.enc b_, iv band_] []) (t_impl_ElasticPath a_ b_ band_) fun c p => release p.2 depth p.1 = some ((fun c : (Sl Pair) × Int => AV.tup [rS c.1, enc c.2]) c) := by
  have O := Hold.nil []
  generalize hB : (⟨[], []⟩ : Base) = B at O
  clear hB
  rw [e_impl_ElasticPath]
  unfold t_impl_ElasticPath
  refine sim_call3 he_impl_matchable (snapD_enc _ _) (snapD_enc _ _) (snapD_int _ _) (fun c1 => ?_)
  refine sim_let2 (hand_plain (by rfl) _ _) ?_
  refine sim_let (v := bv (!decide (c1 = 0))) (aCmp_ne _ _) ?_
  refine sim_cond (fun c2 => ?_) (fun c2 => ?_)
  · exact sim_ret (release_plain (by rfl) _)
  · refine sim_call3 he_impl_costTable (snapD_enc _ _) (snapD_enc _ _) (snapD_int _ _) (fun c3 => ?_)
    refine sim_handN (l := []) (A := (Sl Int)) O (fun x5 ps8 h6 hp9 O7 => ?_)
    refine sim_let (v := iv (((a_.getD []).length : Nat) : Int)) (Tab.enc h6 a_).len ?_
    refine sim_let (v := iv (wr ((((a_.getD []).length : Nat) : Int) - 1))) (aBin_sub _ _) ?_
    refine sim_let (v := iv (((b_.getD []).length : Nat) : Int)) (Tab.enc h6 b_).len ?_
    refine sim_let (v := iv (wr ((((b_.getD []).length : Nat) : Int) - 1))) (aBin_sub _ _) ?_
    refine sim_let (v := AV.agg [iv (wr ((((a_.getD []).length : Nat) : Int) - 1)), iv (wr ((((b_.getD []).length : Nat) : Int) - 1))]) (by first | rfl | simp [aBuild, aFill, splice]) ?_
    refine sim_build (A := Pair) O7 ([(⟨wr ((((a_.getD []).length : Nat) : Int) - 1), wr ((((b_.getD []).length : Nat) : Int) - 1)⟩ : Pair)] : List Pair) rfl (by first | rfl | simp [aFillRows, zrows]) rfl (fun x10 h11 O12 => ?_)
    replace O12 : Hold B h11 ([(x10, obS ((some ([(⟨wr ((((a_.getD []).length : Nat) : Int) - 1), wr ((((b_.getD []).length : Nat) : Int) - 1)⟩ : Pair)] : List Pair)) : Sl Pair))] ++ D2 (A := (Sl Int)) x5 ps8) := Hold.rot O12
    refine sim_bind ((tl0_impl_ElasticPath env he_impl_costTable he_impl_leastBefore he_impl_matchable he_impl_stepsBack a_ b_ band_ c1 c3 x5 ps8 hp9 x10) ⟨_, rfl, O12⟩) (fun qq137 r hq => ?_)
    revert hq
    revert qq137
    intro q23 hq
    obtain ⟨q24, q25, z22, z26, z27, h20, rfl, O21⟩ := hq
    rw [e_lk0x0_impl_ElasticPath]
    refine sim_let (v := iv (((q23.getD []).length : Nat) : Int)) (O21.tab (A := Pair) (s := q23) 0 rfl).len ?_
    refine sim_make (A := Pair) O21 (⟨0, 0⟩ : Pair) rfl (by decide) (fun l32 x28 h29 O30 => ?_)
    replace O30 : Hold B h29 ([(z22, obS (q23 : Sl Pair)), (x28, obS ((some l32) : Sl Pair))] ++ D2 (A := (Sl Int)) x5 ps8) := Hold.rot O30
    refine sim_let (v := iv (((q23.getD []).length : Nat) : Int)) (O30.tab (A := Pair) (s := q23) 0 rfl).len ?_
    refine sim_bind ((tl2_impl_ElasticPath env he_impl_costTable he_impl_leastBefore he_impl_matchable he_impl_stepsBack a_ b_ band_ c1 x5 ps8 x10 z22 q23 q24 q25 z26 z27 x28) ⟨rfl, O30⟩) (fun qq63 r hq => ?_)
    revert hq
    revert qq63
    intro q39 hq
    obtain ⟨z40, z41, h37, rfl, O38⟩ := hq
    rw [e_lk2x4_impl_ElasticPath]
    have O42 : Hold B h37 [(x28, obS (q39 : Sl Pair))] := O38.left.sel [1] (by decide) rfl
    exact sim_ret (release_of (by simp only [ids_tup, ids_aggD, ids_agg, ids_iv, ids_bv, ids_sv, ids_bt, ids_nilS, ids_enc, O42.idsD (A := Pair) (s := q39) 0 rfl, List.map_append, List.map_nil, List.flatMap_cons, List.flatMap_nil, List.append_nil, List.nil_append]; simpa only [List.flatMap_cons, List.flatMap_nil, List.append_nil, List.nil_append] using O42.nd2) (by simp only [rel_tup, rel_aggD, rel_agg, rel_iv, rel_bv, rel_sv, rel_bt, rel_nilS, rel_enc, O42.relD (A := Pair) (s := q39) 0 rfl, omapc, omapn, obind_sm] <;> rfl))
theorem tt_impl_ElasticPath : PureOK Try.prog n_impl_ElasticPath (C3 (fun c : (Sl Pair) × Int => AV.tup [rS c.1, enc c.2]) t_impl_ElasticPath) := pureC3 (Econs tt_impl_costTable (Econs tt_impl_leastBefore (Econs tt_impl_matchable (Econs tt_impl_stepsBack E0)))) mixed hb_impl_ElasticPath fun a_ b_ band_ => ts_impl_ElasticPath _ (by simp [envL]) (by simp [envL]) (by simp [envL]) (by simp [envL]) a_ b_ band_

def s0_spec_l09Path (path_ : Sl Pair) (n_ : Int) (m_ : Int) (band_ : Int) : Int → Option (Sum Int (Sum Unit Bool)) := fun w16 =>
  bif decide (w16 < (((path_.getD []).length : Nat) : Int)) then
    obind (getI (path_.getD []) w16) fun a30 =>
    obind (some (within a30.i 0 (wr (n_ - 1)))) fun c40 =>
    obind (bif !c40 then some false else (obind (some (within a30.j 0 (wr (m_ - 1)))) fun c42 => some (!c42))) fun c43 =>
    obind (bif (bif !c40 then true else c43) then some false else (obind (t_spec_l09Size (wr (a30.i - a30.j))) fun c45 => some (decide (band_ < c45)))) fun c46 =>
    bif (bif (bif !c40 then true else c43) then true else c46) then
      some (.inr (.inr false))
    else
      bif decide (w16 = 0) then
        some (.inl (wr (w16 + 1)))
      else
        obind (getI (path_.getD []) (wr (w16 - 1))) fun a51 =>
        obind (some (within (wr (a30.i - a51.i)) 0 1)) fun c61 =>
        obind (bif !c61 then some false else (obind (some (within (wr (a30.j - a51.j)) 0 1)) fun c63 => some (!c63))) fun c64 =>
        obind (bif (bif !c61 then true else c64) then some false else (some (decide (a30 = a51)))) fun c66 =>
        bif (bif (bif !c61 then true else c64) then true else c66) then
          some (.inr (.inr false))
        else
          some (.inl (wr (w16 + 1)))
  else
    some (.inr (.inl ()))
def t_spec_l09Path (path_ : Sl Pair) (n_ : Int) (m_ : Int) (band_ : Int) : Option Bool :=
  obind (bif decide ((((path_.getD []).length : Nat) : Int) = 0) then some false else (obind (getI (path_.getD []) 0) fun a2 => some (!decide (a2 = (⟨0, 0⟩ : Pair))))) fun c6 =>
  obind (bif (bif decide ((((path_.getD []).length : Nat) : Int) = 0) then true else c6) then some false else (obind (getI (path_.getD []) (wr ((((path_.getD []).length : Nat) : Int) - 1))) fun a8 => some (!decide (a8 = (⟨wr (n_ - 1), wr (m_ - 1)⟩ : Pair))))) fun c12 =>
  bif (bif (bif decide ((((path_.getD []).length : Nat) : Int) = 0) then true else c6) then true else c12) then
    some false
  else
    obind (loopT (s0_spec_l09Path path_ n_ m_ band_) 0) fun qq72 => match qq72 with
    | (.inl _) =>
        some true
    | (.inr q25) =>
        some q25

theorem tl0_spec_l09Path (env : Nat → Contract) {B : Base} (he_spec_l00In : env n_spec_l00In = .pure (T3 within)) (he_spec_l09Size : env n_spec_l09Size = .pure (C1 (fun c : Int => enc c) t_spec_l09Size)) (path_ : Sl Pair) (n_ : Int) (m_ : Int) (band_ : Int) (c6 : Bool) (c12 : Bool)  {st : Int} {tm : TM} {h : Heap} (R : (fun (st : Int) tm h14 => match st with | w16 => tm = ((Sl.enc path_) :: (iv n_) :: (iv m_) :: (iv band_) :: und :: und :: und :: und :: AV.top :: (iv (((path_.getD []).length : Nat) : Int)) :: (iv w16) :: AV.top :: AV.top :: (Sl.enc path_) :: (iv (((path_.getD []).length : Nat) : Int)) :: (iv (((path_.getD []).length : Nat) : Int)) :: (bv (decide ((((path_.getD []).length : Nat) : Int) = 0))) :: (bv (decide ((((path_.getD []).length : Nat) : Int) = 0))) :: AV.top :: AV.top :: AV.top :: AV.top :: (cond (decide ((((path_.getD []).length : Nat) : Int) = 0)) und (bv c6)) :: (bv (bif decide ((((path_.getD []).length : Nat) : Int) = 0) then true else c6)) :: (bv (bif decide ((((path_.getD []).length : Nat) : Int) = 0) then true else c6)) :: AV.top :: AV.top :: AV.top :: AV.top :: AV.top :: AV.top :: AV.top :: AV.top :: AV.top :: AV.top :: (cond (bif decide ((((path_.getD []).length : Nat) : Int) = 0) then true else c6) und (bv c12)) :: (bv (bif (bif decide ((((path_.getD []).length : Nat) : Int) = 0) then true else c6) then true else c12)) :: AV.top :: AV.top :: AV.top :: AV.top :: AV.top :: AV.top :: AV.top :: AV.top :: AV.top :: AV.top :: AV.top :: AV.top :: AV.top :: AV.top :: AV.top :: AV.top :: AV.top :: AV.top :: AV.top :: AV.top :: AV.top :: AV.top :: AV.top :: AV.top :: AV.top :: AV.top :: AV.top :: AV.top :: AV.top :: AV.top :: AV.top :: AV.top :: AV.top :: AV.top :: AV.top :: AV.top :: AV.top :: AV.top :: AV.top :: AV.top :: AV.top :: AV.top :: AV.top :: AV.top :: AV.top :: AV.top :: AV.top :: AV.top :: AV.top :: AV.top :: AV.top :: AV.top :: AV.top :: AV.top :: AV.top :: AV.top :: AV.top :: AV.top :: AV.top :: AV.top :: AV.top :: []) ∧ Hold B h14 []) st tm h) : Sim (loopP hm0_spec_l09Path xm0_spec_l09Path (lb0_spec_l09Path env) tm h) (loopT (s0_spec_l09Path path_ n_ m_ band_) st) (fun (q : Sum Unit Bool) (r : Res) => match q with | .inl _ => ∃ (q20 : Int) (z19 : AV) (z21 : AV) (z22 : AV) (h17 : Heap), r = (.exit 0, ((Sl.enc path_) :: (iv n_) :: (iv m_) :: (iv band_) :: und :: und :: und :: und :: z19 :: (iv (((path_.getD []).length : Nat) : Int)) :: (iv q20) :: z21 :: z22 :: (Sl.enc path_) :: (iv (((path_.getD []).length : Nat) : Int)) :: (iv (((path_.getD []).length : Nat) : Int)) :: (bv (decide ((((path_.getD []).length : Nat) : Int) = 0))) :: (bv (decide ((((path_.getD []).length : Nat) : Int) = 0))) :: AV.top :: AV.top :: AV.top :: AV.top :: (cond (decide ((((path_.getD []).length : Nat) : Int) = 0)) und (bv c6)) :: (bv (bif decide ((((path_.getD []).length : Nat) : Int) = 0) then true else c6)) :: (bv (bif decide ((((path_.getD []).length : Nat) : Int) = 0) then true else c6)) :: AV.top :: AV.top :: AV.top :: AV.top :: AV.top :: AV.top :: AV.top :: AV.top :: AV.top :: AV.top :: (cond (bif decide ((((path_.getD []).length : Nat) : Int) = 0) then true else c6) und (bv c12)) :: (bv (bif (bif decide ((((path_.getD []).length : Nat) : Int) = 0) then true else c6) then true else c12)) :: AV.top :: AV.top :: AV.top :: AV.top :: AV.top :: AV.top :: AV.top :: AV.top :: AV.top :: AV.top :: AV.top :: AV.top :: AV.top :: AV.top :: AV.top :: AV.top :: AV.top :: AV.top :: AV.top :: AV.top :: AV.top :: AV.top :: AV.top :: AV.top :: AV.top :: AV.top :: AV.top :: AV.top :: AV.top :: AV.top :: AV.top :: AV.top :: AV.top :: AV.top :: AV.top :: AV.top :: AV.top :: AV.top :: AV.top :: AV.top :: AV.top :: AV.top :: AV.top :: AV.top :: AV.top :: AV.top :: AV.top :: AV.top :: AV.top :: AV.top :: AV.top :: AV.top :: AV.top :: AV.top :: AV.top :: AV.top :: AV.top :: AV.top :: AV.top :: AV.top :: AV.top :: []), h17) ∧ Hold B h17 [] | .inr q25 => ∃ (q26 : Int) (z27 : AV) (z28 : AV) (h23 : Heap), r = (.ret, ((Sl.enc path_) :: (iv n_) :: (iv m_) :: (iv band_) :: und :: und :: und :: und :: (bv q25) :: (iv (((path_.getD []).length : Nat) : Int)) :: (iv q26) :: z27 :: z28 :: (Sl.enc path_) :: (iv (((path_.getD []).length : Nat) : Int)) :: (iv (((path_.getD []).length : Nat) : Int)) :: (bv (decide ((((path_.getD []).length : Nat) : Int) = 0))) :: (bv (decide ((((path_.getD []).length : Nat) : Int) = 0))) :: AV.top :: AV.top :: AV.top :: AV.top :: (cond (decide ((((path_.getD []).length : Nat) : Int) = 0)) und (bv c6)) :: (bv (bif decide ((((path_.getD []).length : Nat) : Int) = 0) then true else c6)) :: (bv (bif decide ((((path_.getD []).length : Nat) : Int) = 0) then true else c6)) :: AV.top :: AV.top :: AV.top :: AV.top :: AV.top :: AV.top :: AV.top :: AV.top :: AV.top :: AV.top :: (cond (bif decide ((((path_.getD []).length : Nat) : Int) = 0) then true else c6) und (bv c12)) :: (bv (bif (bif decide ((((path_.getD []).length : Nat) : Int) = 0) then true else c6) then true else c12)) :: AV.top :: AV.top :: AV.top :: AV.top :: AV.top :: AV.top :: AV.top :: AV.top :: AV.top :: AV.top :: AV.top :: AV.top :: AV.top :: AV.top :: AV.top :: AV.top :: AV.top :: AV.top :: AV.top :: AV.top :: AV.top :: AV.top :: AV.top :: AV.top :: AV.top :: AV.top :: AV.top :: AV.top :: AV.top :: AV.top :: AV.top :: AV.top :: AV.top :: AV.top :: AV.top :: AV.top :: AV.top :: AV.top :: AV.top :: AV.top :: AV.top :: AV.top :: AV.top :: AV.top :: AV.top :: AV.top :: AV.top :: AV.top :: AV.top :: AV.top :: AV.top :: AV.top :: AV.top :: AV.top :: AV.top :: AV.top :: AV.top :: AV.top :: AV.top :: AV.top :: AV.top :: []), h23) ∧ Hold B h23 []) := by
  refine loop_sim (Rel := fun (st : Int) tm h14 => match st with | w16 => tm = ((Sl.enc path_) :: (iv n_) :: (iv m_) :: (iv band_) :: und :: und :: und :: und :: AV.top :: (iv (((path_.getD []).length : Nat) : Int)) :: (iv w16) :: AV.top :: AV.top :: (Sl.enc path_) :: (iv (((path_.getD []).length : Nat) : Int)) :: (iv (((path_.getD []).length : Nat) : Int)) :: (bv (decide ((((path_.getD []).length : Nat) : Int) = 0))) :: (bv (decide ((((path_.getD []).length : Nat) : Int) = 0))) :: AV.top :: AV.top :: AV.top :: AV.top :: (cond (decide ((((path_.getD []).length : Nat) : Int) = 0)) und (bv c6)) :: (bv (bif decide ((((path_.getD []).length : Nat) : Int) = 0) then true else c6)) :: (bv (bif decide ((((path_.getD []).length : Nat) : Int) = 0) then true else c6)) :: AV.top :: AV.top :: AV.top :: AV.top :: AV.top :: AV.top :: AV.top :: AV.top :: AV.top :: AV.top :: (cond (bif decide ((((path_.getD []).length : Nat) : Int) = 0) then true else c6) und (bv c12)) :: (bv (bif (bif decide ((((path_.getD []).length : Nat) : Int) = 0) then true else c6) then true else c12)) :: AV.top :: AV.top :: AV.top :: AV.top :: AV.top :: AV.top :: AV.top :: AV.top :: AV.top :: AV.top :: AV.top :: AV.top :: AV.top :: AV.top :: AV.top :: AV.top :: AV.top :: AV.top :: AV.top :: AV.top :: AV.top :: AV.top :: AV.top :: AV.top :: AV.top :: AV.top :: AV.top :: AV.top :: AV.top :: AV.top :: AV.top :: AV.top :: AV.top :: AV.top :: AV.top :: AV.top :: AV.top :: AV.top :: AV.top :: AV.top :: AV.top :: AV.top :: AV.top :: AV.top :: AV.top :: AV.top :: AV.top :: AV.top :: AV.top :: AV.top :: AV.top :: AV.top :: AV.top :: AV.top :: AV.top :: AV.top :: AV.top :: AV.top :: AV.top :: AV.top :: AV.top :: []) ∧ Hold B h14 []) (fun w16 tm h14 R => ?_) R
  obtain ⟨rfl, O15⟩ := R
  rw [e_lb0_spec_l09Path]
  unfold s0_spec_l09Path
  dsimp only
  refine sim_let (v := bv (decide (w16 < (((path_.getD []).length : Nat) : Int)))) (aBin_lss _ _) ?_
  refine sim_cond (fun c29 => ?_) (fun c29 => ?_)
  · refine sim_get (Tab.enc h14 path_) (fun m31 a30 hi32 hm33 => ?_)
    refine sim_let (v := AV.agg [iv a30.i, iv a30.j]) ((Tab.enc h14 path_).ld hm33 true 2 0) ?_
    refine sim_box O15 (cs := [iv 0, iv 0]) (by first | rfl | simp) (fun o34 h35 O36 => ?_)
    replace O36 : Hold B h35 [(AV.ptr o34 1 0 0, .pt 2 [iv 0, iv 0])] := O36
    refine sim_store O36 0 (cs' := [iv a30.i, iv a30.j]) rfl (by first | rfl | simp) (by simp) (by first | rfl | simp) (by first | rfl | simp [splice]) (fun h38 O39 => ?_)
    replace O39 : Hold B h38 [(AV.ptr o34 1 0 0, .pt 2 [iv a30.i, iv a30.j])] := O39
    refine sim_let (v := AV.ptr o34 1 0 0) rfl ?_
    refine sim_let (v := iv a30.i) (O39.ld 0 rfl false 1 0) ?_
    refine sim_let (v := iv (wr (n_ - 1))) (aBin_sub _ _) ?_
    refine sim_callV3 (t := within) he_spec_l00In (snapD_int _ _) (snapD_int _ _) (snapD_int _ _) (fun c40 => ?_)
    refine sim_let (v := bv (!c40)) (aUn_not _) ?_
    refine sim_guardF (e := bv) (fun hb41 => ?_) (fun c43 => ?_)
    · refine sim_let (v := AV.ptr o34 1 0 1) rfl ?_
      refine sim_let (v := iv a30.j) (O39.ld 0 rfl false 1 1) ?_
      refine sim_let (v := iv (wr (m_ - 1))) (aBin_sub _ _) ?_
      refine sim_callV3 (t := within) he_spec_l00In (snapD_int _ _) (snapD_int _ _) (snapD_int _ _) (fun c42 => ?_)
      refine sim_let (v := bv (!c42)) (aUn_not _) ?_
      exact sim_ret rfl
    · refine sim_let (v := bv (bif !c40 then true else c43)) (pick_b' _ _ _) ?_
      refine sim_guardF (e := bv) (fun hb44 => ?_) (fun c46 => ?_)
      · refine sim_let (v := AV.ptr o34 1 0 0) rfl ?_
        refine sim_let (v := iv a30.i) (O39.ld 0 rfl false 1 0) ?_
        refine sim_let (v := AV.ptr o34 1 0 1) rfl ?_
        refine sim_let (v := iv a30.j) (O39.ld 0 rfl false 1 1) ?_
        refine sim_let (v := iv (wr (a30.i - a30.j))) (aBin_sub _ _) ?_
        refine sim_call1 he_spec_l09Size (snapD_int _ _) (fun c45 => ?_)
        refine sim_let2 (hand_plain (by rfl) _ _) ?_
        refine sim_let (v := bv (decide (band_ < c45))) (aBin_gtr _ _) ?_
        exact sim_ret rfl
      · refine sim_let (v := bv (bif (bif !c40 then true else c43) then true else c46)) (pick_b' _ _ _) ?_
        refine sim_cond (fun c47 => ?_) (fun c47 => ?_)
        · have O48 : Hold B h38 [] := O39.sel [] (by decide) rfl
          exact sim_ret ⟨nofun, _, _, _, _, rfl, O48⟩
        · refine sim_let (v := bv (decide (w16 = 0))) (aCmp_eq _ _) ?_
          refine sim_cond (fun c49 => ?_) (fun c49 => ?_)
          · refine sim_let (v := iv (wr (w16 + 1))) (aBin_add _ _) ?_
            have O50 : Hold B h38 [] := O39.sel [] (by decide) rfl
            exact sim_ret ⟨rfl, rfl, O50⟩
          · refine sim_let (v := iv (wr (w16 - 1))) (aBin_sub _ _) ?_
            refine sim_get (Tab.enc h38 path_) (fun m52 a51 hi53 hm54 => ?_)
            refine sim_let (v := AV.agg [iv a51.i, iv a51.j]) ((Tab.enc h38 path_).ld hm54 true 2 0) ?_
            refine sim_box O39 (cs := [iv 0, iv 0]) (by first | rfl | simp) (fun o55 h56 O57 => ?_)
            replace O57 : Hold B h56 [(AV.ptr o34 1 0 0, .pt 2 [iv a30.i, iv a30.j]), (AV.ptr o55 1 0 0, .pt 2 [iv 0, iv 0])] := O57
            refine sim_store O57 1 (cs' := [iv a51.i, iv a51.j]) rfl (by first | rfl | simp) (by simp) (by first | rfl | simp) (by first | rfl | simp [splice]) (fun h59 O60 => ?_)
            replace O60 : Hold B h59 [(AV.ptr o34 1 0 0, .pt 2 [iv a30.i, iv a30.j]), (AV.ptr o55 1 0 0, .pt 2 [iv a51.i, iv a51.j])] := O60
            refine sim_let (v := AV.ptr o34 1 0 0) rfl ?_
            refine sim_let (v := iv a30.i) (O60.ld 0 rfl false 1 0) ?_
            refine sim_let (v := AV.ptr o55 1 0 0) rfl ?_
            refine sim_let (v := iv a51.i) (O60.ld 1 rfl false 1 0) ?_
            refine sim_let (v := iv (wr (a30.i - a51.i))) (aBin_sub _ _) ?_
            refine sim_callV3 (t := within) he_spec_l00In (snapD_int _ _) (snapD_int _ _) (snapD_int _ _) (fun c61 => ?_)
            refine sim_let (v := bv (!c61)) (aUn_not _) ?_
            refine sim_guardF (e := bv) (fun hb62 => ?_) (fun c64 => ?_)
            · refine sim_let (v := AV.ptr o34 1 0 1) rfl ?_
              refine sim_let (v := iv a30.j) (O60.ld 0 rfl false 1 1) ?_
              refine sim_let (v := AV.ptr o55 1 0 1) rfl ?_
              refine sim_let (v := iv a51.j) (O60.ld 1 rfl false 1 1) ?_
              refine sim_let (v := iv (wr (a30.j - a51.j))) (aBin_sub _ _) ?_
              refine sim_callV3 (t := within) he_spec_l00In (snapD_int _ _) (snapD_int _ _) (snapD_int _ _) (fun c63 => ?_)
              refine sim_let (v := bv (!c63)) (aUn_not _) ?_
              exact sim_ret rfl
            · refine sim_let (v := bv (bif !c61 then true else c64)) (pick_b' _ _ _) ?_
              refine sim_guardF (e := bv) (fun hb65 => ?_) (fun c66 => ?_)
              · refine sim_let (v := AV.agg [iv a30.i, iv a30.j]) (O60.ld 0 rfl true 2 0) ?_
                refine sim_let (v := AV.agg [iv a51.i, iv a51.j]) (O60.ld 1 rfl true 2 0) ?_
                refine sim_let (v := bv (decide (a30 = a51))) (aCmp_Pair a30 a51).1 ?_
                exact sim_ret rfl
              · refine sim_let (v := bv (bif (bif !c61 then true else c64) then true else c66)) (pick_b' _ _ _) ?_
                refine sim_cond (fun c67 => ?_) (fun c67 => ?_)
                · have O68 : Hold B h59 [] := O60.sel [] (by decide) rfl
                  exact sim_ret ⟨nofun, _, _, _, _, rfl, O68⟩
                · refine sim_let (v := iv (wr (w16 + 1))) (aBin_add _ _) ?_
                  have O69 : Hold B h59 [] := O60.sel [] (by decide) rfl
                  exact sim_ret ⟨rfl, rfl, O69⟩
  · exact sim_ret ⟨nofun, _, _, _, _, _, rfl, O15⟩
theorem ts_spec_l09Path (env : Nat → Contract) (he_spec_l00In : env n_spec_l00In = .pure (T3 within)) (he_spec_l09Size : env n_spec_l09Size = .pure (C1 (fun c : Int => enc c) t_spec_l09Size)) (path_ : Sl Pair) (n_ : Int) (m_ : Int) (band_ : Int) : Sim (denFn Try.prog env n_spec_l09Path [Sl.enc path_, iv n_, iv m_, iv band_] []) (t_spec_l09Path path_ n_ m_ band_) fun c p => release p.2 depth p.1 = some ((fun c : Bool => enc c) c) := by
  have O := Hold.nil []
  generalize hB : (⟨[], []⟩ : Base) = B at O
  clear hB
  rw [e_spec_l09Path]
  unfold t_spec_l09Path
  refine sim_let (v := iv (((path_.getD []).length : Nat) : Int)) (Tab.enc [] path_).len ?_
  refine sim_let (v := bv (decide ((((path_.getD []).length : Nat) : Int) = 0))) (aCmp_eq _ _) ?_
  refine sim_guardF (e := bv) (fun hb1 => ?_) (fun c6 => ?_)
  · refine sim_get (Tab.enc [] path_) (fun m3 a2 hi4 hm5 => ?_)
    refine sim_let (v := AV.agg [iv a2.i, iv a2.j]) ((Tab.enc [] path_).ld hm5 true 2 0) ?_
    refine sim_let (v := AV.agg [iv 0, iv 0]) (by first | rfl | simp [aBuild, aFill, splice]) ?_
    refine sim_let (v := bv (!decide (a2 = (⟨0, 0⟩ : Pair)))) (aCmp_Pair a2 (⟨0, 0⟩ : Pair)).2 ?_
    exact sim_ret rfl
  · refine sim_let (v := bv (bif decide ((((path_.getD []).length : Nat) : Int) = 0) then true else c6)) (pick_b' _ _ _) ?_
    refine sim_guardF (e := bv) (fun hb7 => ?_) (fun c12 => ?_)
    · refine sim_let (v := iv (wr ((((path_.getD []).length : Nat) : Int) - 1))) (aBin_sub _ _) ?_
      refine sim_get (Tab.enc [] path_) (fun m9 a8 hi10 hm11 => ?_)
      refine sim_let (v := AV.agg [iv a8.i, iv a8.j]) ((Tab.enc [] path_).ld hm11 true 2 0) ?_
      refine sim_let (v := iv (wr (n_ - 1))) (aBin_sub _ _) ?_
      refine sim_let (v := iv (wr (m_ - 1))) (aBin_sub _ _) ?_
      refine sim_let (v := AV.agg [iv (wr (n_ - 1)), iv (wr (m_ - 1))]) (by first | rfl | simp [aBuild, aFill, splice]) ?_
      refine sim_let (v := bv (!decide (a8 = (⟨wr (n_ - 1), wr (m_ - 1)⟩ : Pair)))) (aCmp_Pair a8 (⟨wr (n_ - 1), wr (m_ - 1)⟩ : Pair)).2 ?_
      exact sim_ret rfl
    · refine sim_let (v := bv (bif (bif decide ((((path_.getD []).length : Nat) : Int) = 0) then true else c6) then true else c12)) (pick_b' _ _ _) ?_
      refine sim_cond (fun c13 => ?_) (fun c13 => ?_)
      · exact sim_ret (release_plain (by rfl) _)
      · refine sim_bind ((tl0_spec_l09Path env he_spec_l00In he_spec_l09Size path_ n_ m_ band_ c6 c12) ⟨rfl, O⟩) (fun qq72 r hq => ?_)
        rcases qq72 with _ | q25
        · obtain ⟨q20, z19, z21, z22, h17, rfl, O18⟩ := hq
          rw [e_lk0x0_spec_l09Path]
          exact sim_ret (release_plain (by rfl) _)
        · obtain ⟨q26, z27, z28, h23, rfl, O24⟩ := hq
          rw [e_lk0r_spec_l09Path]
          exact sim_ret (release_plain (by rfl) _)
theorem tt_spec_l09Path : PureOK Try.prog n_spec_l09Path (C4 (fun c : Bool => enc c) t_spec_l09Path) := pureC4 (Econs ok_spec_l00In (Econs tt_spec_l09Size E0)) mixed hb_spec_l09Path fun path_ n_ m_ band_ => ts_spec_l09Path _ (by simp [envL]) (by simp [envL]) path_ n_ m_ band_

def t_spec_ValidPath (path_ : Sl Pair) (n_ : Int) (m_ : Int) (band_ : Int) : Option Bool :=
  obind (bif decide (1 ≤ n_) then (some (decide (1 ≤ m_))) else some false) fun c2 =>
  obind (bif (bif decide (1 ≤ n_) then c2 else false) then (obind (t_spec_l09Path path_ n_ m_ band_) fun c4 => some c4) else some false) fun c5 =>
  some (bif (bif decide (1 ≤ n_) then c2 else false) then c5 else false)

theorem ts_spec_ValidPath (env : Nat → Contract) (he_spec_l09Path : env n_spec_l09Path = .pure (C4 (fun c : Bool => enc c) t_spec_l09Path)) (path_ : Sl Pair) (n_ : Int) (m_ : Int) (band_ : Int) : Sim (denFn Try.prog env n_spec_ValidPath [Sl.enc path_, iv n_, iv m_, iv band_] []) (t_spec_ValidPath path_ n_ m_ band_) fun c p => release p.2 depth p.1 = some ((fun c : Bool => enc c) c) := by
  have O := Hold.nil []
  generalize hB : (⟨[], []⟩ : Base) = B at O
  clear hB
  rw [e_spec_ValidPath]
  unfold t_spec_ValidPath
  refine sim_let (v := bv (decide (1 ≤ n_))) (aBin_geq _ _) ?_
  refine sim_guardT (e := bv) (fun hb1 => ?_) (fun c2 => ?_)
  · refine sim_let (v := bv (decide (1 ≤ m_))) (aBin_geq _ _) ?_
    exact sim_ret rfl
  · refine sim_let (v := bv (bif decide (1 ≤ n_) then c2 else false)) (pick_b _ _ _) ?_
    refine sim_guardT (e := bv) (fun hb3 => ?_) (fun c5 => ?_)
    · refine sim_call4 he_spec_l09Path (snapD_enc _ _) (snapD_int _ _) (snapD_int _ _) (snapD_int _ _) (fun c4 => ?_)
      refine sim_let2 (hand_plain (by rfl) _ _) ?_
      exact sim_ret rfl
    · refine sim_let (v := bv (bif (bif decide (1 ≤ n_) then c2 else false) then c5 else false)) (pick_b _ _ _) ?_
      exact sim_ret (release_plain (by rfl) _)
theorem tt_spec_ValidPath : PureOK Try.prog n_spec_ValidPath (C4 (fun c : Bool => enc c) t_spec_ValidPath) := pureC4 (Econs tt_spec_l09Path E0) mixed hb_spec_ValidPath fun path_ n_ m_ band_ => ts_spec_ValidPath _ (by simp [envL]) path_ n_ m_ band_

def s0_impl_ReversePath (path_ : Sl Pair) (a2 : Pair) : ((Sl Pair) × Int) → Option (Sum ((Sl Pair) × Int) (Sl Pair)) := fun (w23, w26) =>
  bif decide (0 ≤ w26) then
    obind (getI (path_.getD []) w26) fun a34 =>
    obind (getI (path_.getD []) w26) fun a38 =>
    obind (appO w23 ([(⟨wr (a2.i - a34.i), wr (a2.j - a38.j)⟩ : Pair)] : List Pair)) fun _ =>
    some (.inl ((appS w23 ([(⟨wr (a2.i - a34.i), wr (a2.j - a38.j)⟩ : Pair)] : List Pair)), wr (w26 - 1)))
  else
    some (.inr w23)
def t_impl_ReversePath (path_ : Sl Pair) : Option ((Sl Pair) × Int) :=
  bif decide ((((path_.getD []).length : Nat) : Int) = 0) then
    some ((none : Sl Pair), 1)
  else
    obind (getI (path_.getD []) (wr ((((path_.getD []).length : Nat) : Int) - 1))) fun a2 =>
    obind (some (within a2.i 0 71)) fun c12 =>
    obind (bif !c12 then some false else (obind (some (within a2.j 0 71)) fun c14 => some (!c14))) fun c15 =>
    obind (bif (bif !c12 then true else c15) then some false else (obind (t_impl_ValidPath path_ (wr (a2.i + 1)) (wr (a2.j + 1)) 72) fun c17 => some (!c17))) fun c18 =>
    bif (bif (bif !c12 then true else c15) then true else c18) then
      some ((none : Sl Pair), 1)
    else
      obind (loopT (s0_impl_ReversePath path_ a2) ((none : Sl Pair), wr ((((path_.getD []).length : Nat) : Int) - 1))) fun q30 =>
      some (q30, 0)

theorem tl0_impl_ReversePath (env : Nat → Contract) {B : Base} (he_impl_ValidPath : env n_impl_ValidPath = .pure (C4 (fun c : Bool => enc c) t_impl_ValidPath)) (he_impl_within : env n_impl_within = .pure (T3 within)) (path_ : Sl Pair) (a2 : Pair) (m3 : Nat) (o6 : Nat) (c12 : Bool) (c15 : Bool) (c18 : Bool)  {st : (Sl Pair) × Int} {tm : TM} {h : Heap} (R : (fun (st : (Sl Pair) × Int) tm h24 => match st with | (w23, w26) => ∃ z22, tm = ((Sl.enc path_) :: und :: nilS :: (iv 0) :: (AV.ptr o6 1 0 0) :: z22 :: (iv w26) :: (Sl.enc path_) :: (iv (((path_.getD []).length : Nat) : Int)) :: (bv (decide ((((path_.getD []).length : Nat) : Int) = 0))) :: (Sl.enc path_) :: (Sl.enc path_) :: (iv (((path_.getD []).length : Nat) : Int)) :: (iv (wr ((((path_.getD []).length : Nat) : Int) - 1))) :: (elp (Sl.enc path_) m3 0) :: (AV.agg [iv a2.i, iv a2.j]) :: (AV.ptr o6 1 0 0) :: (iv a2.i) :: (bv c12) :: (bv (!c12)) :: (bv (!c12)) :: AV.top :: AV.top :: AV.top :: (cond (!c12) und (bv c15)) :: (bv (bif !c12 then true else c15)) :: (bv (bif !c12 then true else c15)) :: AV.top :: AV.top :: AV.top :: AV.top :: AV.top :: AV.top :: AV.top :: AV.top :: (cond (bif !c12 then true else c15) und (bv c18)) :: (bv (bif (bif !c12 then true else c15) then true else c18)) :: (Sl.enc path_) :: (iv (((path_.getD []).length : Nat) : Int)) :: (iv (wr ((((path_.getD []).length : Nat) : Int) - 1))) :: AV.top :: AV.top :: AV.top :: AV.top :: AV.top :: AV.top :: AV.top :: AV.top :: AV.top :: AV.top :: AV.top :: AV.top :: AV.top :: AV.top :: AV.top :: AV.top :: AV.top :: AV.top :: AV.top :: AV.top :: AV.top :: AV.top :: AV.top :: AV.top :: und :: []) ∧ Hold B h24 [(AV.ptr o6 1 0 0, .pt 2 [iv a2.i, iv a2.j]), (z22, obS (w23 : Sl Pair))]) st tm h) : Sim (loopP hm0_impl_ReversePath xm0_impl_ReversePath (lb0_impl_ReversePath env) tm h) (loopT (s0_impl_ReversePath path_ a2) st) (fun (q : Sl Pair) (r : Res) => match q with | q30 => ∃ (q31 : Int) (z29 : AV) (h27 : Heap), r = (.exit 0, ((Sl.enc path_) :: und :: nilS :: (iv 0) :: (AV.ptr o6 1 0 0) :: z29 :: (iv q31) :: (Sl.enc path_) :: (iv (((path_.getD []).length : Nat) : Int)) :: (bv (decide ((((path_.getD []).length : Nat) : Int) = 0))) :: (Sl.enc path_) :: (Sl.enc path_) :: (iv (((path_.getD []).length : Nat) : Int)) :: (iv (wr ((((path_.getD []).length : Nat) : Int) - 1))) :: (elp (Sl.enc path_) m3 0) :: (AV.agg [iv a2.i, iv a2.j]) :: (AV.ptr o6 1 0 0) :: (iv a2.i) :: (bv c12) :: (bv (!c12)) :: (bv (!c12)) :: AV.top :: AV.top :: AV.top :: (cond (!c12) und (bv c15)) :: (bv (bif !c12 then true else c15)) :: (bv (bif !c12 then true else c15)) :: AV.top :: AV.top :: AV.top :: AV.top :: AV.top :: AV.top :: AV.top :: AV.top :: (cond (bif !c12 then true else c15) und (bv c18)) :: (bv (bif (bif !c12 then true else c15) then true else c18)) :: (Sl.enc path_) :: (iv (((path_.getD []).length : Nat) : Int)) :: (iv (wr ((((path_.getD []).length : Nat) : Int) - 1))) :: AV.top :: AV.top :: AV.top :: AV.top :: AV.top :: AV.top :: AV.top :: AV.top :: AV.top :: AV.top :: AV.top :: AV.top :: AV.top :: AV.top :: AV.top :: AV.top :: AV.top :: AV.top :: AV.top :: AV.top :: AV.top :: AV.top :: AV.top :: AV.top :: und :: []), h27) ∧ Hold B h27 [(AV.ptr o6 1 0 0, .pt 2 [iv a2.i, iv a2.j]), (z29, obS (q30 : Sl Pair))]) := by
  refine loop_sim (Rel := fun (st : (Sl Pair) × Int) tm h24 => match st with | (w23, w26) => ∃ z22, tm = ((Sl.enc path_) :: und :: nilS :: (iv 0) :: (AV.ptr o6 1 0 0) :: z22 :: (iv w26) :: (Sl.enc path_) :: (iv (((path_.getD []).length : Nat) : Int)) :: (bv (decide ((((path_.getD []).length : Nat) : Int) = 0))) :: (Sl.enc path_) :: (Sl.enc path_) :: (iv (((path_.getD []).length : Nat) : Int)) :: (iv (wr ((((path_.getD []).length : Nat) : Int) - 1))) :: (elp (Sl.enc path_) m3 0) :: (AV.agg [iv a2.i, iv a2.j]) :: (AV.ptr o6 1 0 0) :: (iv a2.i) :: (bv c12) :: (bv (!c12)) :: (bv (!c12)) :: AV.top :: AV.top :: AV.top :: (cond (!c12) und (bv c15)) :: (bv (bif !c12 then true else c15)) :: (bv (bif !c12 then true else c15)) :: AV.top :: AV.top :: AV.top :: AV.top :: AV.top :: AV.top :: AV.top :: AV.top :: (cond (bif !c12 then true else c15) und (bv c18)) :: (bv (bif (bif !c12 then true else c15) then true else c18)) :: (Sl.enc path_) :: (iv (((path_.getD []).length : Nat) : Int)) :: (iv (wr ((((path_.getD []).length : Nat) : Int) - 1))) :: AV.top :: AV.top :: AV.top :: AV.top :: AV.top :: AV.top :: AV.top :: AV.top :: AV.top :: AV.top :: AV.top :: AV.top :: AV.top :: AV.top :: AV.top :: AV.top :: AV.top :: AV.top :: AV.top :: AV.top :: AV.top :: AV.top :: AV.top :: AV.top :: und :: []) ∧ Hold B h24 [(AV.ptr o6 1 0 0, .pt 2 [iv a2.i, iv a2.j]), (z22, obS (w23 : Sl Pair))]) (fun st tm h24 R => ?_) R
  obtain ⟨w23, w26⟩ := st
  obtain ⟨z22, rfl, O25⟩ := R
  rw [e_lb0_impl_ReversePath]
  unfold s0_impl_ReversePath
  dsimp only
  refine sim_let (v := bv (decide (0 ≤ w26))) (aBin_geq _ _) ?_
  refine sim_cond (fun c33 => ?_) (fun c33 => ?_)
  · refine sim_let (v := AV.ptr o6 1 0 0) rfl ?_
    refine sim_let (v := iv a2.i) (O25.ld 0 rfl false 1 0) ?_
    refine sim_get (Tab.enc h24 path_) (fun m35 a34 hi36 hm37 => ?_)
    refine sim_let (v := elp (Sl.enc path_) m35 0) ((Tab.enc h24 path_).fld _ _ _) ?_
    refine sim_let (v := iv a34.i) ((Tab.enc h24 path_).ld hm37 false 1 0) ?_
    refine sim_let (v := iv (wr (a2.i - a34.i))) (aBin_sub _ _) ?_
    refine sim_let (v := AV.ptr o6 1 0 1) rfl ?_
    refine sim_let (v := iv a2.j) (O25.ld 0 rfl false 1 1) ?_
    refine sim_get (Tab.enc h24 path_) (fun m39 a38 hi40 hm41 => ?_)
    refine sim_let (v := elp (Sl.enc path_) m39 1) ((Tab.enc h24 path_).fld _ _ _) ?_
    refine sim_let (v := iv a38.j) ((Tab.enc h24 path_).ld hm41 false 1 1) ?_
    refine sim_let (v := iv (wr (a2.j - a38.j))) (aBin_sub _ _) ?_
    refine sim_let (v := AV.agg [iv (wr (a2.i - a34.i)), iv (wr (a2.j - a38.j))]) (by first | rfl | simp [aBuild, aFill, splice]) ?_
    refine sim_build (A := Pair) O25 ([(⟨wr (a2.i - a34.i), wr (a2.j - a38.j)⟩ : Pair)] : List Pair) rfl (by first | rfl | simp [aFillRows, zrows]) rfl (fun x42 h43 O44 => ?_)
    replace O44 : Hold B h43 [(AV.ptr o6 1 0 0, .pt 2 [iv a2.i, iv a2.j]), (z22, obS (w23 : Sl Pair)), (x42, obS ((some ([(⟨wr (a2.i - a34.i), wr (a2.j - a38.j)⟩ : Pair)] : List Pair)) : Sl Pair))] := O44
    refine sim_append (A := Pair) (s := w23) O44 1 ([(⟨wr (a2.i - a34.i), wr (a2.j - a38.j)⟩ : Pair)] : List Pair) rfl (O44.src (A := Pair) (s := (some ([(⟨wr (a2.i - a34.i), wr (a2.j - a38.j)⟩ : Pair)] : List Pair))) 2 rfl) (by decide) (fun x47 h48 O49 => ?_)
    replace O49 : Hold B h48 [(AV.ptr o6 1 0 0, .pt 2 [iv a2.i, iv a2.j]), (x47, obS ((appS w23 ([(⟨wr (a2.i - a34.i), wr (a2.j - a38.j)⟩ : Pair)] : List Pair)) : Sl Pair)), (x42, obS ((some ([(⟨wr (a2.i - a34.i), wr (a2.j - a38.j)⟩ : Pair)] : List Pair)) : Sl Pair))] := O49
    have O51 : Hold B h48 [(AV.ptr o6 1 0 0, .pt 2 [iv a2.i, iv a2.j]), (x47, obS ((appS w23 ([(⟨wr (a2.i - a34.i), wr (a2.j - a38.j)⟩ : Pair)] : List Pair)) : Sl Pair))] := O49.sel [0, 1] (by decide) rfl
    refine sim_let (v := iv (wr (w26 - 1))) (aBin_sub _ _) ?_
    exact sim_ret ⟨rfl, _, rfl, O51⟩
  · exact sim_ret ⟨nofun, _, _, _, rfl, O25⟩
theorem ts_impl_ReversePath (env : Nat → Contract) (he_impl_ValidPath : env n_impl_ValidPath = .pure (C4 (fun c : Bool => enc c) t_impl_ValidPath)) (he_impl_within : env n_impl_within = .pure (T3 within)) (path_ : Sl Pair) : Sim (denFn Try.prog env n_impl_ReversePath [Sl.enc path_] []) (t_impl_ReversePath path_) fun c p => release p.2 depth p.1 = some ((fun c : (Sl Pair) × Int => AV.tup [rS c.1, enc c.2]) c) := by
  have O := Hold.nil []
  generalize hB : (⟨[], []⟩ : Base) = B at O
  clear hB
  rw [e_impl_ReversePath]
  unfold t_impl_ReversePath
  refine sim_let (v := iv (((path_.getD []).length : Nat) : Int)) (Tab.enc [] path_).len ?_
  refine sim_let (v := bv (decide ((((path_.getD []).length : Nat) : Int) = 0))) (aCmp_eq _ _) ?_
  refine sim_cond (fun c1 => ?_) (fun c1 => ?_)
  · exact sim_ret (release_plain (by rfl) _)
  · refine sim_let (v := iv (((path_.getD []).length : Nat) : Int)) (Tab.enc [] path_).len ?_
    refine sim_let (v := iv (wr ((((path_.getD []).length : Nat) : Int) - 1))) (aBin_sub _ _) ?_
    refine sim_get (Tab.enc [] path_) (fun m3 a2 hi4 hm5 => ?_)
    refine sim_let (v := AV.agg [iv a2.i, iv a2.j]) ((Tab.enc [] path_).ld hm5 true 2 0) ?_
    refine sim_box O (cs := [iv 0, iv 0]) (by first | rfl | simp) (fun o6 h7 O8 => ?_)
    replace O8 : Hold B h7 [(AV.ptr o6 1 0 0, .pt 2 [iv 0, iv 0])] := O8
    refine sim_store O8 0 (cs' := [iv a2.i, iv a2.j]) rfl (by first | rfl | simp) (by simp) (by first | rfl | simp) (by first | rfl | simp [splice]) (fun h10 O11 => ?_)
    replace O11 : Hold B h10 [(AV.ptr o6 1 0 0, .pt 2 [iv a2.i, iv a2.j])] := O11
    refine sim_let (v := AV.ptr o6 1 0 0) rfl ?_
    refine sim_let (v := iv a2.i) (O11.ld 0 rfl false 1 0) ?_
    refine sim_callV3 (t := within) he_impl_within (snapD_int _ _) (snapD_int _ _) (snapD_int _ _) (fun c12 => ?_)
    refine sim_let (v := bv (!c12)) (aUn_not _) ?_
    refine sim_guardF (e := bv) (fun hb13 => ?_) (fun c15 => ?_)
    · refine sim_let (v := AV.ptr o6 1 0 1) rfl ?_
      refine sim_let (v := iv a2.j) (O11.ld 0 rfl false 1 1) ?_
      refine sim_callV3 (t := within) he_impl_within (snapD_int _ _) (snapD_int _ _) (snapD_int _ _) (fun c14 => ?_)
      refine sim_let (v := bv (!c14)) (aUn_not _) ?_
      exact sim_ret rfl
    · refine sim_let (v := bv (bif !c12 then true else c15)) (pick_b' _ _ _) ?_
      refine sim_guardF (e := bv) (fun hb16 => ?_) (fun c18 => ?_)
      · refine sim_let (v := AV.ptr o6 1 0 0) rfl ?_
        refine sim_let (v := iv a2.i) (O11.ld 0 rfl false 1 0) ?_
        refine sim_let (v := iv (wr (a2.i + 1))) (aBin_add _ _) ?_
        refine sim_let (v := AV.ptr o6 1 0 1) rfl ?_
        refine sim_let (v := iv a2.j) (O11.ld 0 rfl false 1 1) ?_
        refine sim_let (v := iv (wr (a2.j + 1))) (aBin_add _ _) ?_
        refine sim_call4 he_impl_ValidPath (snapD_enc _ _) (snapD_int _ _) (snapD_int _ _) (snapD_int _ _) (fun c17 => ?_)
        refine sim_let2 (hand_plain (by rfl) _ _) ?_
        refine sim_let (v := bv (!c17)) (aUn_not _) ?_
        exact sim_ret rfl
      · refine sim_let (v := bv (bif (bif !c12 then true else c15) then true else c18)) (pick_b' _ _ _) ?_
        refine sim_cond (fun c19 => ?_) (fun c19 => ?_)
        · exact sim_ret (release_plain (by rfl) _)
        · refine sim_let (v := iv (((path_.getD []).length : Nat) : Int)) (Tab.enc h10 path_).len ?_
          refine sim_let (v := iv (wr ((((path_.getD []).length : Nat) : Int) - 1))) (aBin_sub _ _) ?_
          have O20 : Hold B h10 [(AV.ptr o6 1 0 0, .pt 2 [iv a2.i, iv a2.j]), (nilS, obS ((none : Sl Pair) : Sl Pair))] := O11.addnil
          refine sim_bind ((tl0_impl_ReversePath env he_impl_ValidPath he_impl_within path_ a2 m3 o6 c12 c15 c18) ⟨_, rfl, O20⟩) (fun qq55 r hq => ?_)
          revert hq
          revert qq55
          intro q30 hq
          obtain ⟨q31, z29, h27, rfl, O28⟩ := hq
          rw [e_lk0x0_impl_ReversePath]
          have O32 : Hold B h27 [(z29, obS (q30 : Sl Pair))] := O28.sel [1] (by decide) rfl
          exact sim_ret (release_of (by simp only [ids_tup, ids_aggD, ids_agg, ids_iv, ids_bv, ids_sv, ids_bt, ids_nilS, ids_enc, O32.idsD (A := Pair) (s := q30) 0 rfl, List.map_append, List.map_nil, List.flatMap_cons, List.flatMap_nil, List.append_nil, List.nil_append]; simpa only [List.flatMap_cons, List.flatMap_nil, List.append_nil, List.nil_append] using O32.nd2) (by simp only [rel_tup, rel_aggD, rel_agg, rel_iv, rel_bv, rel_sv, rel_bt, rel_nilS, rel_enc, O32.relD (A := Pair) (s := q30) 0 rfl, omapc, omapn, obind_sm] <;> rfl))
theorem tt_impl_ReversePath : PureOK Try.prog n_impl_ReversePath (C1 (fun c : (Sl Pair) × Int => AV.tup [rS c.1, enc c.2]) t_impl_ReversePath) := pureC1 (Econs tt_impl_ValidPath (Econs ok_impl_within E0)) mixed hb_impl_ReversePath fun path_ => ts_impl_ReversePath _ (by simp [envL]) (by simp [envL]) path_

def s0_laws_FnPaths (c10 : (Sl Pair) × Int) (c28 : (Sl Pair) × Int) : Int → Option (Sum Int (Sum Unit Bool)) := fun w44 =>
  bif decide (w44 < (((c10.1.getD []).length : Nat) : Int)) then
    obind (getI (c28.1.getD []) w44) fun a55 =>
    obind (getI (c10.1.getD []) w44) fun a59 =>
    bif !decide (a55 = a59) then
      some (.inr (.inr false))
    else
      some (.inl (wr (w44 + 1)))
  else
    some (.inr (.inl ()))
def t_laws_FnPaths (code_ : Sl UInt8) : Option Bool :=
  obind (t_laws_a2Long code_ (none : Sl UInt8)) fun c1 =>
  bif c1 then
    some true
  else
    obind (t_spec_A2Two code_) fun c3 =>
    obind (t_impl_ElasticPath c3.1 c3.2.1 c3.2.2) fun c10 =>
    obind (t_impl_Elastic c3.1 c3.2.1 c3.2.2) fun c15 =>
    obind (bif !decide (c10.2 = 0) then some false else (some (!decide (c15.2 = 0)))) fun c17 =>
    obind (bif (bif !decide (c10.2 = 0) then true else c17) then some false else (obind (t_spec_ValidPath c10.1 (((c3.1.getD []).length : Nat) : Int) (((c3.2.1.getD []).length : Nat) : Int) c3.2.2) fun c19 => some (!c19))) fun c20 =>
    bif (bif (bif !decide (c10.2 = 0) then true else c17) then true else c20) then
      some false
    else
      obind (t_impl_PathCost c3.1 c3.2.1 c10.1) fun c22 =>
      obind (t_impl_ReversePath c10.1) fun c23 =>
      obind (t_impl_ReversePath c23.1) fun c28 =>
      obind (bif !decide (c22.2 = 0) then some false else (some (!decide (c22.1 = c15.1)))) fun c34 =>
      obind (bif (bif !decide (c22.2 = 0) then true else c34) then some false else (some (!decide (c23.2 = 0)))) fun c36 =>
      obind (bif (bif (bif !decide (c22.2 = 0) then true else c34) then true else c36) then some false else (some (!decide (c28.2 = 0)))) fun c38 =>
      obind (bif (bif (bif (bif !decide (c22.2 = 0) then true else c34) then true else c36) then true else c38) then some false else (some (!decide ((((c28.1.getD []).length : Nat) : Int) = (((c10.1.getD []).length : Nat) : Int))))) fun c40 =>
      bif (bif (bif (bif (bif !decide (c22.2 = 0) then true else c34) then true else c36) then true else c38) then true else c40) then
        some false
      else
        obind (loopT (s0_laws_FnPaths c10 c28) 0) fun qq68 => match qq68 with
        | (.inl _) =>
            obind (t_spec_ValidPath c23.1 (((c3.1.getD []).length : Nat) : Int) (((c3.2.1.getD []).length : Nat) : Int) 72) fun c49 =>
            some c49
        | (.inr q52) =>
            some q52

theorem tl0_laws_FnPaths (env : Nat → Contract) {B : Base} (he_impl_Elastic : env n_impl_Elastic = .pure (C3 (fun c : Int × Int => AV.tup [enc c.1, enc c.2]) t_impl_Elastic)) (he_impl_ElasticPath : env n_impl_ElasticPath = .pure (C3 (fun c : (Sl Pair) × Int => AV.tup [rS c.1, enc c.2]) t_impl_ElasticPath)) (he_impl_PathCost : env n_impl_PathCost = .pure (C3 (fun c : Int × Int => AV.tup [enc c.1, enc c.2]) t_impl_PathCost)) (he_impl_ReversePath : env n_impl_ReversePath = .pure (C1 (fun c : (Sl Pair) × Int => AV.tup [rS c.1, enc c.2]) t_impl_ReversePath)) (he_laws_a2Long : env n_laws_a2Long = .pure (C2 (fun c : Bool => enc c) t_laws_a2Long)) (he_spec_A2Two : env n_spec_A2Two = .pure (C1 (fun c : (Sl Feat) × (Sl Feat) × Int => AV.tup [rS c.1, rS c.2.1, enc c.2.2]) t_spec_A2Two)) (he_spec_ValidPath : env n_spec_ValidPath = .pure (C4 (fun c : Bool => enc c) t_spec_ValidPath)) (code_ : Sl UInt8) (c1 : Bool) (c3 : (Sl Feat) × (Sl Feat) × Int) (x5 : AV) (x7 : AV) (c10 : (Sl Pair) × Int) (x12 : AV) (c15 : Int × Int) (c17 : Bool) (c20 : Bool) (c22 : Int × Int) (c23 : (Sl Pair) × Int) (x25 : AV) (c28 : (Sl Pair) × Int) (x30 : AV) (c34 : Bool) (c36 : Bool) (c38 : Bool) (c40 : Bool)  {st : Int} {tm : TM} {h : Heap} (R : (fun (st : Int) tm h42 => match st with | w44 => tm = ((Sl.enc code_) :: und :: AV.top :: x5 :: x7 :: (iv c3.2.2) :: x12 :: (iv c10.2) :: (iv c15.1) :: (iv c15.2) :: (iv c22.1) :: (iv c22.2) :: x25 :: (iv c23.2) :: x30 :: (iv c28.2) :: (iv w44) :: (Sl.enc code_) :: (bv c1) :: (AV.tup [x5, x7, iv c3.2.2]) :: (Sl.enc code_) :: (AV.tup [x5, x7, iv c3.2.2]) :: x5 :: x7 :: (iv c3.2.2) :: (AV.tup [x12, iv c10.2]) :: x5 :: x7 :: (iv c3.2.2) :: (AV.tup [x12, iv c10.2]) :: x12 :: (iv c10.2) :: (AV.tup [iv c15.1, iv c15.2]) :: x5 :: x7 :: (iv c3.2.2) :: (AV.tup [iv c15.1, iv c15.2]) :: (iv c15.1) :: (iv c15.2) :: (iv c10.2) :: (bv (!decide (c10.2 = 0))) :: (bv (!decide (c10.2 = 0))) :: AV.top :: (cond (!decide (c10.2 = 0)) und (bv c17)) :: (bv (bif !decide (c10.2 = 0) then true else c17)) :: (bv (bif !decide (c10.2 = 0) then true else c17)) :: AV.top :: AV.top :: AV.top :: AV.top :: AV.top :: AV.top :: AV.top :: (cond (bif !decide (c10.2 = 0) then true else c17) und (bv c20)) :: (bv (bif (bif !decide (c10.2 = 0) then true else c17) then true else c20)) :: (AV.tup [iv c22.1, iv c22.2]) :: x5 :: x7 :: x12 :: (AV.tup [iv c22.1, iv c22.2]) :: (iv c22.1) :: (iv c22.2) :: (AV.tup [x25, iv c23.2]) :: x12 :: (AV.tup [x25, iv c23.2]) :: x25 :: (iv c23.2) :: (AV.tup [x30, iv c28.2]) :: x25 :: (AV.tup [x30, iv c28.2]) :: x30 :: (iv c28.2) :: (iv c22.2) :: (bv (!decide (c22.2 = 0))) :: (bv (!decide (c22.2 = 0))) :: AV.top :: AV.top :: (cond (!decide (c22.2 = 0)) und (bv c34)) :: (bv (bif !decide (c22.2 = 0) then true else c34)) :: (bv (bif !decide (c22.2 = 0) then true else c34)) :: AV.top :: (cond (bif !decide (c22.2 = 0) then true else c34) und (bv c36)) :: (bv (bif (bif !decide (c22.2 = 0) then true else c34) then true else c36)) :: (bv (bif (bif !decide (c22.2 = 0) then true else c34) then true else c36)) :: AV.top :: (cond (bif (bif !decide (c22.2 = 0) then true else c34) then true else c36) und (bv c38)) :: (bv (bif (bif (bif !decide (c22.2 = 0) then true else c34) then true else c36) then true else c38)) :: (bv (bif (bif (bif !decide (c22.2 = 0) then true else c34) then true else c36) then true else c38)) :: AV.top :: AV.top :: AV.top :: AV.top :: (cond (bif (bif (bif !decide (c22.2 = 0) then true else c34) then true else c36) then true else c38) und (bv c40)) :: (bv (bif (bif (bif (bif !decide (c22.2 = 0) then true else c34) then true else c36) then true else c38) then true else c40)) :: AV.top :: AV.top :: AV.top :: AV.top :: AV.top :: AV.top :: AV.top :: AV.top :: AV.top :: AV.top :: AV.top :: AV.top :: AV.top :: AV.top :: AV.top :: und :: und :: und :: und :: und :: und :: []) ∧ Hold B h42 [(x5, obS (c3.1 : Sl Feat)), (x7, obS (c3.2.1 : Sl Feat)), (x12, obS (c10.1 : Sl Pair)), (x25, obS (c23.1 : Sl Pair)), (x30, obS (c28.1 : Sl Pair))]) st tm h) : Sim (loopP hm0_laws_FnPaths xm0_laws_FnPaths (lb0_laws_FnPaths env) tm h) (loopT (s0_laws_FnPaths c10 c28) st) (fun (q : Sum Unit Bool) (r : Res) => match q with | .inl _ => ∃ (q48 : Int) (z47 : AV) (h45 : Heap), r = (.exit 0, ((Sl.enc code_) :: und :: z47 :: x5 :: x7 :: (iv c3.2.2) :: x12 :: (iv c10.2) :: (iv c15.1) :: (iv c15.2) :: (iv c22.1) :: (iv c22.2) :: x25 :: (iv c23.2) :: x30 :: (iv c28.2) :: (iv q48) :: (Sl.enc code_) :: (bv c1) :: (AV.tup [x5, x7, iv c3.2.2]) :: (Sl.enc code_) :: (AV.tup [x5, x7, iv c3.2.2]) :: x5 :: x7 :: (iv c3.2.2) :: (AV.tup [x12, iv c10.2]) :: x5 :: x7 :: (iv c3.2.2) :: (AV.tup [x12, iv c10.2]) :: x12 :: (iv c10.2) :: (AV.tup [iv c15.1, iv c15.2]) :: x5 :: x7 :: (iv c3.2.2) :: (AV.tup [iv c15.1, iv c15.2]) :: (iv c15.1) :: (iv c15.2) :: (iv c10.2) :: (bv (!decide (c10.2 = 0))) :: (bv (!decide (c10.2 = 0))) :: AV.top :: (cond (!decide (c10.2 = 0)) und (bv c17)) :: (bv (bif !decide (c10.2 = 0) then true else c17)) :: (bv (bif !decide (c10.2 = 0) then true else c17)) :: AV.top :: AV.top :: AV.top :: AV.top :: AV.top :: AV.top :: AV.top :: (cond (bif !decide (c10.2 = 0) then true else c17) und (bv c20)) :: (bv (bif (bif !decide (c10.2 = 0) then true else c17) then true else c20)) :: (AV.tup [iv c22.1, iv c22.2]) :: x5 :: x7 :: x12 :: (AV.tup [iv c22.1, iv c22.2]) :: (iv c22.1) :: (iv c22.2) :: (AV.tup [x25, iv c23.2]) :: x12 :: (AV.tup [x25, iv c23.2]) :: x25 :: (iv c23.2) :: (AV.tup [x30, iv c28.2]) :: x25 :: (AV.tup [x30, iv c28.2]) :: x30 :: (iv c28.2) :: (iv c22.2) :: (bv (!decide (c22.2 = 0))) :: (bv (!decide (c22.2 = 0))) :: AV.top :: AV.top :: (cond (!decide (c22.2 = 0)) und (bv c34)) :: (bv (bif !decide (c22.2 = 0) then true else c34)) :: (bv (bif !decide (c22.2 = 0) then true else c34)) :: AV.top :: (cond (bif !decide (c22.2 = 0) then true else c34) und (bv c36)) :: (bv (bif (bif !decide (c22.2 = 0) then true else c34) then true else c36)) :: (bv (bif (bif !decide (c22.2 = 0) then true else c34) then true else c36)) :: AV.top :: (cond (bif (bif !decide (c22.2 = 0) then true else c34) then true else c36) und (bv c38)) :: (bv (bif (bif (bif !decide (c22.2 = 0) then true else c34) then true else c36) then true else c38)) :: (bv (bif (bif (bif !decide (c22.2 = 0) then true else c34) then true else c36) then true else c38)) :: AV.top :: AV.top :: AV.top :: AV.top :: (cond (bif (bif (bif !decide (c22.2 = 0) then true else c34) then true else c36) then true else c38) und (bv c40)) :: (bv (bif (bif (bif (bif !decide (c22.2 = 0) then true else c34) then true else c36) then true else c38) then true else c40)) :: AV.top :: AV.top :: AV.top :: AV.top :: AV.top :: AV.top :: AV.top :: AV.top :: AV.top :: AV.top :: AV.top :: AV.top :: AV.top :: AV.top :: AV.top :: und :: und :: und :: und :: und :: und :: []), h45) ∧ Hold B h45 [(x5, obS (c3.1 : Sl Feat)), (x7, obS (c3.2.1 : Sl Feat)), (x12, obS (c10.1 : Sl Pair)), (x25, obS (c23.1 : Sl Pair)), (x30, obS (c28.1 : Sl Pair))] | .inr q52 => ∃ (q53 : Int) (h50 : Heap), r = (.ret, ((Sl.enc code_) :: und :: (bv q52) :: x5 :: x7 :: (iv c3.2.2) :: x12 :: (iv c10.2) :: (iv c15.1) :: (iv c15.2) :: (iv c22.1) :: (iv c22.2) :: x25 :: (iv c23.2) :: x30 :: (iv c28.2) :: (iv q53) :: (Sl.enc code_) :: (bv c1) :: (AV.tup [x5, x7, iv c3.2.2]) :: (Sl.enc code_) :: (AV.tup [x5, x7, iv c3.2.2]) :: x5 :: x7 :: (iv c3.2.2) :: (AV.tup [x12, iv c10.2]) :: x5 :: x7 :: (iv c3.2.2) :: (AV.tup [x12, iv c10.2]) :: x12 :: (iv c10.2) :: (AV.tup [iv c15.1, iv c15.2]) :: x5 :: x7 :: (iv c3.2.2) :: (AV.tup [iv c15.1, iv c15.2]) :: (iv c15.1) :: (iv c15.2) :: (iv c10.2) :: (bv (!decide (c10.2 = 0))) :: (bv (!decide (c10.2 = 0))) :: AV.top :: (cond (!decide (c10.2 = 0)) und (bv c17)) :: (bv (bif !decide (c10.2 = 0) then true else c17)) :: (bv (bif !decide (c10.2 = 0) then true else c17)) :: AV.top :: AV.top :: AV.top :: AV.top :: AV.top :: AV.top :: AV.top :: (cond (bif !decide (c10.2 = 0) then true else c17) und (bv c20)) :: (bv (bif (bif !decide (c10.2 = 0) then true else c17) then true else c20)) :: (AV.tup [iv c22.1, iv c22.2]) :: x5 :: x7 :: x12 :: (AV.tup [iv c22.1, iv c22.2]) :: (iv c22.1) :: (iv c22.2) :: (AV.tup [x25, iv c23.2]) :: x12 :: (AV.tup [x25, iv c23.2]) :: x25 :: (iv c23.2) :: (AV.tup [x30, iv c28.2]) :: x25 :: (AV.tup [x30, iv c28.2]) :: x30 :: (iv c28.2) :: (iv c22.2) :: (bv (!decide (c22.2 = 0))) :: (bv (!decide (c22.2 = 0))) :: AV.top :: AV.top :: (cond (!decide (c22.2 = 0)) und (bv c34)) :: (bv (bif !decide (c22.2 = 0) then true else c34)) :: (bv (bif !decide (c22.2 = 0) then true else c34)) :: AV.top :: (cond (bif !decide (c22.2 = 0) then true else c34) und (bv c36)) :: (bv (bif (bif !decide (c22.2 = 0) then true else c34) then true else c36)) :: (bv (bif (bif !decide (c22.2 = 0) then true else c34) then true else c36)) :: AV.top :: (cond (bif (bif !decide (c22.2 = 0) then true else c34) then true else c36) und (bv c38)) :: (bv (bif (bif (bif !decide (c22.2 = 0) then true else c34) then true else c36) then true else c38)) :: (bv (bif (bif (bif !decide (c22.2 = 0) then true else c34) then true else c36) then true else c38)) :: AV.top :: AV.top :: AV.top :: AV.top :: (cond (bif (bif (bif !decide (c22.2 = 0) then true else c34) then true else c36) then true else c38) und (bv c40)) :: (bv (bif (bif (bif (bif !decide (c22.2 = 0) then true else c34) then true else c36) then true else c38) then true else c40)) :: AV.top :: AV.top :: AV.top :: AV.top :: AV.top :: AV.top :: AV.top :: AV.top :: AV.top :: AV.top :: AV.top :: AV.top :: AV.top :: AV.top :: AV.top :: und :: und :: und :: und :: und :: und :: []), h50) ∧ Hold B h50 [(x5, obS (c3.1 : Sl Feat)), (x7, obS (c3.2.1 : Sl Feat)), (x12, obS (c10.1 : Sl Pair)), (x25, obS (c23.1 : Sl Pair)), (x30, obS (c28.1 : Sl Pair))]) := by
  refine loop_sim (Rel := fun (st : Int) tm h42 => match st with | w44 => tm = ((Sl.enc code_) :: und :: AV.top :: x5 :: x7 :: (iv c3.2.2) :: x12 :: (iv c10.2) :: (iv c15.1) :: (iv c15.2) :: (iv c22.1) :: (iv c22.2) :: x25 :: (iv c23.2) :: x30 :: (iv c28.2) :: (iv w44) :: (Sl.enc code_) :: (bv c1) :: (AV.tup [x5, x7, iv c3.2.2]) :: (Sl.enc code_) :: (AV.tup [x5, x7, iv c3.2.2]) :: x5 :: x7 :: (iv c3.2.2) :: (AV.tup [x12, iv c10.2]) :: x5 :: x7 :: (iv c3.2.2) :: (AV.tup [x12, iv c10.2]) :: x12 :: (iv c10.2) :: (AV.tup [iv c15.1, iv c15.2]) :: x5 :: x7 :: (iv c3.2.2) :: (AV.tup [iv c15.1, iv c15.2]) :: (iv c15.1) :: (iv c15.2) :: (iv c10.2) :: (bv (!decide (c10.2 = 0))) :: (bv (!decide (c10.2 = 0))) :: AV.top :: (cond (!decide (c10.2 = 0)) und (bv c17)) :: (bv (bif !decide (c10.2 = 0) then true else c17)) :: (bv (bif !decide (c10.2 = 0) then true else c17)) :: AV.top :: AV.top :: AV.top :: AV.top :: AV.top :: AV.top :: AV.top :: (cond (bif !decide (c10.2 = 0) then true else c17) und (bv c20)) :: (bv (bif (bif !decide (c10.2 = 0) then true else c17) then true else c20)) :: (AV.tup [iv c22.1, iv c22.2]) :: x5 :: x7 :: x12 :: (AV.tup [iv c22.1, iv c22.2]) :: (iv c22.1) :: (iv c22.2) :: (AV.tup [x25, iv c23.2]) :: x12 :: (AV.tup [x25, iv c23.2]) :: x25 :: (iv c23.2) :: (AV.tup [x30, iv c28.2]) :: x25 :: (AV.tup [x30, iv c28.2]) :: x30 :: (iv c28.2) :: (iv c22.2) :: (bv (!decide (c22.2 = 0))) :: (bv (!decide (c22.2 = 0))) :: AV.top :: AV.top :: (cond (!decide (c22.2 = 0)) und (bv c34)) :: (bv (bif !decide (c22.2 = 0) then true else c34)) :: (bv (bif !decide (c22.2 = 0) then true else c34)) :: AV.top :: (cond (bif !decide (c22.2 = 0) then true else c34) und (bv c36)) :: (bv (bif (bif !decide (c22.2 = 0) then true else c34) then true else c36)) :: (bv (bif (bif !decide (c22.2 = 0) then true else c34) then true else c36)) :: AV.top :: (cond (bif (bif !decide (c22.2 = 0) then true else c34) then true else c36) und (bv c38)) :: (bv (bif (bif (bif !decide (c22.2 = 0) then true else c34) then true else c36) then true else c38)) :: (bv (bif (bif (bif !decide (c22.2 = 0) then true else c34) then true else c36) then true else c38)) :: AV.top :: AV.top :: AV.top :: AV.top :: (cond (bif (bif (bif !decide (c22.2 = 0) then true else c34) then true else c36) then true else c38) und (bv c40)) :: (bv (bif (bif (bif (bif !decide (c22.2 = 0) then true else c34) then true else c36) then true else c38) then true else c40)) :: AV.top :: AV.top :: AV.top :: AV.top :: AV.top :: AV.top :: AV.top :: AV.top :: AV.top :: AV.top :: AV.top :: AV.top :: AV.top :: AV.top :: AV.top :: und :: und :: und :: und :: und :: und :: []) ∧ Hold B h42 [(x5, obS (c3.1 : Sl Feat)), (x7, obS (c3.2.1 : Sl Feat)), (x12, obS (c10.1 : Sl Pair)), (x25, obS (c23.1 : Sl Pair)), (x30, obS (c28.1 : Sl Pair))]) (fun w44 tm h42 R => ?_) R
  obtain ⟨rfl, O43⟩ := R
  rw [e_lb0_laws_FnPaths]
  unfold s0_laws_FnPaths
  dsimp only
  refine sim_let (v := iv (((c10.1.getD []).length : Nat) : Int)) (O43.tab (A := Pair) (s := c10.1) 2 rfl).len ?_
  refine sim_let (v := bv (decide (w44 < (((c10.1.getD []).length : Nat) : Int)))) (aBin_lss _ _) ?_
  refine sim_cond (fun c54 => ?_) (fun c54 => ?_)
  · refine sim_get (O43.tab (A := Pair) (s := c28.1) 4 rfl) (fun m56 a55 hi57 hm58 => ?_)
    refine sim_let (v := AV.agg [iv a55.i, iv a55.j]) ((O43.tab (A := Pair) (s := c28.1) 4 rfl).ld hm58 true 2 0) ?_
    refine sim_get (O43.tab (A := Pair) (s := c10.1) 2 rfl) (fun m60 a59 hi61 hm62 => ?_)
    refine sim_let (v := AV.agg [iv a59.i, iv a59.j]) ((O43.tab (A := Pair) (s := c10.1) 2 rfl).ld hm62 true 2 0) ?_
    refine sim_let (v := bv (!decide (a55 = a59))) (aCmp_Pair a55 a59).2 ?_
    refine sim_cond (fun c63 => ?_) (fun c63 => ?_)
    · exact sim_ret ⟨nofun, _, _, rfl, O43⟩
    · refine sim_let (v := iv (wr (w44 + 1))) (aBin_add _ _) ?_
      exact sim_ret ⟨rfl, rfl, O43⟩
  · exact sim_ret ⟨nofun, _, _, _, rfl, O43⟩
theorem ts_laws_FnPaths (env : Nat → Contract) (he_impl_Elastic : env n_impl_Elastic = .pure (C3 (fun c : Int × Int => AV.tup [enc c.1, enc c.2]) t_impl_Elastic)) (he_impl_ElasticPath : env n_impl_ElasticPath = .pure (C3 (fun c : (Sl Pair) × Int => AV.tup [rS c.1, enc c.2]) t_impl_ElasticPath)) (he_impl_PathCost : env n_impl_PathCost = .pure (C3 (fun c : Int × Int => AV.tup [enc c.1, enc c.2]) t_impl_PathCost)) (he_impl_ReversePath : env n_impl_ReversePath = .pure (C1 (fun c : (Sl Pair) × Int => AV.tup [rS c.1, enc c.2]) t_impl_ReversePath)) (he_laws_a2Long : env n_laws_a2Long = .pure (C2 (fun c : Bool => enc c) t_laws_a2Long)) (he_spec_A2Two : env n_spec_A2Two = .pure (C1 (fun c : (Sl Feat) × (Sl Feat) × Int => AV.tup [rS c.1, rS c.2.1, enc c.2.2]) t_spec_A2Two)) (he_spec_ValidPath : env n_spec_ValidPath = .pure (C4 (fun c : Bool => enc c) t_spec_ValidPath)) (code_ : Sl UInt8) : Sim (denFn Try.prog env n_laws_FnPaths [Sl.enc code_] []) (t_laws_FnPaths code_) fun c p => release p.2 depth p.1 = some ((fun c : Bool => enc c) c) := by
  have O := Hold.nil []
  generalize hB : (⟨[], []⟩ : Base) = B at O
  clear hB
  rw [e_laws_FnPaths]
  unfold t_laws_FnPaths
  refine sim_call2 he_laws_a2Long (snapD_enc _ _) (snapD_nil _) (fun c1 => ?_)
  refine sim_let2 (hand_plain (by rfl) _ _) ?_
  refine sim_cond (fun c2 => ?_) (fun c2 => ?_)
  · exact sim_ret (release_plain (by rfl) _)
  · refine sim_call1 he_spec_A2Two (snapD_enc _ _) (fun c3 => ?_)
    refine sim_hand2 O (c3.1 : Sl Feat) (c3.2.1 : Sl Feat) (fun z1 z2 => AV.tup [z1, z2, iv c3.2.2]) (by intro b; simp only [mat_tup, mat_aggD, mat_agg, matLc, matLn, mat_iv, mat_bv, mat_sv, mat_bt, mat_nilS, mat_rS, List.append_nil, List.nil_append, List.length_nil, Nat.add_zero]) (by simp only [noF_tup, noF_aggD, noF_agg, noF_iv, noF_bv, noF_sv, noF_bt, noF_nilS, noF_rS, List.all_cons, List.all_nil, Bool.and_self]) (fun x5 x7 h8 O9 => ?_)
    replace O9 : Hold B h8 [(x5, obS (c3.1 : Sl Feat)), (x7, obS (c3.2.1 : Sl Feat))] := O9
    refine sim_let (v := x5) rfl ?_
    refine sim_let (v := x7) rfl ?_
    refine sim_let (v := iv c3.2.2) rfl ?_
    refine sim_call3 he_impl_ElasticPath ((O9.tab (A := Feat) (s := c3.1) 0 rfl).snap) ((O9.tab (A := Feat) (s := c3.2.1) 1 rfl).snap) (snapD_int _ _) (fun c10 => ?_)
    refine sim_hand1 O9 (c10.1 : Sl Pair) (fun z1 => AV.tup [z1, iv c10.2]) (by intro b; simp only [mat_tup, mat_aggD, mat_agg, matLc, matLn, mat_iv, mat_bv, mat_sv, mat_bt, mat_nilS, mat_rS, List.append_nil, List.nil_append, List.length_nil, Nat.add_zero]) (by simp only [noF_tup, noF_aggD, noF_agg, noF_iv, noF_bv, noF_sv, noF_bt, noF_nilS, noF_rS, List.all_cons, List.all_nil, Bool.and_self]) (fun x12 h13 O14 => ?_)
    replace O14 : Hold B h13 [(x5, obS (c3.1 : Sl Feat)), (x7, obS (c3.2.1 : Sl Feat)), (x12, obS (c10.1 : Sl Pair))] := O14
    refine sim_let (v := x12) rfl ?_
    refine sim_let (v := iv c10.2) rfl ?_
    refine sim_call3 he_impl_Elastic ((O14.tab (A := Feat) (s := c3.1) 0 rfl).snap) ((O14.tab (A := Feat) (s := c3.2.1) 1 rfl).snap) (snapD_int _ _) (fun c15 => ?_)
    refine sim_let2 (hand_plain (by rfl) _ _) ?_
    refine sim_let (v := iv c15.1) rfl ?_
    refine sim_let (v := iv c15.2) rfl ?_
    refine sim_let (v := bv (!decide (c10.2 = 0))) (aCmp_ne _ _) ?_
    refine sim_guardF (e := bv) (fun hb16 => ?_) (fun c17 => ?_)
    · refine sim_let (v := bv (!decide (c15.2 = 0))) (aCmp_ne _ _) ?_
      exact sim_ret rfl
    · refine sim_let (v := bv (bif !decide (c10.2 = 0) then true else c17)) (pick_b' _ _ _) ?_
      refine sim_guardF (e := bv) (fun hb18 => ?_) (fun c20 => ?_)
      · refine sim_let (v := iv (((c3.1.getD []).length : Nat) : Int)) (O14.tab (A := Feat) (s := c3.1) 0 rfl).len ?_
        refine sim_let (v := iv (((c3.2.1.getD []).length : Nat) : Int)) (O14.tab (A := Feat) (s := c3.2.1) 1 rfl).len ?_
        refine sim_call4 he_spec_ValidPath ((O14.tab (A := Pair) (s := c10.1) 2 rfl).snap) (snapD_int _ _) (snapD_int _ _) (snapD_int _ _) (fun c19 => ?_)
        refine sim_let2 (hand_plain (by rfl) _ _) ?_
        refine sim_let (v := bv (!c19)) (aUn_not _) ?_
        exact sim_ret rfl
      · refine sim_let (v := bv (bif (bif !decide (c10.2 = 0) then true else c17) then true else c20)) (pick_b' _ _ _) ?_
        refine sim_cond (fun c21 => ?_) (fun c21 => ?_)
        · exact sim_ret (release_plain (by rfl) _)
        · refine sim_call3 he_impl_PathCost ((O14.tab (A := Feat) (s := c3.1) 0 rfl).snap) ((O14.tab (A := Feat) (s := c3.2.1) 1 rfl).snap) ((O14.tab (A := Pair) (s := c10.1) 2 rfl).snap) (fun c22 => ?_)
          refine sim_let2 (hand_plain (by rfl) _ _) ?_
          refine sim_let (v := iv c22.1) rfl ?_
          refine sim_let (v := iv c22.2) rfl ?_
          refine sim_call1 he_impl_ReversePath ((O14.tab (A := Pair) (s := c10.1) 2 rfl).snap) (fun c23 => ?_)
          refine sim_hand1 O14 (c23.1 : Sl Pair) (fun z1 => AV.tup [z1, iv c23.2]) (by intro b; simp only [mat_tup, mat_aggD, mat_agg, matLc, matLn, mat_iv, mat_bv, mat_sv, mat_bt, mat_nilS, mat_rS, List.append_nil, List.nil_append, List.length_nil, Nat.add_zero]) (by simp only [noF_tup, noF_aggD, noF_agg, noF_iv, noF_bv, noF_sv, noF_bt, noF_nilS, noF_rS, List.all_cons, List.all_nil, Bool.and_self]) (fun x25 h26 O27 => ?_)
          replace O27 : Hold B h26 [(x5, obS (c3.1 : Sl Feat)), (x7, obS (c3.2.1 : Sl Feat)), (x12, obS (c10.1 : Sl Pair)), (x25, obS (c23.1 : Sl Pair))] := O27
          refine sim_let (v := x25) rfl ?_
          refine sim_let (v := iv c23.2) rfl ?_
          refine sim_call1 he_impl_ReversePath ((O27.tab (A := Pair) (s := c23.1) 3 rfl).snap) (fun c28 => ?_)
          refine sim_hand1 O27 (c28.1 : Sl Pair) (fun z1 => AV.tup [z1, iv c28.2]) (by intro b; simp only [mat_tup, mat_aggD, mat_agg, matLc, matLn, mat_iv, mat_bv, mat_sv, mat_bt, mat_nilS, mat_rS, List.append_nil, List.nil_append, List.length_nil, Nat.add_zero]) (by simp only [noF_tup, noF_aggD, noF_agg, noF_iv, noF_bv, noF_sv, noF_bt, noF_nilS, noF_rS, List.all_cons, List.all_nil, Bool.and_self]) (fun x30 h31 O32 => ?_)
          replace O32 : Hold B h31 [(x5, obS (c3.1 : Sl Feat)), (x7, obS (c3.2.1 : Sl Feat)), (x12, obS (c10.1 : Sl Pair)), (x25, obS (c23.1 : Sl Pair)), (x30, obS (c28.1 : Sl Pair))] := O32
          refine sim_let (v := x30) rfl ?_
          refine sim_let (v := iv c28.2) rfl ?_
          refine sim_let (v := bv (!decide (c22.2 = 0))) (aCmp_ne _ _) ?_
          refine sim_guardF (e := bv) (fun hb33 => ?_) (fun c34 => ?_)
          · refine sim_let (v := bv (!decide (c22.1 = c15.1))) (aCmp_ne _ _) ?_
            exact sim_ret rfl
          · refine sim_let (v := bv (bif !decide (c22.2 = 0) then true else c34)) (pick_b' _ _ _) ?_
            refine sim_guardF (e := bv) (fun hb35 => ?_) (fun c36 => ?_)
            · refine sim_let (v := bv (!decide (c23.2 = 0))) (aCmp_ne _ _) ?_
              exact sim_ret rfl
            · refine sim_let (v := bv (bif (bif !decide (c22.2 = 0) then true else c34) then true else c36)) (pick_b' _ _ _) ?_
              refine sim_guardF (e := bv) (fun hb37 => ?_) (fun c38 => ?_)
              · refine sim_let (v := bv (!decide (c28.2 = 0))) (aCmp_ne _ _) ?_
                exact sim_ret rfl
              · refine sim_let (v := bv (bif (bif (bif !decide (c22.2 = 0) then true else c34) then true else c36) then true else c38)) (pick_b' _ _ _) ?_
                refine sim_guardF (e := bv) (fun hb39 => ?_) (fun c40 => ?_)
                · refine sim_let (v := iv (((c28.1.getD []).length : Nat) : Int)) (O32.tab (A := Pair) (s := c28.1) 4 rfl).len ?_
                  refine sim_let (v := iv (((c10.1.getD []).length : Nat) : Int)) (O32.tab (A := Pair) (s := c10.1) 2 rfl).len ?_
                  refine sim_let (v := bv (!decide ((((c28.1.getD []).length : Nat) : Int) = (((c10.1.getD []).length : Nat) : Int)))) (aCmp_ne _ _) ?_
                  exact sim_ret rfl
                · refine sim_let (v := bv (bif (bif (bif (bif !decide (c22.2 = 0) then true else c34) then true else c36) then true else c38) then true else c40)) (pick_b' _ _ _) ?_
                  refine sim_cond (fun c41 => ?_) (fun c41 => ?_)
                  · exact sim_ret (release_plain (by rfl) _)
                  · refine sim_bind ((tl0_laws_FnPaths env he_impl_Elastic he_impl_ElasticPath he_impl_PathCost he_impl_ReversePath he_laws_a2Long he_spec_A2Two he_spec_ValidPath code_ c1 c3 x5 x7 c10 x12 c15 c17 c20 c22 c23 x25 c28 x30 c34 c36 c38 c40) ⟨rfl, O32⟩) (fun qq68 r hq => ?_)
                    rcases qq68 with _ | q52
                    · obtain ⟨q48, z47, h45, rfl, O46⟩ := hq
                      rw [e_lk0x0_laws_FnPaths]
                      refine sim_let (v := iv (((c3.1.getD []).length : Nat) : Int)) (O46.tab (A := Feat) (s := c3.1) 0 rfl).len ?_
                      refine sim_let (v := iv (((c3.2.1.getD []).length : Nat) : Int)) (O46.tab (A := Feat) (s := c3.2.1) 1 rfl).len ?_
                      refine sim_call4 he_spec_ValidPath ((O46.tab (A := Pair) (s := c23.1) 3 rfl).snap) (snapD_int _ _) (snapD_int _ _) (snapD_int _ _) (fun c49 => ?_)
                      refine sim_let2 (hand_plain (by rfl) _ _) ?_
                      exact sim_ret (release_plain (by rfl) _)
                    · obtain ⟨q53, h50, rfl, O51⟩ := hq
                      rw [e_lk0r_laws_FnPaths]
                      exact sim_ret (release_plain (by rfl) _)
theorem tt_laws_FnPaths : PureOK Try.prog n_laws_FnPaths (C1 (fun c : Bool => enc c) t_laws_FnPaths) := pureC1 (Econs tt_impl_Elastic (Econs tt_impl_ElasticPath (Econs tt_impl_PathCost (Econs tt_impl_ReversePath (Econs tt_laws_a2Long (Econs tt_spec_A2Two (Econs tt_spec_ValidPath E0))))))) mixed hb_laws_FnPaths fun code_ => ts_laws_FnPaths _ (by simp [envL]) (by simp [envL]) (by simp [envL]) (by simp [envL]) (by simp [envL]) (by simp [envL]) (by simp [envL]) code_

def t_impl_floorDiv (n_ : Int) (d_ : Int) : Option Int :=
  obind (quoI n_ d_) fun q1 =>
  obind (remI n_ d_) fun q2 =>
  bif decide (q2 < 0) then
    some (wr (q1 - 1))
  else
    some q1

def t_impl_nearestDiv (n_ : Int) (d_ : Int) : Option Int :=
  obind (t_impl_floorDiv n_ d_) fun c1 =>
  bif decide ((wr (d_ - (wr (n_ - (wr (c1 * d_)))))) ≤ (wr (n_ - (wr (c1 * d_))))) then
    some (wr (c1 + 1))
  else
    some c1

def s1_impl_BlendFeats (a_ : Sl Feat) (q20 : Sl Feat) (q21 : Sl Int) : ((Sl Feat) × Int) → Option (Sum ((Sl Feat) × Int) (Sl Feat)) := fun (w26, w29) =>
  bif decide (w29 < (((a_.getD []).length : Nat) : Int)) then
    obind (getI (a_.getD []) w29) fun a39 =>
    obind (getI (q21.getD []) w29) fun a49 =>
    obind (getI (q20.getD []) w29) fun a53 =>
    obind (t_impl_nearestDiv (wr (a53.x + (wr (a49 * a39.x)))) (wr (2 * a49))) fun c57 =>
    obind (getI (q20.getD []) w29) fun a58 =>
    obind (t_impl_nearestDiv (wr (a58.y + (wr (a49 * a39.y)))) (wr (2 * a49))) fun c62 =>
    obind (appO w26 ([(⟨c57, c62, a39.d⟩ : Feat)] : List Feat)) fun _ =>
    some (.inl ((appS w26 ([(⟨c57, c62, a39.d⟩ : Feat)] : List Feat)), wr (w29 + 1)))
  else
    some (.inr w26)
def s0_impl_BlendFeats (b_ : Sl Feat) (path_ : Sl Pair) : ((Sl Feat) × (Sl Int) × Int) → Option (Sum ((Sl Feat) × (Sl Int) × Int) ((Sl Feat) × (Sl Int))) := fun (w13, w14, w17) =>
  bif decide (w17 < (((path_.getD []).length : Nat) : Int)) then
    obind (getI (path_.getD []) w17) fun a78 =>
    obind (getI (w13.getD []) a78.i) fun a88 =>
    obind (getI (b_.getD []) a78.j) fun a92 =>
    obind (getI (w13.getD []) a78.i) fun a96 =>
    obind (getI ((setS w13 a78.i (⟨wr (a88.x + a92.x), a96.y, a96.d⟩ : Feat)).getD []) a78.i) fun a102 =>
    obind (getI (b_.getD []) a78.j) fun a106 =>
    obind (getI ((setS w13 a78.i (⟨wr (a88.x + a92.x), a96.y, a96.d⟩ : Feat)).getD []) a78.i) fun a110 =>
    obind (getI (w14.getD []) a78.i) fun a116 =>
    obind (getI (w14.getD []) a78.i) fun a120 =>
    some (.inl ((setS (setS w13 a78.i (⟨wr (a88.x + a92.x), a96.y, a96.d⟩ : Feat)) a78.i (⟨a110.x, wr (a102.y + a106.y), a110.d⟩ : Feat)), (setS w14 a78.i (wr (a116 + 1))), wr (w17 + 1)))
  else
    some (.inr (w13, w14))
def t_impl_BlendFeats (a_ : Sl Feat) (b_ : Sl Feat) (path_ : Sl Pair) : Option ((Sl Feat) × Int) :=
  obind (t_impl_pathable a_ b_ path_) fun c1 =>
  bif !decide (c1 = 0) then
    some ((none : Sl Feat), c1)
  else
    obind (makeO (⟨0, 0, 0⟩ : Feat) (((a_.getD []).length : Nat) : Int)) fun l7 =>
    obind (makeO 0 (((a_.getD []).length : Nat) : Int)) fun l12 =>
    obind (loopT (s0_impl_BlendFeats b_ path_) ((some l7), (some l12), 0)) fun (q20, q21) =>
    obind (loopT (s1_impl_BlendFeats a_ q20 q21) ((none : Sl Feat), 0)) fun q33 =>
    some (q33, 0)

def s0_spec_l08Same (a_ : Sl Feat) (b_ : Sl Feat) : Int → Option (Sum Int (Sum Unit Bool)) := fun w4 =>
  bif decide (w4 < (((a_.getD []).length : Nat) : Int)) then
    obind (getI (a_.getD []) w4) fun a14 =>
    obind (getI (b_.getD []) w4) fun a18 =>
    bif !decide (a14 = a18) then
      some (.inr (.inr false))
    else
      some (.inl (wr (w4 + 1)))
  else
    some (.inr (.inl ()))
def t_spec_l08Same (a_ : Sl Feat) (b_ : Sl Feat) : Option Bool :=
  bif !decide ((((a_.getD []).length : Nat) : Int) = (((b_.getD []).length : Nat) : Int)) then
    some false
  else
    obind (loopT (s0_spec_l08Same a_ b_) 0) fun qq27 => match qq27 with
    | (.inl _) =>
        some true
    | (.inr q11) =>
        some q11

def t_spec_SameFeats (a_ : Sl Feat) (b_ : Sl Feat) : Option Bool :=
  obind (t_spec_l08Same a_ b_) fun c1 =>
  some c1

def s2_laws_FnBlends (c3 : (Sl Feat) × (Sl Feat) × Int) (c29 : (Sl Pair)) (w49 : Int) : (Int × Int × Int) → Option (Sum (Int × Int × Int) (Int × Int)) := fun (w77, w78, w79) =>
  bif decide (w79 < (((c29.getD []).length : Nat) : Int)) then
    obind (getI (c29.getD []) w79) fun a126 =>
    bif decide (a126.i = w49) then
      obind (getI (c29.getD []) w79) fun a131 =>
      obind (getI (c3.2.1.getD []) a131.j) fun a135 =>
      bif decide (a135.x < w77) then
        bif decide (w78 < a135.x) then
          some (.inl (a135.x, a135.x, wr (w79 + 1)))
        else
          some (.inl (a135.x, w78, wr (w79 + 1)))
      else
        bif decide (w78 < a135.x) then
          some (.inl (w77, a135.x, wr (w79 + 1)))
        else
          some (.inl (w77, w78, wr (w79 + 1)))
    else
      some (.inl (w77, w78, wr (w79 + 1)))
  else
    some (.inr (w77, w78))
def s1_laws_FnBlends (c3 : (Sl Feat) × (Sl Feat) × Int) (c29 : (Sl Pair)) (c34 : (Sl Feat) × Int) : Int → Option (Sum Int (Sum Unit Bool)) := fun w49 =>
  bif decide (w49 < (((c3.1.getD []).length : Nat) : Int)) then
    obind (getI (c3.1.getD []) w49) fun a67 =>
    obind (getI (c3.1.getD []) w49) fun a71 =>
    obind (loopT (s2_laws_FnBlends c3 c29 w49) (a67.x, a71.x, 0)) fun (q82, q83) =>
    obind (getI (c34.1.getD []) w49) fun a86 =>
    obind (bif decide (a86.x < q82) then some false else (obind (getI (c34.1.getD []) w49) fun a91 => some (decide (q83 < a91.x)))) fun c95 =>
    obind (bif (bif decide (a86.x < q82) then true else c95) then some false else (obind (getI (c34.1.getD []) w49) fun a103 => obind (getI (c3.1.getD []) w49) fun a107 => some (!decide (a103.d = a107.d)))) fun c111 =>
    bif (bif (bif decide (a86.x < q82) then true else c95) then true else c111) then
      some (.inr (.inr false))
    else
      some (.inl (wr (w49 + 1)))
  else
    some (.inr (.inl ()))
def s0_laws_FnBlends (c3 : (Sl Feat) × (Sl Feat) × Int) : ((Sl Pair) × Int) → Option (Sum ((Sl Pair) × Int) (Sl Pair)) := fun (w15, w18) =>
  bif decide (w18 < (((c3.1.getD []).length : Nat) : Int)) then
    obind (appO w15 ([(⟨w18, w18⟩ : Pair)] : List Pair)) fun _ =>
    some (.inl ((appS w15 ([(⟨w18, w18⟩ : Pair)] : List Pair)), wr (w18 + 1)))
  else
    some (.inr w15)
def t_laws_FnBlends (code_ : Sl UInt8) (more_ : Sl UInt8) : Option Bool :=
  obind (t_laws_a2Long code_ more_) fun c1 =>
  bif c1 then
    some true
  else
    obind (t_spec_A2Two code_) fun c3 =>
    obind (loopT (s0_laws_FnBlends c3) ((some ([] : List Pair)), 0)) fun q22 =>
    obind (t_impl_BlendFeats c3.1 c3.1 q22) fun c24 =>
    obind (t_spec_A2Path more_ (((c3.1.getD []).length : Nat) : Int) (((c3.2.1.getD []).length : Nat) : Int)) fun c29 =>
    obind (t_impl_BlendFeats c3.1 c3.2.1 c29) fun c34 =>
    obind (bif !decide (c24.2 = 0) then some false else (some (!decide (c34.2 = 0)))) fun c40 =>
    obind (bif (bif !decide (c24.2 = 0) then true else c40) then some false else (obind (t_spec_SameFeats c24.1 c3.1) fun c42 => some (!c42))) fun c43 =>
    obind (bif (bif (bif !decide (c24.2 = 0) then true else c40) then true else c43) then some false else (some (!decide ((((c34.1.getD []).length : Nat) : Int) = (((c3.1.getD []).length : Nat) : Int))))) fun c45 =>
    bif (bif (bif (bif !decide (c24.2 = 0) then true else c40) then true else c43) then true else c45) then
      some false
    else
      obind (loopT (s1_laws_FnBlends c3 c29 c34) 0) fun qq152 => match qq152 with
      | (.inl _) =>
          some true
      | (.inr q60) =>
          some q60

def t_spec_l00Src_among (s_ : l00Src) (list_ : Sl Int) : Option (Int × l00Src) :=
  obind (t_spec_l00Src_pick s_ (((list_.getD []).length : Nat) : Int)) fun c1 =>
  obind (getI (list_.getD []) c1.1) fun a7 =>
  some (a7, (⟨c1.2.code, c1.2.pos, c1.2.seed⟩ : l00Src))

end Go.Proofs.Ytdfdmelcnjggfaa
