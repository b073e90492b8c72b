/-
  Functions that the law FnParts reaches: their walks and contracts, part 1.
-/
import Derived.Test.YtdklppipegepdaaFnPartsGen
namespace Go.Proofs.Ytdklppipegepdaa
open Go Go.Eng Go.Eng.Cod
set_option maxRecDepth 100000
set_option linter.unusedVariables false
set_option linter.unusedSimpArgs false

theorem nil_ok : EnvOK Try.prog (envL []) := E0

def within (a b c : Int) : Bool := decide (b ≤ a) && decide (a ≤ c)

theorem ok_impl_within : PureOK Try.prog n_impl_within (T3 within) := pureT3 nil_ok mixed hb_impl_within fun a b c => by
  simp [e_impl_within, within]

theorem ok_spec_l00In : PureOK Try.prog n_spec_l00In (T3 within) := pureT3 nil_ok mixed hb_spec_l00In fun a b c => by
  simp [e_spec_l00In, within]

def absI (a : Int) : Int := bif decide (a < 0) then wr (-a) else a

theorem ok_impl_abs : PureOK Try.prog n_impl_abs (T1 absI) := pureT1 nil_ok mixed hb_impl_abs fun a => by
  simp [e_impl_abs, absI]

theorem ok_spec_l00Min : PureOK Try.prog n_spec_l00Min (T2 fun a b : Int => min a b) := pureT2 nil_ok mixed hb_spec_l00Min fun a b => by
  simp [e_spec_l00Min, minI]

theorem ok_spec_l00Max : PureOK Try.prog n_spec_l00Max (T2 fun a b : Int => max a b) := pureT2 nil_ok mixed hb_spec_l00Max fun a b => by
  simp [e_spec_l00Max, maxI]

/-- The source of draws: how far it has read, its seed. -/
structure SS where
  at_ : Nat
  w : Int
def srow (q : Sl UInt8) (st : SS) : AObj := ⟨3, [[Sl.enc q, iv (st.at_ : Int), .sc (.int .u64 st.w)]]⟩
theorem store_head (s j k : Nat) (v : AV) (row : List AV) (t : Heap) (h1 : v.cells.length = s) (h2 : j + s ≤ row.length) (h3 : v.cells.all AV.flat = true) : aStore s (.ptr 0 1 0 j) v (⟨k, [row]⟩ :: t) = some (⟨k, [splice row j v.cells]⟩ :: t) := by
  simp only [aStore, List.getElem?_cons_zero, List.length_cons, List.length_nil, Nat.zero_add, if_true]
  rw [if_pos ⟨h1, h2, h3⟩]
  rfl
theorem v_mul (a b : Int) : aBin .mul (.sc (.int .u64 a)) (.sc (.int .u64 b)) = some (.sc (.int .u64 (IntKind.u64.wrap (a * b)))) := (rfl)
theorem v_add (a b : Int) : aBin .add (.sc (.int .u64 a)) (.sc (.int .u64 b)) = some (.sc (.int .u64 (IntKind.u64.wrap (a + b)))) := (rfl)
theorem v_shr40 (a : Int) : aBin .shr (.sc (.int .u64 a)) (.sc (.int .u64 40)) = some (.sc (.int .u64 (a.fdiv (2 ^ 40)))) := (rfl)
theorem v_conv (a : Int) : aConvInt .u64 (iv a) = some (.sc (.int .u64 (IntKind.u64.wrap a))) := (rfl)
theorem v_back (a : Int) : aConvInt .i64 (.sc (.int .u64 a)) = some (iv (wr a)) := (rfl)
theorem v_byte (b : UInt8) : aConvInt .i64 (bt b) = some (iv (b.toNat : Nat)) := by
  have h0 : aConvInt .i64 (bt b) = some (iv (wr (b.toNat : Int))) := rfl
  have := b.toNat_lt
  rw [h0, wr_id (by omega) (by omega)]
theorem v_and (a : Int) : ∃ r : Nat, r ≤ 255 ∧ aBin .and (.sc (.int .u64 a)) (.sc (.int .u64 255)) = some (.sc (.int .u64 (r : Int))) := by
  have h0 : aBin .and (.sc (.int .u64 a)) (.sc (.int .u64 255)) = some (.sc (.int .u64 (IntKind.u64.wrap ((BitVec.ofInt 64 a &&& BitVec.ofInt 64 255).toNat : Nat)))) := rfl
  have h1 : (BitVec.ofInt 64 a &&& BitVec.ofInt 64 255).toNat ≤ 255 := by
    rw [BitVec.toNat_and]
    have : (BitVec.ofInt 64 255).toNat = 255 := by decide
    rw [this]
    exact Nat.and_le_right
  refine ⟨(BitVec.ofInt 64 a &&& BitVec.ofInt 64 255).toNat, h1, ?_⟩
  rw [h0]
  generalize (BitVec.ofInt 64 a &&& BitVec.ofInt 64 255).toNat = r at h1
  congr 3
  simp only [IntKind.wrap, IntKind.bits, IntKind.signed]
  simp only [Bool.false_and, Bool.false_eq_true, if_false]
  omega

/-- What 'l00From' hands out. -/
def fromA (q : Sl UInt8) : AV := .np 3 [[Sl.enc q, iv 0, .sc (.int .u64 0)]] 0 0
theorem ok_spec_l00From : PureOK Try.prog n_spec_l00From (R1 fun q : Sl UInt8 => some (fromA q)) := pureR1 E0 mixed hb_spec_l00From fun q r h => by
  cases h
  apply pureG
  rw [e_spec_l00From]
  cases q <;> rfl
theorem hand_from (q : Sl UInt8) (h : Heap) : hand (fromA q) (noRef depth (Sl.enc q)) h = some (.ptr h.length 1 0 0, h ++ [srow q ⟨0, 0⟩]) := by
  cases q <;> rfl

theorem tt_spec_l00From : PureOK Try.prog n_spec_l00From (C1 fromA (fun q : Sl UInt8 => some q)) := pureR1 E0 mixed hb_spec_l00From fun q r h => by
  cases h
  apply pureG
  rw [e_spec_l00From]
  cases q <;> rfl

def t_laws_a2Long (code_ : Sl UInt8) (more_ : Sl UInt8) : Option Bool :=
  obind (bif decide (3000 < (((code_.getD []).length : Nat) : Int)) then some false else (some (decide (3000 < (((more_.getD []).length : Nat) : Int))))) fun c2 =>
  some (bif decide (3000 < (((code_.getD []).length : Nat) : Int)) then true else c2)

theorem ts_laws_a2Long (env : Nat → Contract)  (code_ : Sl UInt8) (more_ : Sl UInt8) : Sim (denFn Try.prog env n_laws_a2Long [Sl.enc code_, Sl.enc more_] []) (t_laws_a2Long code_ more_) fun c p => release p.2 depth p.1 = some ((fun c : Bool => enc c) c) := by
  have O := Hold.nil []
  generalize hB : (⟨[], []⟩ : Base) = B at O
  clear hB
  rw [e_laws_a2Long]
  unfold t_laws_a2Long
  refine sim_let (v := iv (((code_.getD []).length : Nat) : Int)) (Tab.enc [] code_).len ?_
  refine sim_let (v := bv (decide (3000 < (((code_.getD []).length : Nat) : Int)))) (aBin_gtr _ _) ?_
  refine sim_guardF (e := bv) (fun hb1 => ?_) (fun c2 => ?_)
  · refine sim_let (v := iv (((more_.getD []).length : Nat) : Int)) (Tab.enc [] more_).len ?_
    refine sim_let (v := bv (decide (3000 < (((more_.getD []).length : Nat) : Int)))) (aBin_gtr _ _) ?_
    exact sim_ret rfl
  · refine sim_let (v := bv (bif decide (3000 < (((code_.getD []).length : Nat) : Int)) then true else c2)) (pick_b' _ _ _) ?_
    exact sim_ret (release_plain (by rfl) _)
theorem tt_laws_a2Long : PureOK Try.prog n_laws_a2Long (C2 (fun c : Bool => enc c) t_laws_a2Long) := pureC2 E0 mixed hb_laws_a2Long fun code_ more_ => ts_laws_a2Long _  code_ more_

def t_spec_l00Src_next (s_ : l00Src) : Option (Int × l00Src) :=
  bif decide (s_.pos < (((s_.code.getD []).length : Nat) : Int)) then
    obind (getI (s_.code.getD []) s_.pos) fun a2 =>
    bif decide ((wr (s_.pos + 1)) ≤ (((s_.code.getD []).length : Nat) : Int)) then
      some ((a2.toNat : Int), (⟨s_.code, wr (s_.pos + 1), IntKind.u64.wrap ((IntKind.u64.wrap ((IntKind.u64.wrap (s_.seed * 6364136223846793005)) + (IntKind.u64.wrap (a2.toNat : Int)))) + 1442695040888963407)⟩ : l00Src))
    else
      some (wr (IntKind.u64.wrap ((BitVec.ofInt 64 (Int.fdiv (IntKind.u64.wrap ((IntKind.u64.wrap ((IntKind.u64.wrap (s_.seed * 6364136223846793005)) + (IntKind.u64.wrap (a2.toNat : Int)))) + 1442695040888963407)) (2 ^ 40)) &&& BitVec.ofInt 64 255).toNat : Nat)), (⟨s_.code, wr (s_.pos + 1), IntKind.u64.wrap ((IntKind.u64.wrap ((IntKind.u64.wrap (s_.seed * 6364136223846793005)) + (IntKind.u64.wrap (a2.toNat : Int)))) + 1442695040888963407)⟩ : l00Src))
  else
    bif decide ((wr (s_.pos + 1)) ≤ (((s_.code.getD []).length : Nat) : Int)) then
      some (0, (⟨s_.code, wr (s_.pos + 1), IntKind.u64.wrap ((IntKind.u64.wrap ((IntKind.u64.wrap (s_.seed * 6364136223846793005)) + (IntKind.u64.wrap 0))) + 1442695040888963407)⟩ : l00Src))
    else
      some (wr (IntKind.u64.wrap ((BitVec.ofInt 64 (Int.fdiv (IntKind.u64.wrap ((IntKind.u64.wrap ((IntKind.u64.wrap (s_.seed * 6364136223846793005)) + (IntKind.u64.wrap 0))) + 1442695040888963407)) (2 ^ 40)) &&& BitVec.ofInt 64 255).toNat : Nat)), (⟨s_.code, wr (s_.pos + 1), IntKind.u64.wrap ((IntKind.u64.wrap ((IntKind.u64.wrap (s_.seed * 6364136223846793005)) + (IntKind.u64.wrap 0))) + 1442695040888963407)⟩ : l00Src))

theorem ts_spec_l00Src_next (env : Nat → Contract)  {B : Base} {h : Heap} {o_ : Nat} (s_ : l00Src) (O : Hold B h [(AV.ptr o_ 1 0 0, .pt 3 [Sl.enc s_.code, iv s_.pos, AV.sc (.int .u64 s_.seed)])]) : Sim (denFn Try.prog env n_spec_l00Src_next [AV.ptr o_ 1 0 0] h) (t_spec_l00Src_next s_) (fun c p => p.1 = iv c.1 ∧ Hold B p.2 ([(AV.ptr o_ 1 0 0, .pt 3 [Sl.enc c.2.code, iv c.2.pos, AV.sc (.int .u64 c.2.seed)])])) := by
  rw [e_spec_l00Src_next]
  unfold t_spec_l00Src_next
  refine sim_let (v := AV.ptr o_ 1 0 0) rfl ?_
  refine sim_let (v := AV.ptr o_ 1 0 1) rfl ?_
  refine sim_let (v := iv s_.pos) (O.ld 0 rfl false 1 1) ?_
  refine sim_let (v := AV.ptr o_ 1 0 0) rfl ?_
  refine sim_let (v := AV.ptr o_ 1 0 0) rfl ?_
  refine sim_let (v := Sl.enc s_.code) (O.ld 0 rfl false 1 0) ?_
  refine sim_let (v := iv (((s_.code.getD []).length : Nat) : Int)) (Tab.enc h s_.code).len ?_
  refine sim_let (v := bv (decide (s_.pos < (((s_.code.getD []).length : Nat) : Int)))) (aBin_lss _ _) ?_
  refine sim_cond (fun c1 => ?_) (fun c1 => ?_)
  · refine sim_let (v := AV.ptr o_ 1 0 0) rfl ?_
    refine sim_let (v := AV.ptr o_ 1 0 0) rfl ?_
    refine sim_let (v := Sl.enc s_.code) (O.ld 0 rfl false 1 0) ?_
    refine sim_let (v := AV.ptr o_ 1 0 0) rfl ?_
    refine sim_let (v := AV.ptr o_ 1 0 1) rfl ?_
    refine sim_let (v := iv s_.pos) (O.ld 0 rfl false 1 1) ?_
    refine sim_get (Tab.enc h s_.code) (fun m3 a2 hi4 hm5 => ?_)
    refine sim_let (v := bt a2) ((Tab.enc h s_.code).ld hm5 false 1 0) ?_
    refine sim_let (v := iv (a2.toNat : Int)) (conv_byte _) ?_
    refine sim_let (v := AV.ptr o_ 1 0 0) rfl ?_
    refine sim_let (v := AV.ptr o_ 1 0 1) rfl ?_
    refine sim_let (v := iv s_.pos) (O.ld 0 rfl false 1 1) ?_
    refine sim_let (v := iv (wr (s_.pos + 1))) (aBin_add _ _) ?_
    refine sim_let (v := AV.ptr o_ 1 0 0) rfl ?_
    refine sim_let (v := AV.ptr o_ 1 0 1) rfl ?_
    refine sim_store O 0 (cs' := [Sl.enc s_.code, iv (wr (s_.pos + 1)), AV.sc (.int .u64 s_.seed)]) rfl (by first | rfl | simp) (by simp) (by first | rfl | simp) (by first | rfl | simp [splice]) (fun h6 O7 => ?_)
    replace O7 : Hold B h6 [(AV.ptr o_ 1 0 0, .pt 3 [Sl.enc s_.code, iv (wr (s_.pos + 1)), AV.sc (.int .u64 s_.seed)])] := O7
    refine sim_let (v := AV.ptr o_ 1 0 0) rfl ?_
    refine sim_let (v := AV.ptr o_ 1 0 2) rfl ?_
    refine sim_let (v := AV.sc (.int .u64 s_.seed)) (O7.ld 0 rfl false 1 2) ?_
    refine sim_let (v := AV.sc (.int .u64 (IntKind.u64.wrap (s_.seed * 6364136223846793005)))) rfl ?_
    refine sim_let (v := AV.sc (.int .u64 (IntKind.u64.wrap (a2.toNat : Int)))) rfl ?_
    refine sim_let (v := AV.sc (.int .u64 (IntKind.u64.wrap ((IntKind.u64.wrap (s_.seed * 6364136223846793005)) + (IntKind.u64.wrap (a2.toNat : Int)))))) rfl ?_
    refine sim_let (v := AV.sc (.int .u64 (IntKind.u64.wrap ((IntKind.u64.wrap ((IntKind.u64.wrap (s_.seed * 6364136223846793005)) + (IntKind.u64.wrap (a2.toNat : Int)))) + 1442695040888963407)))) rfl ?_
    refine sim_let (v := AV.ptr o_ 1 0 0) rfl ?_
    refine sim_let (v := AV.ptr o_ 1 0 2) rfl ?_
    refine sim_store O7 0 (cs' := [Sl.enc s_.code, iv (wr (s_.pos + 1)), AV.sc (.int .u64 (IntKind.u64.wrap ((IntKind.u64.wrap ((IntKind.u64.wrap (s_.seed * 6364136223846793005)) + (IntKind.u64.wrap (a2.toNat : Int)))) + 1442695040888963407)))]) rfl (by first | rfl | simp) (by simp) (by first | rfl | simp) (by first | rfl | simp [splice]) (fun h8 O9 => ?_)
    replace O9 : Hold B h8 [(AV.ptr o_ 1 0 0, .pt 3 [Sl.enc s_.code, iv (wr (s_.pos + 1)), AV.sc (.int .u64 (IntKind.u64.wrap ((IntKind.u64.wrap ((IntKind.u64.wrap (s_.seed * 6364136223846793005)) + (IntKind.u64.wrap (a2.toNat : Int)))) + 1442695040888963407)))])] := O9
    refine sim_let (v := AV.ptr o_ 1 0 0) rfl ?_
    refine sim_let (v := AV.ptr o_ 1 0 1) rfl ?_
    refine sim_let (v := iv (wr (s_.pos + 1))) (O9.ld 0 rfl false 1 1) ?_
    refine sim_let (v := AV.ptr o_ 1 0 0) rfl ?_
    refine sim_let (v := AV.ptr o_ 1 0 0) rfl ?_
    refine sim_let (v := Sl.enc s_.code) (O9.ld 0 rfl false 1 0) ?_
    refine sim_let (v := iv (((s_.code.getD []).length : Nat) : Int)) (Tab.enc h8 s_.code).len ?_
    refine sim_let (v := bv (decide ((wr (s_.pos + 1)) ≤ (((s_.code.getD []).length : Nat) : Int)))) (aBin_leq _ _) ?_
    refine sim_cond (fun c10 => ?_) (fun c10 => ?_)
    · exact sim_ret ⟨rfl, O9⟩
    · refine sim_let (v := AV.ptr o_ 1 0 0) rfl ?_
      refine sim_let (v := AV.ptr o_ 1 0 2) rfl ?_
      refine sim_let (v := AV.sc (.int .u64 (IntKind.u64.wrap ((IntKind.u64.wrap ((IntKind.u64.wrap (s_.seed * 6364136223846793005)) + (IntKind.u64.wrap (a2.toNat : Int)))) + 1442695040888963407)))) (O9.ld 0 rfl false 1 2) ?_
      refine sim_let (v := AV.sc (.int .u64 (Int.fdiv (IntKind.u64.wrap ((IntKind.u64.wrap ((IntKind.u64.wrap (s_.seed * 6364136223846793005)) + (IntKind.u64.wrap (a2.toNat : Int)))) + 1442695040888963407)) (2 ^ 40)))) rfl ?_
      refine sim_let (v := AV.sc (.int .u64 (IntKind.u64.wrap ((BitVec.ofInt 64 (Int.fdiv (IntKind.u64.wrap ((IntKind.u64.wrap ((IntKind.u64.wrap (s_.seed * 6364136223846793005)) + (IntKind.u64.wrap (a2.toNat : Int)))) + 1442695040888963407)) (2 ^ 40)) &&& BitVec.ofInt 64 255).toNat : Nat)))) rfl ?_
      refine sim_let (v := iv (wr (IntKind.u64.wrap ((BitVec.ofInt 64 (Int.fdiv (IntKind.u64.wrap ((IntKind.u64.wrap ((IntKind.u64.wrap (s_.seed * 6364136223846793005)) + (IntKind.u64.wrap (a2.toNat : Int)))) + 1442695040888963407)) (2 ^ 40)) &&& BitVec.ofInt 64 255).toNat : Nat)))) rfl ?_
      exact sim_ret ⟨rfl, O9⟩
  · refine sim_let (v := AV.ptr o_ 1 0 0) rfl ?_
    refine sim_let (v := AV.ptr o_ 1 0 1) rfl ?_
    refine sim_let (v := iv s_.pos) (O.ld 0 rfl false 1 1) ?_
    refine sim_let (v := iv (wr (s_.pos + 1))) (aBin_add _ _) ?_
    refine sim_let (v := AV.ptr o_ 1 0 0) rfl ?_
    refine sim_let (v := AV.ptr o_ 1 0 1) rfl ?_
    refine sim_store O 0 (cs' := [Sl.enc s_.code, iv (wr (s_.pos + 1)), AV.sc (.int .u64 s_.seed)]) rfl (by first | rfl | simp) (by simp) (by first | rfl | simp) (by first | rfl | simp [splice]) (fun h13 O14 => ?_)
    replace O14 : Hold B h13 [(AV.ptr o_ 1 0 0, .pt 3 [Sl.enc s_.code, iv (wr (s_.pos + 1)), AV.sc (.int .u64 s_.seed)])] := O14
    refine sim_let (v := AV.ptr o_ 1 0 0) rfl ?_
    refine sim_let (v := AV.ptr o_ 1 0 2) rfl ?_
    refine sim_let (v := AV.sc (.int .u64 s_.seed)) (O14.ld 0 rfl false 1 2) ?_
    refine sim_let (v := AV.sc (.int .u64 (IntKind.u64.wrap (s_.seed * 6364136223846793005)))) rfl ?_
    refine sim_let (v := AV.sc (.int .u64 (IntKind.u64.wrap 0))) rfl ?_
    refine sim_let (v := AV.sc (.int .u64 (IntKind.u64.wrap ((IntKind.u64.wrap (s_.seed * 6364136223846793005)) + (IntKind.u64.wrap 0))))) rfl ?_
    refine sim_let (v := AV.sc (.int .u64 (IntKind.u64.wrap ((IntKind.u64.wrap ((IntKind.u64.wrap (s_.seed * 6364136223846793005)) + (IntKind.u64.wrap 0))) + 1442695040888963407)))) rfl ?_
    refine sim_let (v := AV.ptr o_ 1 0 0) rfl ?_
    refine sim_let (v := AV.ptr o_ 1 0 2) rfl ?_
    refine sim_store O14 0 (cs' := [Sl.enc s_.code, iv (wr (s_.pos + 1)), AV.sc (.int .u64 (IntKind.u64.wrap ((IntKind.u64.wrap ((IntKind.u64.wrap (s_.seed * 6364136223846793005)) + (IntKind.u64.wrap 0))) + 1442695040888963407)))]) rfl (by first | rfl | simp) (by simp) (by first | rfl | simp) (by first | rfl | simp [splice]) (fun h15 O16 => ?_)
    replace O16 : Hold B h15 [(AV.ptr o_ 1 0 0, .pt 3 [Sl.enc s_.code, iv (wr (s_.pos + 1)), AV.sc (.int .u64 (IntKind.u64.wrap ((IntKind.u64.wrap ((IntKind.u64.wrap (s_.seed * 6364136223846793005)) + (IntKind.u64.wrap 0))) + 1442695040888963407)))])] := O16
    refine sim_let (v := AV.ptr o_ 1 0 0) rfl ?_
    refine sim_let (v := AV.ptr o_ 1 0 1) rfl ?_
    refine sim_let (v := iv (wr (s_.pos + 1))) (O16.ld 0 rfl false 1 1) ?_
    refine sim_let (v := AV.ptr o_ 1 0 0) rfl ?_
    refine sim_let (v := AV.ptr o_ 1 0 0) rfl ?_
    refine sim_let (v := Sl.enc s_.code) (O16.ld 0 rfl false 1 0) ?_
    refine sim_let (v := iv (((s_.code.getD []).length : Nat) : Int)) (Tab.enc h15 s_.code).len ?_
    refine sim_let (v := bv (decide ((wr (s_.pos + 1)) ≤ (((s_.code.getD []).length : Nat) : Int)))) (aBin_leq _ _) ?_
    refine sim_cond (fun c17 => ?_) (fun c17 => ?_)
    · exact sim_ret ⟨rfl, O16⟩
    · refine sim_let (v := AV.ptr o_ 1 0 0) rfl ?_
      refine sim_let (v := AV.ptr o_ 1 0 2) rfl ?_
      refine sim_let (v := AV.sc (.int .u64 (IntKind.u64.wrap ((IntKind.u64.wrap ((IntKind.u64.wrap (s_.seed * 6364136223846793005)) + (IntKind.u64.wrap 0))) + 1442695040888963407)))) (O16.ld 0 rfl false 1 2) ?_
      refine sim_let (v := AV.sc (.int .u64 (Int.fdiv (IntKind.u64.wrap ((IntKind.u64.wrap ((IntKind.u64.wrap (s_.seed * 6364136223846793005)) + (IntKind.u64.wrap 0))) + 1442695040888963407)) (2 ^ 40)))) rfl ?_
      refine sim_let (v := AV.sc (.int .u64 (IntKind.u64.wrap ((BitVec.ofInt 64 (Int.fdiv (IntKind.u64.wrap ((IntKind.u64.wrap ((IntKind.u64.wrap (s_.seed * 6364136223846793005)) + (IntKind.u64.wrap 0))) + 1442695040888963407)) (2 ^ 40)) &&& BitVec.ofInt 64 255).toNat : Nat)))) rfl ?_
      refine sim_let (v := iv (wr (IntKind.u64.wrap ((BitVec.ofInt 64 (Int.fdiv (IntKind.u64.wrap ((IntKind.u64.wrap ((IntKind.u64.wrap (s_.seed * 6364136223846793005)) + (IntKind.u64.wrap 0))) + 1442695040888963407)) (2 ^ 40)) &&& BitVec.ofInt 64 255).toNat : Nat)))) rfl ?_
      exact sim_ret ⟨rfl, O16⟩
noncomputable def ev_spec_l00Src_next : Nat → Contract := envL []
theorem eo_spec_l00Src_next : EnvOK Try.prog ev_spec_l00Src_next := E0
theorem tg_spec_l00Src_next {B : Base} {h : Heap} {o_ : Nat} (s_ : l00Src) (O : Hold B h [(AV.ptr o_ 1 0 0, .pt 3 [Sl.enc s_.code, iv s_.pos, AV.sc (.int .u64 s_.seed)])]) : Sim (denFn Try.prog ev_spec_l00Src_next n_spec_l00Src_next [AV.ptr o_ 1 0 0] h) (t_spec_l00Src_next s_) (fun c p => p.1 = iv c.1 ∧ Hold B p.2 ([(AV.ptr o_ 1 0 0, .pt 3 [Sl.enc c.2.code, iv c.2.pos, AV.sc (.int .u64 c.2.seed)])])) := ts_spec_l00Src_next ev_spec_l00Src_next  s_  O

def t_spec_l00Src_pick (s_ : l00Src) (n_ : Int) : Option (Int × l00Src) :=
  bif decide (n_ ≤ 1) then
    some (0, (⟨s_.code, s_.pos, s_.seed⟩ : l00Src))
  else
    obind (t_spec_l00Src_next s_) fun c3 =>
    bif decide (200 < n_) then
      obind (t_spec_l00Src_next c3.2) fun c10 =>
      obind (remI (wr ((wr (c3.1 * 256)) + c10.1)) n_) fun q16 =>
      some (q16, (⟨c10.2.code, c10.2.pos, c10.2.seed⟩ : l00Src))
    else
      obind (remI c3.1 n_) fun q18 =>
      some (q18, (⟨c3.2.code, c3.2.pos, c3.2.seed⟩ : l00Src))

theorem ts_spec_l00Src_pick (env : Nat → Contract) (he_spec_l00Src_next : env n_spec_l00Src_next = .gen (denFn Try.prog ev_spec_l00Src_next n_spec_l00Src_next)) {B : Base} {h : Heap} {o_ : Nat} (s_ : l00Src) (n_ : Int) (O : Hold B h [(AV.ptr o_ 1 0 0, .pt 3 [Sl.enc s_.code, iv s_.pos, AV.sc (.int .u64 s_.seed)])]) : Sim (denFn Try.prog env n_spec_l00Src_pick [AV.ptr o_ 1 0 0, iv n_] h) (t_spec_l00Src_pick s_ n_) (fun c p => p.1 = iv c.1 ∧ Hold B p.2 ([(AV.ptr o_ 1 0 0, .pt 3 [Sl.enc c.2.code, iv c.2.pos, AV.sc (.int .u64 c.2.seed)])])) := by
  rw [e_spec_l00Src_pick]
  unfold t_spec_l00Src_pick
  refine sim_let (v := bv (decide (n_ ≤ 1))) (aBin_leq _ _) ?_
  refine sim_cond (fun c1 => ?_) (fun c1 => ?_)
  · exact sim_ret ⟨rfl, O⟩
  · refine sim_gen he_spec_l00Src_next (tg_spec_l00Src_next s_ (O.start (i := 0) rfl rfl)) (fun c3 v4 h5 hq6 => ?_)
    obtain ⟨e_v4, O7⟩ := hq6
    dsimp only at e_v4
    subst v4
    have O8 : Hold B h5 [(AV.ptr o_ 1 0 0, .pt 3 [Sl.enc c3.2.code, iv c3.2.pos, AV.sc (.int .u64 c3.2.seed)])] := O.merge (i := 0) rfl rfl O7
    refine sim_let (v := bv (decide (200 < n_))) (aBin_gtr _ _) ?_
    refine sim_cond (fun c9 => ?_) (fun c9 => ?_)
    · refine sim_let (v := iv (wr (c3.1 * 256))) (aBin_mul _ _) ?_
      refine sim_gen he_spec_l00Src_next (tg_spec_l00Src_next c3.2 (O8.start (i := 0) rfl rfl)) (fun c10 v11 h12 hq13 => ?_)
      obtain ⟨e_v11, O14⟩ := hq13
      dsimp only at e_v11
      subst v11
      have O15 : Hold B h12 [(AV.ptr o_ 1 0 0, .pt 3 [Sl.enc c10.2.code, iv c10.2.pos, AV.sc (.int .u64 c10.2.seed)])] := O8.merge (i := 0) rfl rfl O14
      refine sim_let (v := iv (wr ((wr (c3.1 * 256)) + c10.1))) (aBin_add _ _) ?_
      refine sim_rem (fun q16 => ?_)
      exact sim_ret ⟨rfl, O15⟩
    · refine sim_rem (fun q18 => ?_)
      exact sim_ret ⟨rfl, O8⟩
noncomputable def ev_spec_l00Src_pick : Nat → Contract := envL [(n_spec_l00Src_next, .gen (denFn Try.prog ev_spec_l00Src_next n_spec_l00Src_next))]
theorem eo_spec_l00Src_pick : EnvOK Try.prog ev_spec_l00Src_pick := (EconsG (gen_of_den eo_spec_l00Src_next mixed hb_spec_l00Src_next) E0)
theorem tg_spec_l00Src_pick {B : Base} {h : Heap} {o_ : Nat} (s_ : l00Src) (n_ : Int) (O : Hold B h [(AV.ptr o_ 1 0 0, .pt 3 [Sl.enc s_.code, iv s_.pos, AV.sc (.int .u64 s_.seed)])]) : Sim (denFn Try.prog ev_spec_l00Src_pick n_spec_l00Src_pick [AV.ptr o_ 1 0 0, iv n_] h) (t_spec_l00Src_pick s_ n_) (fun c p => p.1 = iv c.1 ∧ Hold B p.2 ([(AV.ptr o_ 1 0 0, .pt 3 [Sl.enc c.2.code, iv c.2.pos, AV.sc (.int .u64 c.2.seed)])])) := ts_spec_l00Src_pick ev_spec_l00Src_pick (by simp [ev_spec_l00Src_pick, envL]) s_ n_  O

def s0_spec_l09Draw : ((Sl UInt8) × Int × Int × (Sl Feat) × Int × Int × Int) → Option (Sum ((Sl UInt8) × Int × Int × (Sl Feat) × Int × Int × Int) ((Sl UInt8) × Int × Int × (Sl Feat))) := fun (w23, w24, w25, w27, w30, w31, w32) =>
  bif decide (0 < w32) then
    obind (t_spec_l00Src_pick (⟨w23, w24, w25⟩ : l00Src) 8) fun c45 =>
    obind (appO w27 ([(⟨w30, w31, c45.1⟩ : Feat)] : List Feat)) fun _ =>
    obind (t_spec_l00Src_pick c45.2 61) fun c61 =>
    obind (some ((fun a b : Int => min a b) 255 (wr ((wr (w30 + c61.1)) - 30)))) fun c67 =>
    obind (some ((fun a b : Int => max a b) 0 c67)) fun c68 =>
    obind (t_spec_l00Src_pick c61.2 61) fun c69 =>
    obind (some ((fun a b : Int => min a b) 255 (wr ((wr (w31 + c69.1)) - 30)))) fun c75 =>
    obind (some ((fun a b : Int => max a b) 0 c75)) fun c76 =>
    some (.inl (c69.2.code, c69.2.pos, c69.2.seed, (appS w27 ([(⟨w30, w31, c45.1⟩ : Feat)] : List Feat)), c68, c76, wr (w32 - 1)))
  else
    some (.inr (w23, w24, w25, w27))
def t_spec_l09Draw (s_ : l00Src) (most_ : Int) : Option ((Sl Feat) × l00Src) :=
  obind (t_spec_l00Src_pick s_ 256) fun c5 =>
  obind (t_spec_l00Src_pick c5.2 256) fun c11 =>
  obind (t_spec_l00Src_pick c11.2 most_) fun c17 =>
  obind (loopT s0_spec_l09Draw (c17.2.code, c17.2.pos, c17.2.seed, (some ([] : List Feat)), c5.1, c11.1, wr (1 + c17.1))) fun (q35, q36, q37, q39) =>
  some (q39, (⟨q35, q36, q37⟩ : l00Src))

theorem tl0_spec_l09Draw (env : Nat → Contract) {B : Base} (he_spec_l00Max : env n_spec_l00Max = .pure (T2 (fun a b : Int => max a b))) (he_spec_l00Min : env n_spec_l00Min = .pure (T2 (fun a b : Int => min a b))) (he_spec_l00Src_pick : env n_spec_l00Src_pick = .gen (denFn Try.prog ev_spec_l00Src_pick n_spec_l00Src_pick)) (o_ : Nat) (most_ : Int) (x1 : AV) (c5 : Int × l00Src) (c11 : Int × l00Src) (c17 : Int × l00Src)  {st : (Sl UInt8) × Int × Int × (Sl Feat) × Int × Int × Int} {tm : TM} {h : Heap} (R : (fun (st : (Sl UInt8) × Int × Int × (Sl Feat) × Int × Int × Int) tm h28 => match st with | (w23, w24, w25, w27, w30, w31, w32) => ∃ z26, tm = [AV.ptr o_ 1 0 0, iv most_, und, und, nilS, z26, iv w30, iv w31, iv w32, x1, AV.ptr o_ 1 0 0, iv c5.1, AV.ptr o_ 1 0 0, iv c11.1, AV.ptr o_ 1 0 0, iv most_, iv c17.1, iv (wr (1 + c17.1)), AV.top, AV.top, AV.top, AV.top, AV.top, AV.top, AV.top, AV.top, AV.top, AV.top, AV.top, AV.top, AV.top, AV.top, AV.top, AV.top, AV.top, AV.top, AV.top, AV.top, AV.top, AV.top, AV.top, AV.top, AV.top, AV.top, und] ∧ Hold B h28 [(AV.ptr o_ 1 0 0, .pt 3 [Sl.enc w23, iv w24, AV.sc (.int .u64 w25)]), (z26, obS (w27 : Sl Feat))]) st tm h) : Sim (loopP hm0_spec_l09Draw xm0_spec_l09Draw (lb0_spec_l09Draw env) tm h) (loopT s0_spec_l09Draw st) (fun (q : (Sl UInt8) × Int × Int × (Sl Feat)) (r : Res) => match q with | (q35, q36, q37, q39) => ∃ (q40 : Int) (q41 : Int) (q42 : Int) (z38 : AV) (h33 : Heap), r = (.exit 0, [AV.ptr o_ 1 0 0, iv most_, und, und, nilS, z38, iv q40, iv q41, iv q42, x1, AV.ptr o_ 1 0 0, iv c5.1, AV.ptr o_ 1 0 0, iv c11.1, AV.ptr o_ 1 0 0, iv most_, iv c17.1, iv (wr (1 + c17.1)), AV.top, AV.top, AV.top, AV.top, AV.top, AV.top, AV.top, AV.top, AV.top, AV.top, AV.top, AV.top, AV.top, AV.top, AV.top, AV.top, AV.top, AV.top, AV.top, AV.top, AV.top, AV.top, AV.top, AV.top, AV.top, AV.top, und], h33) ∧ Hold B h33 [(AV.ptr o_ 1 0 0, .pt 3 [Sl.enc q35, iv q36, AV.sc (.int .u64 q37)]), (z38, obS (q39 : Sl Feat))]) := by
  refine loop_sim (Rel := fun (st : (Sl UInt8) × Int × Int × (Sl Feat) × Int × Int × Int) tm h28 => match st with | (w23, w24, w25, w27, w30, w31, w32) => ∃ z26, tm = [AV.ptr o_ 1 0 0, iv most_, und, und, nilS, z26, iv w30, iv w31, iv w32, x1, AV.ptr o_ 1 0 0, iv c5.1, AV.ptr o_ 1 0 0, iv c11.1, AV.ptr o_ 1 0 0, iv most_, iv c17.1, iv (wr (1 + c17.1)), AV.top, AV.top, AV.top, AV.top, AV.top, AV.top, AV.top, AV.top, AV.top, AV.top, AV.top, AV.top, AV.top, AV.top, AV.top, AV.top, AV.top, AV.top, AV.top, AV.top, AV.top, AV.top, AV.top, AV.top, AV.top, AV.top, und] ∧ Hold B h28 [(AV.ptr o_ 1 0 0, .pt 3 [Sl.enc w23, iv w24, AV.sc (.int .u64 w25)]), (z26, obS (w27 : Sl Feat))]) (fun st tm h28 R => ?_) R
  obtain ⟨w23, w24, w25, w27, w30, w31, w32⟩ := st
  obtain ⟨z26, rfl, O29⟩ := R
  rw [e_lb0_spec_l09Draw]
  unfold s0_spec_l09Draw
  dsimp only
  refine sim_let (v := bv (decide (0 < w32))) (aBin_gtr _ _) ?_
  refine sim_cond (fun c44 => ?_) (fun c44 => ?_)
  · refine sim_gen he_spec_l00Src_pick (tg_spec_l00Src_pick (⟨w23, w24, w25⟩ : l00Src) 8 (O29.start (i := 0) rfl rfl)) (fun c45 v46 h47 hq48 => ?_)
    obtain ⟨e_v46, O49⟩ := hq48
    dsimp only at e_v46
    subst v46
    have O50 : Hold B h47 [(AV.ptr o_ 1 0 0, .pt 3 [Sl.enc c45.2.code, iv c45.2.pos, AV.sc (.int .u64 c45.2.seed)]), (z26, obS (w27 : Sl Feat))] := O29.merge (i := 0) rfl rfl O49
    refine sim_let (v := AV.agg [iv w30, iv w31, iv c45.1]) (by first | rfl | simp [aBuild, aFill, splice]) ?_
    refine sim_build (A := Feat) O50 ([(⟨w30, w31, c45.1⟩ : Feat)] : List Feat) rfl (by first | rfl | simp [aFillRows, zrows]) rfl (fun x51 h52 O53 => ?_)
    replace O53 : Hold B h52 [(AV.ptr o_ 1 0 0, .pt 3 [Sl.enc c45.2.code, iv c45.2.pos, AV.sc (.int .u64 c45.2.seed)]), (z26, obS (w27 : Sl Feat)), (x51, obS ((some ([(⟨w30, w31, c45.1⟩ : Feat)] : List Feat)) : Sl Feat))] := O53
    refine sim_append (A := Feat) (s := w27) O53 1 ([(⟨w30, w31, c45.1⟩ : Feat)] : List Feat) rfl (O53.src (A := Feat) (s := (some ([(⟨w30, w31, c45.1⟩ : Feat)] : List Feat))) 2 rfl) (by decide) (fun x56 h57 O58 => ?_)
    replace O58 : Hold B h57 [(AV.ptr o_ 1 0 0, .pt 3 [Sl.enc c45.2.code, iv c45.2.pos, AV.sc (.int .u64 c45.2.seed)]), (x56, obS ((appS w27 ([(⟨w30, w31, c45.1⟩ : Feat)] : List Feat)) : Sl Feat)), (x51, obS ((some ([(⟨w30, w31, c45.1⟩ : Feat)] : List Feat)) : Sl Feat))] := O58
    have O60 : Hold B h57 [(AV.ptr o_ 1 0 0, .pt 3 [Sl.enc c45.2.code, iv c45.2.pos, AV.sc (.int .u64 c45.2.seed)]), (x56, obS ((appS w27 ([(⟨w30, w31, c45.1⟩ : Feat)] : List Feat)) : Sl Feat))] := O58.sel [0, 1] (by decide) rfl
    refine sim_gen he_spec_l00Src_pick (tg_spec_l00Src_pick c45.2 61 (O60.start (i := 0) rfl rfl)) (fun c61 v62 h63 hq64 => ?_)
    obtain ⟨e_v62, O65⟩ := hq64
    dsimp only at e_v62
    subst v62
    have O66 : Hold B h63 [(AV.ptr o_ 1 0 0, .pt 3 [Sl.enc c61.2.code, iv c61.2.pos, AV.sc (.int .u64 c61.2.seed)]), (x56, obS ((appS w27 ([(⟨w30, w31, c45.1⟩ : Feat)] : List Feat)) : Sl Feat))] := O60.merge (i := 0) rfl rfl O65
    refine sim_let (v := iv (wr (w30 + c61.1))) (aBin_add _ _) ?_
    refine sim_let (v := iv (wr ((wr (w30 + c61.1)) - 30))) (aBin_sub _ _) ?_
    refine sim_callV2 (t := (fun a b : Int => min a b)) he_spec_l00Min (snapD_int _ _) (snapD_int _ _) (fun c67 => ?_)
    refine sim_callV2 (t := (fun a b : Int => max a b)) he_spec_l00Max (snapD_int _ _) (snapD_int _ _) (fun c68 => ?_)
    refine sim_gen he_spec_l00Src_pick (tg_spec_l00Src_pick c61.2 61 (O66.start (i := 0) rfl rfl)) (fun c69 v70 h71 hq72 => ?_)
    obtain ⟨e_v70, O73⟩ := hq72
    dsimp only at e_v70
    subst v70
    have O74 : Hold B h71 [(AV.ptr o_ 1 0 0, .pt 3 [Sl.enc c69.2.code, iv c69.2.pos, AV.sc (.int .u64 c69.2.seed)]), (x56, obS ((appS w27 ([(⟨w30, w31, c45.1⟩ : Feat)] : List Feat)) : Sl Feat))] := O66.merge (i := 0) rfl rfl O73
    refine sim_let (v := iv (wr (w31 + c69.1))) (aBin_add _ _) ?_
    refine sim_let (v := iv (wr ((wr (w31 + c69.1)) - 30))) (aBin_sub _ _) ?_
    refine sim_callV2 (t := (fun a b : Int => min a b)) he_spec_l00Min (snapD_int _ _) (snapD_int _ _) (fun c75 => ?_)
    refine sim_callV2 (t := (fun a b : Int => max a b)) he_spec_l00Max (snapD_int _ _) (snapD_int _ _) (fun c76 => ?_)
    refine sim_let (v := iv (wr (w32 - 1))) (aBin_sub _ _) ?_
    exact sim_ret ⟨rfl, _, rfl, O74⟩
  · exact sim_ret ⟨nofun, _, _, _, _, _, rfl, O29⟩
theorem ts_spec_l09Draw (env : Nat → Contract) (he_spec_l00Max : env n_spec_l00Max = .pure (T2 (fun a b : Int => max a b))) (he_spec_l00Min : env n_spec_l00Min = .pure (T2 (fun a b : Int => min a b))) (he_spec_l00Src_pick : env n_spec_l00Src_pick = .gen (denFn Try.prog ev_spec_l00Src_pick n_spec_l00Src_pick)) {B : Base} {h : Heap} {o_ : Nat} (s_ : l00Src) (most_ : Int) (O : Hold B h [(AV.ptr o_ 1 0 0, .pt 3 [Sl.enc s_.code, iv s_.pos, AV.sc (.int .u64 s_.seed)])]) : Sim (denFn Try.prog env n_spec_l09Draw [AV.ptr o_ 1 0 0, iv most_] h) (t_spec_l09Draw s_ most_) (fun c p => ∃ x1, p.1 = x1 ∧ Hold B p.2 ([(AV.ptr o_ 1 0 0, .pt 3 [Sl.enc c.2.code, iv c.2.pos, AV.sc (.int .u64 c.2.seed)]), (x1, obS (c.1 : Sl Feat))])) := by
  rw [e_spec_l09Draw]
  unfold t_spec_l09Draw
  refine sim_build (A := Feat) O ([] : List Feat) rfl (by first | rfl | simp [aFillRows, zrows]) rfl (fun x1 h2 O3 => ?_)
  replace O3 : Hold B h2 [(AV.ptr o_ 1 0 0, .pt 3 [Sl.enc s_.code, iv s_.pos, AV.sc (.int .u64 s_.seed)]), (x1, obS ((some ([] : List Feat)) : Sl Feat))] := O3
  refine sim_gen he_spec_l00Src_pick (tg_spec_l00Src_pick s_ 256 (O3.start (i := 0) rfl rfl)) (fun c5 v6 h7 hq8 => ?_)
  obtain ⟨e_v6, O9⟩ := hq8
  dsimp only at e_v6
  subst v6
  have O10 : Hold B h7 [(AV.ptr o_ 1 0 0, .pt 3 [Sl.enc c5.2.code, iv c5.2.pos, AV.sc (.int .u64 c5.2.seed)]), (x1, obS ((some ([] : List Feat)) : Sl Feat))] := O3.merge (i := 0) rfl rfl O9
  refine sim_gen he_spec_l00Src_pick (tg_spec_l00Src_pick c5.2 256 (O10.start (i := 0) rfl rfl)) (fun c11 v12 h13 hq14 => ?_)
  obtain ⟨e_v12, O15⟩ := hq14
  dsimp only at e_v12
  subst v12
  have O16 : Hold B h13 [(AV.ptr o_ 1 0 0, .pt 3 [Sl.enc c11.2.code, iv c11.2.pos, AV.sc (.int .u64 c11.2.seed)]), (x1, obS ((some ([] : List Feat)) : Sl Feat))] := O10.merge (i := 0) rfl rfl O15
  refine sim_gen he_spec_l00Src_pick (tg_spec_l00Src_pick c11.2 most_ (O16.start (i := 0) rfl rfl)) (fun c17 v18 h19 hq20 => ?_)
  obtain ⟨e_v18, O21⟩ := hq20
  dsimp only at e_v18
  subst v18
  have O22 : Hold B h19 [(AV.ptr o_ 1 0 0, .pt 3 [Sl.enc c17.2.code, iv c17.2.pos, AV.sc (.int .u64 c17.2.seed)]), (x1, obS ((some ([] : List Feat)) : Sl Feat))] := O16.merge (i := 0) rfl rfl O21
  refine sim_let (v := iv (wr (1 + c17.1))) (aBin_add _ _) ?_
  refine sim_bind ((tl0_spec_l09Draw env he_spec_l00Max he_spec_l00Min he_spec_l00Src_pick o_ most_ x1 c5 c11 c17) ⟨_, rfl, O22⟩) (fun qq80 r hq => ?_)
  obtain ⟨q35, q36, q37, q39⟩ := qq80
  obtain ⟨q40, q41, q42, z38, h33, rfl, O34⟩ := hq
  rw [e_lk0x0_spec_l09Draw]
  exact sim_ret ⟨_, rfl, O34⟩
noncomputable def ev_spec_l09Draw : Nat → Contract := envL [(n_spec_l00Max, .pure (T2 (fun a b : Int => max a b))), (n_spec_l00Min, .pure (T2 (fun a b : Int => min a b))), (n_spec_l00Src_pick, .gen (denFn Try.prog ev_spec_l00Src_pick n_spec_l00Src_pick))]
theorem eo_spec_l09Draw : EnvOK Try.prog ev_spec_l09Draw := (Econs ok_spec_l00Max (Econs ok_spec_l00Min (EconsG (gen_of_den eo_spec_l00Src_pick mixed hb_spec_l00Src_pick) E0)))
theorem tg_spec_l09Draw {B : Base} {h : Heap} {o_ : Nat} (s_ : l00Src) (most_ : Int) (O : Hold B h [(AV.ptr o_ 1 0 0, .pt 3 [Sl.enc s_.code, iv s_.pos, AV.sc (.int .u64 s_.seed)])]) : Sim (denFn Try.prog ev_spec_l09Draw n_spec_l09Draw [AV.ptr o_ 1 0 0, iv most_] h) (t_spec_l09Draw s_ most_) (fun c p => ∃ x1, p.1 = x1 ∧ Hold B p.2 ([(AV.ptr o_ 1 0 0, .pt 3 [Sl.enc c.2.code, iv c.2.pos, AV.sc (.int .u64 c.2.seed)]), (x1, obS (c.1 : Sl Feat))])) := ts_spec_l09Draw ev_spec_l09Draw (by simp [ev_spec_l09Draw, envL]) (by simp [ev_spec_l09Draw, envL]) (by simp [ev_spec_l09Draw, envL]) s_ most_  O

def t_spec_A2Feats (code_ : Sl UInt8) : Option (Sl Feat) :=
  obind (t_spec_l09Draw (⟨code_, 0, 0⟩ : l00Src) 9) fun c5 =>
  some c5.1

theorem ts_spec_A2Feats (env : Nat → Contract) (he_spec_l00From : env n_spec_l00From = .pure (C1 fromA (fun q : Sl UInt8 => some q))) (he_spec_l09Draw : env n_spec_l09Draw = .gen (denFn Try.prog ev_spec_l09Draw n_spec_l09Draw)) (code_ : Sl UInt8) : Sim (denFn Try.prog env n_spec_A2Feats [Sl.enc code_] []) (t_spec_A2Feats code_) fun c p => release p.2 depth p.1 = some ((fun c : (Sl Feat) => rS c) c) := by
  have O := Hold.nil []
  generalize hB : (⟨[], []⟩ : Base) = B at O
  clear hB
  rw [e_spec_A2Feats]
  unfold t_spec_A2Feats
  refine sim_src O he_spec_l00From (snapD_enc _ _) (by first | rfl | exact noRef_enc _) (fun o1 h2 O3 => ?_)
  replace O3 : Hold B h2 [(AV.ptr o1 1 0 0, .pt 3 [Sl.enc code_, iv 0, AV.sc (.int .u64 0)])] := O3
  refine sim_gen he_spec_l09Draw (tg_spec_l09Draw (⟨code_, 0, 0⟩ : l00Src) 9 (O3.start (i := 0) rfl rfl)) (fun c5 v6 h7 hq8 => ?_)
  obtain ⟨x11, e_v6, O9⟩ := hq8
  dsimp only at e_v6
  subst v6
  have O10 : Hold B h7 [(AV.ptr o1 1 0 0, .pt 3 [Sl.enc c5.2.code, iv c5.2.pos, AV.sc (.int .u64 c5.2.seed)]), (x11, obS (c5.1 : Sl Feat))] := O3.merge (i := 0) rfl rfl O9
  exact sim_ret (O10.rel (A := Feat) (s := c5.1) 1 rfl)
theorem tt_spec_A2Feats : PureOK Try.prog n_spec_A2Feats (C1 (fun c : (Sl Feat) => rS c) t_spec_A2Feats) := pureC1 (Econs tt_spec_l00From (EconsG (gen_of_den eo_spec_l09Draw mixed hb_spec_l09Draw) E0)) mixed hb_spec_A2Feats fun code_ => ts_spec_A2Feats _ (by simp [envL]) (by simp [envL]) code_

def s0_slices_IndexFunc_impl_Feat_impl_Feat (p_ : Feat → Option Bool) (s_ : Sl Feat) : Int → Option (Sum Int (Sum Unit Int)) := fun w3 =>
  bif decide (w3 < (((s_.getD []).length : Nat) : Int)) then
    obind (getI (s_.getD []) w3) fun a13 =>
    obind (p_ a13) fun c17 =>
    bif c17 then
      some (.inr (.inr w3))
    else
      some (.inl (wr (w3 + 1)))
  else
    some (.inr (.inl ()))
def t_slices_IndexFunc_impl_Feat_impl_Feat (p_ : Feat → Option Bool) (s_ : Sl Feat) : Option Int :=
  obind (loopT (s0_slices_IndexFunc_impl_Feat_impl_Feat p_ s_) 0) fun qq26 => match qq26 with
  | (.inl _) =>
      some (-1)
  | (.inr q10) =>
      some q10

theorem tl0_slices_IndexFunc_impl_Feat_impl_Feat (env : Nat → Contract) {B : Base} {K : Type} [Cod K] {g : Nat} {caps : K → List AV} {P : K → Feat → Option Bool} (hp : ∀ k (a : Feat) h, Sim (aCall (env g) (AV.agg (Row.cells a) :: caps k) h) (P k a) fun b r => r = (bv b, h))  (s_ : Sl Feat) (f_ : K)  {st : Int} {tm : TM} {h : Heap} (R : (fun (st : Int) tm h1 => match st with | w3 => tm = [Sl.enc s_, AV.fn g (caps f_), und, und, AV.top, AV.top, Sl.enc s_, iv (((s_.getD []).length : Nat) : Int), iv w3, AV.top, AV.top, AV.top, AV.top, AV.top, AV.top, AV.top, AV.top, AV.top, AV.top] ∧ Hold B h1 []) st tm h) : Sim (loopP hm0_slices_IndexFunc_impl_Feat_impl_Feat xm0_slices_IndexFunc_impl_Feat_impl_Feat (lb0_slices_IndexFunc_impl_Feat_impl_Feat env) tm h) (loopT (s0_slices_IndexFunc_impl_Feat_impl_Feat (P f_) s_) st) (fun (q : Sum Unit Int) (r : Res) => match q with | .inl _ => ∃ (z6 : AV) (z7 : AV) (h4 : Heap), r = (.exit 0, [Sl.enc s_, AV.fn g (caps f_), und, und, z6, z7, Sl.enc s_, iv (((s_.getD []).length : Nat) : Int), AV.top, AV.top, AV.top, AV.top, AV.top, AV.top, AV.top, AV.top, AV.top, AV.top, AV.top], h4) ∧ Hold B h4 [] | .inr q10 => ∃ (q11 : Int) (h8 : Heap), r = (.ret, [Sl.enc s_, AV.fn g (caps f_), und, und, iv q10, iv q11, Sl.enc s_, iv (((s_.getD []).length : Nat) : Int), AV.top, AV.top, AV.top, AV.top, AV.top, AV.top, AV.top, AV.top, AV.top, AV.top, AV.top], h8) ∧ Hold B h8 []) := by
  refine loop_sim (Rel := fun (st : Int) tm h1 => match st with | w3 => tm = [Sl.enc s_, AV.fn g (caps f_), und, und, AV.top, AV.top, Sl.enc s_, iv (((s_.getD []).length : Nat) : Int), iv w3, AV.top, AV.top, AV.top, AV.top, AV.top, AV.top, AV.top, AV.top, AV.top, AV.top] ∧ Hold B h1 []) (fun w3 tm h1 R => ?_) R
  obtain ⟨rfl, O2⟩ := R
  rw [e_lb0_slices_IndexFunc_impl_Feat_impl_Feat]
  unfold s0_slices_IndexFunc_impl_Feat_impl_Feat
  dsimp only
  refine sim_let (v := bv (decide (w3 < (((s_.getD []).length : Nat) : Int)))) (aBin_lss _ _) ?_
  refine sim_cond (fun c12 => ?_) (fun c12 => ?_)
  · refine sim_get (Tab.enc h1 s_) (fun m14 a13 hi15 hm16 => ?_)
    refine sim_let (v := AV.agg [iv a13.x, iv a13.y, iv a13.d]) ((Tab.enc h1 s_).ld hm16 true 3 0) ?_
    refine sim_bind2 (hp f_ a13 _) (fun c17 v18 hh19 hq20 => ?_)
    cases hq20
    refine sim_cond (fun c21 => ?_) (fun c21 => ?_)
    · exact sim_ret ⟨nofun, _, _, rfl, O2⟩
    · refine sim_let (v := iv (wr (w3 + 1))) (aBin_add _ _) ?_
      exact sim_ret ⟨rfl, rfl, O2⟩
  · exact sim_ret ⟨nofun, _, _, _, rfl, O2⟩
theorem ts_slices_IndexFunc_impl_Feat_impl_Feat (env : Nat → Contract) {K : Type} [Cod K] {g : Nat} {caps : K → List AV} {P : K → Feat → Option Bool} (hp : ∀ k (a : Feat) h, Sim (aCall (env g) (AV.agg (Row.cells a) :: caps k) h) (P k a) fun b r => r = (bv b, h))  (s_ : Sl Feat) (f_ : K) : Sim (denFn Try.prog env n_slices_IndexFunc_impl_Feat_impl_Feat [Sl.enc s_, AV.fn g (caps f_)] []) (t_slices_IndexFunc_impl_Feat_impl_Feat (P f_) s_) fun c p => release p.2 depth p.1 = some ((fun c : Int => enc c) c) := by
  have O := Hold.nil []
  generalize hB : (⟨[], []⟩ : Base) = B at O
  clear hB
  rw [e_slices_IndexFunc_impl_Feat_impl_Feat]
  unfold t_slices_IndexFunc_impl_Feat_impl_Feat
  refine sim_let (v := iv (((s_.getD []).length : Nat) : Int)) (Tab.enc [] s_).len ?_
  refine sim_bind ((tl0_slices_IndexFunc_impl_Feat_impl_Feat env hp s_ f_) ⟨rfl, O⟩) (fun qq26 r hq => ?_)
  rcases qq26 with _ | q10
  · obtain ⟨z6, z7, h4, rfl, O5⟩ := hq
    rw [e_lk0x0_slices_IndexFunc_impl_Feat_impl_Feat]
    exact sim_ret (release_plain (by rfl) _)
  · obtain ⟨q11, h8, rfl, O9⟩ := hq
    rw [e_lk0r_slices_IndexFunc_impl_Feat_impl_Feat]
    exact sim_ret (release_plain (by rfl) _)
theorem tt0_slices_IndexFunc_impl_Feat_impl_Feat {g : Nat} {t : Feat → Option Bool} (hg : PureOK Try.prog g (C1 (fun c : Bool => enc c) t)) : PureOK Try.prog n_slices_IndexFunc_impl_Feat_impl_Feat (C2 (fun c : Int => enc c) (fun (q : Sl Feat) (k : Clo0 g) => t_slices_IndexFunc_impl_Feat_impl_Feat ((fun _ : Clo0 g => t) k) q)) := pureC2 (Econs hg E0) mixed hb_slices_IndexFunc_impl_Feat_impl_Feat fun q k => ts_slices_IndexFunc_impl_Feat_impl_Feat _ (caps := fun _ => []) (P := (fun _ : Clo0 g => t)) (fun k a h => callP0 (by simp [envL]) (snapD_nr _ a rfl)) q k
theorem tt1_slices_IndexFunc_impl_Feat_impl_Feat {g : Nat} {X : Type} [Row X] {tp : Feat → Pt X → Option Bool} (hg : PureOK Try.prog g (C2 (fun c : Bool => enc c) tp)) : PureOK Try.prog n_slices_IndexFunc_impl_Feat_impl_Feat (C2 (fun c : Int => enc c) (fun (q : Sl Feat) (k : Clo g (Pt X)) => t_slices_IndexFunc_impl_Feat_impl_Feat ((fun (k : Clo g (Pt X)) a => tp a k.val) k) q)) := pureC2 (Econs hg E0) mixed hb_slices_IndexFunc_impl_Feat_impl_Feat fun q k => ts_slices_IndexFunc_impl_Feat_impl_Feat _ (caps := fun k : Clo g (Pt X) => [enc k.val]) (P := (fun (k : Clo g (Pt X)) a => tp a k.val)) (fun k a h => callP1 (by simp [envL]) (snapD_nr _ a rfl) (snapD_fptr _ _ _ _ rfl)) q k

def t_slices_ContainsFunc_impl_Feat_impl_Feat (p_ : Feat → Option Bool) (s_ : Sl Feat) : Option Bool :=
  obind (t_slices_IndexFunc_impl_Feat_impl_Feat p_ s_) fun c1 =>
  some (decide (0 ≤ c1))

theorem ts_slices_ContainsFunc_impl_Feat_impl_Feat (env : Nat → Contract) {K : Type} [Cod K] {g : Nat} {caps : K → List AV} {P : K → Feat → Option Bool} (hs : ∀ k h, snapD h (AV.fn g (caps k)) = some k) (he_slices_IndexFunc_impl_Feat_impl_Feat : env n_slices_IndexFunc_impl_Feat_impl_Feat = .pure (C2 (fun c : Int => enc c) (fun (q : Sl Feat) (k : K) => t_slices_IndexFunc_impl_Feat_impl_Feat (P k) q))) (s_ : Sl Feat) (f_ : K) : Sim (denFn Try.prog env n_slices_ContainsFunc_impl_Feat_impl_Feat [Sl.enc s_, AV.fn g (caps f_)] []) (t_slices_ContainsFunc_impl_Feat_impl_Feat (P f_) s_) fun c p => release p.2 depth p.1 = some ((fun c : Bool => enc c) c) := by
  have O := Hold.nil []
  generalize hB : (⟨[], []⟩ : Base) = B at O
  clear hB
  rw [e_slices_ContainsFunc_impl_Feat_impl_Feat]
  unfold t_slices_ContainsFunc_impl_Feat_impl_Feat
  refine sim_call2 (t := fun (q : Sl Feat) (k : K) => t_slices_IndexFunc_impl_Feat_impl_Feat (P k) q) he_slices_IndexFunc_impl_Feat_impl_Feat (snapD_enc _ _) (hs f_ _) (fun c1 => ?_)
  refine sim_let2 (hand_plain (by rfl) _ _) ?_
  refine sim_let (v := bv (decide (0 ≤ c1))) (aBin_geq _ _) ?_
  exact sim_ret (release_plain (by rfl) _)
theorem tt0_slices_ContainsFunc_impl_Feat_impl_Feat {g : Nat} {t : Feat → Option Bool} (hg : PureOK Try.prog g (C1 (fun c : Bool => enc c) t)) : PureOK Try.prog n_slices_ContainsFunc_impl_Feat_impl_Feat (C2 (fun c : Bool => enc c) (fun (q : Sl Feat) (k : Clo0 g) => t_slices_ContainsFunc_impl_Feat_impl_Feat ((fun _ : Clo0 g => t) k) q)) := pureC2 (Econs (tt0_slices_IndexFunc_impl_Feat_impl_Feat hg) E0) mixed hb_slices_ContainsFunc_impl_Feat_impl_Feat fun q k => ts_slices_ContainsFunc_impl_Feat_impl_Feat _ (caps := fun _ => []) (P := (fun _ : Clo0 g => t)) (fun k h => snapD_clo0 h g) (by simp [envL]) q k
theorem tt1_slices_ContainsFunc_impl_Feat_impl_Feat {g : Nat} {X : Type} [Row X] {tp : Feat → Pt X → Option Bool} (hg : PureOK Try.prog g (C2 (fun c : Bool => enc c) tp)) : PureOK Try.prog n_slices_ContainsFunc_impl_Feat_impl_Feat (C2 (fun c : Bool => enc c) (fun (q : Sl Feat) (k : Clo g (Pt X)) => t_slices_ContainsFunc_impl_Feat_impl_Feat ((fun (k : Clo g (Pt X)) a => tp a k.val) k) q)) := pureC2 (Econs (tt1_slices_IndexFunc_impl_Feat_impl_Feat hg) E0) mixed hb_slices_ContainsFunc_impl_Feat_impl_Feat fun q k => ts_slices_ContainsFunc_impl_Feat_impl_Feat _ (caps := fun k : Clo g (Pt X) => [enc k.val]) (P := (fun (k : Clo g (Pt X)) a => tp a k.val)) (fun k h => snapD_cloE h k) (by simp [envL]) q k

def t_impl_ValidFeat (f_ : Feat) : Option Bool :=
  obind (some (within f_.x 0 255)) fun c5 =>
  obind (bif c5 then (obind (some (within f_.y 0 255)) fun c7 => some c7) else some false) fun c8 =>
  obind (bif (bif c5 then c8 else false) then (obind (some (within f_.d 0 7)) fun c10 => some c10) else some false) fun c11 =>
  some (bif (bif c5 then c8 else false) then c11 else false)

theorem ts_impl_ValidFeat (env : Nat → Contract) (he_impl_within : env n_impl_within = .pure (T3 within)) (f_ : Feat) : Sim (denFn Try.prog env n_impl_ValidFeat [AV.agg [iv f_.x, iv f_.y, iv f_.d]] []) (t_impl_ValidFeat f_) fun c p => release p.2 depth p.1 = some ((fun c : Bool => enc c) c) := by
  have O := Hold.nil []
  generalize hB : (⟨[], []⟩ : Base) = B at O
  clear hB
  rw [e_impl_ValidFeat]
  unfold t_impl_ValidFeat
  refine sim_box O (cs := [iv f_.x, iv f_.y, iv f_.d]) (by first | rfl | simp) (fun o1 h2 O3 => ?_)
  replace O3 : Hold B h2 [(AV.ptr o1 1 0 0, .pt 3 [iv f_.x, iv f_.y, iv f_.d])] := O3
  refine sim_let (v := AV.ptr o1 1 0 0) rfl ?_
  refine sim_let (v := iv f_.x) (O3.ld 0 rfl false 1 0) ?_
  refine sim_callV3 (t := within) he_impl_within (snapD_int _ _) (snapD_int _ _) (snapD_int _ _) (fun c5 => ?_)
  refine sim_guardT (e := bv) (fun hb6 => ?_) (fun c8 => ?_)
  · refine sim_let (v := AV.ptr o1 1 0 1) rfl ?_
    refine sim_let (v := iv f_.y) (O3.ld 0 rfl false 1 1) ?_
    refine sim_callV3 (t := within) he_impl_within (snapD_int _ _) (snapD_int _ _) (snapD_int _ _) (fun c7 => ?_)
    exact sim_ret rfl
  · refine sim_let (v := bv (bif c5 then c8 else false)) (pick_b _ _ _) ?_
    refine sim_guardT (e := bv) (fun hb9 => ?_) (fun c11 => ?_)
    · refine sim_let (v := AV.ptr o1 1 0 2) rfl ?_
      refine sim_let (v := iv f_.d) (O3.ld 0 rfl false 1 2) ?_
      refine sim_callV3 (t := within) he_impl_within (snapD_int _ _) (snapD_int _ _) (snapD_int _ _) (fun c10 => ?_)
      exact sim_ret rfl
    · refine sim_let (v := bv (bif (bif c5 then c8 else false) then c11 else false)) (pick_b _ _ _) ?_
      exact sim_ret (release_plain (by rfl) _)
theorem tt_impl_ValidFeat : PureOK Try.prog n_impl_ValidFeat (C1 (fun c : Bool => enc c) t_impl_ValidFeat) := pureC1 (Econs ok_impl_within E0) mixed hb_impl_ValidFeat fun f_ => ts_impl_ValidFeat _ (by simp [envL]) f_

def t_impl_areFeats_1 (f_ : Feat) : Option Bool :=
  obind (t_impl_ValidFeat f_) fun c5 =>
  some (!c5)

theorem ts_impl_areFeats_1 (env : Nat → Contract) (he_impl_ValidFeat : env n_impl_ValidFeat = .pure (C1 (fun c : Bool => enc c) t_impl_ValidFeat)) (f_ : Feat) : Sim (denFn Try.prog env n_impl_areFeats_1 [AV.agg [iv f_.x, iv f_.y, iv f_.d]] []) (t_impl_areFeats_1 f_) fun c p => release p.2 depth p.1 = some ((fun c : Bool => enc c) c) := by
  have O := Hold.nil []
  generalize hB : (⟨[], []⟩ : Base) = B at O
  clear hB
  rw [e_impl_areFeats_1]
  unfold t_impl_areFeats_1
  refine sim_box O (cs := [iv f_.x, iv f_.y, iv f_.d]) (by first | rfl | simp) (fun o1 h2 O3 => ?_)
  replace O3 : Hold B h2 [(AV.ptr o1 1 0 0, .pt 3 [iv f_.x, iv f_.y, iv f_.d])] := O3
  refine sim_let (v := AV.agg [iv f_.x, iv f_.y, iv f_.d]) (O3.ld 0 rfl true 3 0) ?_
  refine sim_call1 he_impl_ValidFeat (snapD_nr _ f_ rfl) (fun c5 => ?_)
  refine sim_let2 (hand_plain (by rfl) _ _) ?_
  refine sim_let (v := bv (!c5)) (aUn_not _) ?_
  exact sim_ret (release_plain (by rfl) _)
theorem tt_impl_areFeats_1 : PureOK Try.prog n_impl_areFeats_1 (C1 (fun c : Bool => enc c) t_impl_areFeats_1) := pureC1 (Econs tt_impl_ValidFeat E0) mixed hb_impl_areFeats_1 fun f_ => ts_impl_areFeats_1 _ (by simp [envL]) f_

def t_impl_areFeats (list_ : Sl Feat) (most_ : Int) : Option Bool :=
  obind (bif decide (1 ≤ (((list_.getD []).length : Nat) : Int)) then (some (decide ((((list_.getD []).length : Nat) : Int) ≤ most_))) else some false) fun c2 =>
  obind (bif (bif decide (1 ≤ (((list_.getD []).length : Nat) : Int)) then c2 else false) then (obind (t_slices_ContainsFunc_impl_Feat_impl_Feat t_impl_areFeats_1 list_) fun c4 => some (!c4)) else some false) fun c5 =>
  some (bif (bif decide (1 ≤ (((list_.getD []).length : Nat) : Int)) then c2 else false) then c5 else false)

theorem ts_impl_areFeats (env : Nat → Contract) (he_slices_ContainsFunc_impl_Feat_impl_Feat : env n_slices_ContainsFunc_impl_Feat_impl_Feat = .pure (C2 (fun c : Bool => enc c) (fun (q : Sl Feat) (k : Clo0 n_impl_areFeats_1) => t_slices_ContainsFunc_impl_Feat_impl_Feat ((fun _ : Clo0 n_impl_areFeats_1 => t_impl_areFeats_1) k) q))) (list_ : Sl Feat) (most_ : Int) : Sim (denFn Try.prog env n_impl_areFeats [Sl.enc list_, iv most_] []) (t_impl_areFeats list_ most_) fun c p => release p.2 depth p.1 = some ((fun c : Bool => enc c) c) := by
  have O := Hold.nil []
  generalize hB : (⟨[], []⟩ : Base) = B at O
  clear hB
  rw [e_impl_areFeats]
  unfold t_impl_areFeats
  refine sim_let (v := iv (((list_.getD []).length : Nat) : Int)) (Tab.enc [] list_).len ?_
  refine sim_let (v := bv (decide (1 ≤ (((list_.getD []).length : Nat) : Int)))) (aBin_geq _ _) ?_
  refine sim_guardT (e := bv) (fun hb1 => ?_) (fun c2 => ?_)
  · refine sim_let (v := iv (((list_.getD []).length : Nat) : Int)) (Tab.enc [] list_).len ?_
    refine sim_let (v := bv (decide ((((list_.getD []).length : Nat) : Int) ≤ most_))) (aBin_leq _ _) ?_
    exact sim_ret rfl
  · refine sim_let (v := bv (bif decide (1 ≤ (((list_.getD []).length : Nat) : Int)) then c2 else false)) (pick_b _ _ _) ?_
    refine sim_guardT (e := bv) (fun hb3 => ?_) (fun c5 => ?_)
    · refine sim_call2 (t := fun (q : Sl Feat) (k : Clo0 n_impl_areFeats_1) => t_slices_ContainsFunc_impl_Feat_impl_Feat ((fun _ : Clo0 n_impl_areFeats_1 => t_impl_areFeats_1) k) q) he_slices_ContainsFunc_impl_Feat_impl_Feat (snapD_enc _ _) (snapD_clo0 _ _) (fun c4 => ?_)
      refine sim_let2 (hand_plain (by rfl) _ _) ?_
      refine sim_let (v := bv (!c4)) (aUn_not _) ?_
      exact sim_ret rfl
    · refine sim_let (v := bv (bif (bif decide (1 ≤ (((list_.getD []).length : Nat) : Int)) then c2 else false) then c5 else false)) (pick_b _ _ _) ?_
      exact sim_ret (release_plain (by rfl) _)
theorem tt_impl_areFeats : PureOK Try.prog n_impl_areFeats (C2 (fun c : Bool => enc c) t_impl_areFeats) := pureC2 (Econs (tt0_slices_ContainsFunc_impl_Feat_impl_Feat tt_impl_areFeats_1) E0) mixed hb_impl_areFeats fun list_ most_ => ts_impl_areFeats _ (by simp [envL]) list_ most_

def t_impl_ValidSeq (list_ : Sl Feat) : Option Bool :=
  obind (t_impl_areFeats list_ 72) fun c1 =>
  some c1

theorem ts_impl_ValidSeq (env : Nat → Contract) (he_impl_areFeats : env n_impl_areFeats = .pure (C2 (fun c : Bool => enc c) t_impl_areFeats)) (list_ : Sl Feat) : Sim (denFn Try.prog env n_impl_ValidSeq [Sl.enc list_] []) (t_impl_ValidSeq list_) fun c p => release p.2 depth p.1 = some ((fun c : Bool => enc c) c) := by
  have O := Hold.nil []
  generalize hB : (⟨[], []⟩ : Base) = B at O
  clear hB
  rw [e_impl_ValidSeq]
  unfold t_impl_ValidSeq
  refine sim_call2 he_impl_areFeats (snapD_enc _ _) (snapD_int _ _) (fun c1 => ?_)
  refine sim_let2 (hand_plain (by rfl) _ _) ?_
  exact sim_ret (release_plain (by rfl) _)
theorem tt_impl_ValidSeq : PureOK Try.prog n_impl_ValidSeq (C1 (fun c : Bool => enc c) t_impl_ValidSeq) := pureC1 (Econs tt_impl_areFeats E0) mixed hb_impl_ValidSeq fun list_ => ts_impl_ValidSeq _ (by simp [envL]) list_

def t_impl_stepsBack : Option Ar6 :=
  some (⟨1, 1, 1, 0, 0, 1⟩ : Ar6)

theorem ts_impl_stepsBack (env : Nat → Contract)  : Sim (denFn Try.prog env n_impl_stepsBack [] []) (t_impl_stepsBack ) fun c p => release p.2 depth p.1 = some ((fun c : Ar6 => enc c) c) := by
  have O := Hold.nil []
  generalize hB : (⟨[], []⟩ : Base) = B at O
  clear hB
  rw [e_impl_stepsBack]
  unfold t_impl_stepsBack
  refine sim_box O (cs := [iv 0, iv 0, iv 0, iv 0, iv 0, iv 0]) (by first | rfl | simp) (fun o1 h2 O3 => ?_)
  replace O3 : Hold B h2 [(AV.ptr o1 1 0 0, .pt 6 [iv 0, iv 0, iv 0, iv 0, iv 0, iv 0])] := O3
  refine sim_let (v := AV.agg [iv 1, iv 1]) (by first | rfl | simp [aBuild, aFill, splice]) ?_
  refine sim_let (v := AV.agg [iv 1, iv 0]) (by first | rfl | simp [aBuild, aFill, splice]) ?_
  refine sim_let (v := AV.agg [iv 0, iv 1]) (by first | rfl | simp [aBuild, aFill, splice]) ?_
  refine sim_let (v := AV.agg [iv 1, iv 1, iv 1, iv 0, iv 0, iv 1]) (by first | rfl | simp [aBuild, aFill, splice]) ?_
  refine sim_store O3 0 (cs' := [iv 1, iv 1, iv 1, iv 0, iv 0, iv 1]) rfl (by first | rfl | simp) (by simp) (by first | rfl | simp) (by first | rfl | simp [splice]) (fun h5 O6 => ?_)
  replace O6 : Hold B h5 [(AV.ptr o1 1 0 0, .pt 6 [iv 1, iv 1, iv 1, iv 0, iv 0, iv 1])] := O6
  refine sim_retL (resL_c (v := AV.agg [iv 1, iv 1, iv 1, iv 0, iv 0, iv 1]) (O6.ld 0 rfl true 6 0) (resL_nil _)) ?_
  dsimp only [pack]
  exact sim_ret (release_plain (by rfl) _)
theorem tt_impl_stepsBack : PureOK Try.prog n_impl_stepsBack (C0 (fun c : Ar6 => enc c) t_impl_stepsBack) := pureC0 E0 mixed hb_impl_stepsBack <| ts_impl_stepsBack _

def t_impl_part_better (p_ : Part) (q_ : Part) : Option Bool :=
  obind (bif decide (p_.cost < q_.cost) then some false else (some (decide (p_.cost = q_.cost)))) fun c10 =>
  obind (bif (!(decide (p_.cost < q_.cost)) && c10) then (some (decide (q_.frm < p_.frm))) else some false) fun c12 =>
  obind (bif decide (p_.cost < q_.cost) then some false else (some (bif c10 then c12 else false))) fun c14 =>
  some (bif decide (p_.cost < q_.cost) then true else c14)

theorem ts_impl_part_better (env : Nat → Contract)  (p_ : Part) (q_ : Part) : Sim (denFn Try.prog env n_impl_part_better [AV.agg [iv p_.cost, iv p_.frm], AV.agg [iv q_.cost, iv q_.frm]] []) (t_impl_part_better p_ q_) fun c p => release p.2 depth p.1 = some ((fun c : Bool => enc c) c) := by
  have O := Hold.nil []
  generalize hB : (⟨[], []⟩ : Base) = B at O
  clear hB
  rw [e_impl_part_better]
  unfold t_impl_part_better
  refine sim_box O (cs := [iv p_.cost, iv p_.frm]) (by first | rfl | simp) (fun o1 h2 O3 => ?_)
  replace O3 : Hold B h2 [(AV.ptr o1 1 0 0, .pt 2 [iv p_.cost, iv p_.frm])] := O3
  refine sim_box O3 (cs := [iv q_.cost, iv q_.frm]) (by first | rfl | simp) (fun o5 h6 O7 => ?_)
  replace O7 : Hold B h6 [(AV.ptr o1 1 0 0, .pt 2 [iv p_.cost, iv p_.frm]), (AV.ptr o5 1 0 0, .pt 2 [iv q_.cost, iv q_.frm])] := O7
  refine sim_let (v := AV.ptr o1 1 0 0) rfl ?_
  refine sim_let (v := iv p_.cost) (O7.ld 0 rfl false 1 0) ?_
  refine sim_let (v := AV.ptr o5 1 0 0) rfl ?_
  refine sim_let (v := iv q_.cost) (O7.ld 1 rfl false 1 0) ?_
  refine sim_let (v := bv (decide (p_.cost < q_.cost))) (aBin_lss _ _) ?_
  refine sim_guardF (e := bv) (fun hb9 => ?_) (fun c10 => ?_)
  · refine sim_let (v := AV.ptr o1 1 0 0) rfl ?_
    refine sim_let (v := iv p_.cost) (O7.ld 0 rfl false 1 0) ?_
    refine sim_let (v := AV.ptr o5 1 0 0) rfl ?_
    refine sim_let (v := iv q_.cost) (O7.ld 1 rfl false 1 0) ?_
    refine sim_let (v := bv (decide (p_.cost = q_.cost))) (aCmp_eq _ _) ?_
    exact sim_ret rfl
  · simp only [gv_FT]
    refine sim_guardT (e := bv) (fun hb11 => ?_) (fun c12 => ?_)
    · refine sim_let (v := AV.ptr o1 1 0 1) rfl ?_
      refine sim_let (v := iv p_.frm) (O7.ld 0 rfl false 1 1) ?_
      refine sim_let (v := AV.ptr o5 1 0 1) rfl ?_
      refine sim_let (v := iv q_.frm) (O7.ld 1 rfl false 1 1) ?_
      refine sim_let (v := bv (decide (q_.frm < p_.frm))) (aBin_gtr _ _) ?_
      exact sim_ret rfl
    · refine sim_guardF (e := bv) (fun hb13 => ?_) (fun c14 => ?_)
      · simp only [hb13, cond_true, cond_false, Bool.not_true, Bool.not_false, Bool.true_and, Bool.and_true, Bool.false_and, Bool.not_not]
        refine sim_let (v := bv (bif c10 then c12 else false)) (pick_b _ _ _) ?_
        exact sim_ret rfl
      · refine sim_let (v := bv (bif decide (p_.cost < q_.cost) then true else c14)) (pick_b' _ _ _) ?_
        exact sim_ret (release_plain (by rfl) _)
theorem tt_impl_part_better : PureOK Try.prog n_impl_part_better (C2 (fun c : Bool => enc c) t_impl_part_better) := pureC2 E0 mixed hb_impl_part_better fun p_ q_ => ts_impl_part_better _  p_ q_

def t_impl_featCost (a_ : Feat) (b_ : Feat) : Option Int :=
  obind (some (absI (wr (a_.d - b_.d)))) fun c9 =>
  obind (some (absI (wr (a_.x - b_.x)))) fun c10 =>
  obind (some (absI (wr (a_.y - b_.y)))) fun c11 =>
  some (wr ((wr (c10 + c11)) + (wr (16 * (min c9 (wr (8 - c9)))))))

theorem ts_impl_featCost (env : Nat → Contract) (he_impl_abs : env n_impl_abs = .pure (T1 absI)) (a_ : Feat) (b_ : Feat) : Sim (denFn Try.prog env n_impl_featCost [AV.agg [iv a_.x, iv a_.y, iv a_.d], AV.agg [iv b_.x, iv b_.y, iv b_.d]] []) (t_impl_featCost a_ b_) fun c p => release p.2 depth p.1 = some ((fun c : Int => enc c) c) := by
  have O := Hold.nil []
  generalize hB : (⟨[], []⟩ : Base) = B at O
  clear hB
  rw [e_impl_featCost]
  unfold t_impl_featCost
  refine sim_box O (cs := [iv a_.x, iv a_.y, iv a_.d]) (by first | rfl | simp) (fun o1 h2 O3 => ?_)
  replace O3 : Hold B h2 [(AV.ptr o1 1 0 0, .pt 3 [iv a_.x, iv a_.y, iv a_.d])] := O3
  refine sim_box O3 (cs := [iv b_.x, iv b_.y, iv b_.d]) (by first | rfl | simp) (fun o5 h6 O7 => ?_)
  replace O7 : Hold B h6 [(AV.ptr o1 1 0 0, .pt 3 [iv a_.x, iv a_.y, iv a_.d]), (AV.ptr o5 1 0 0, .pt 3 [iv b_.x, iv b_.y, iv b_.d])] := O7
  refine sim_let (v := AV.ptr o1 1 0 2) rfl ?_
  refine sim_let (v := iv a_.d) (O7.ld 0 rfl false 1 2) ?_
  refine sim_let (v := AV.ptr o5 1 0 2) rfl ?_
  refine sim_let (v := iv b_.d) (O7.ld 1 rfl false 1 2) ?_
  refine sim_let (v := iv (wr (a_.d - b_.d))) (aBin_sub _ _) ?_
  refine sim_callV1 (t := absI) he_impl_abs (snapD_int _ _) (fun c9 => ?_)
  refine sim_let (v := AV.ptr o1 1 0 0) rfl ?_
  refine sim_let (v := iv a_.x) (O7.ld 0 rfl false 1 0) ?_
  refine sim_let (v := AV.ptr o5 1 0 0) rfl ?_
  refine sim_let (v := iv b_.x) (O7.ld 1 rfl false 1 0) ?_
  refine sim_let (v := iv (wr (a_.x - b_.x))) (aBin_sub _ _) ?_
  refine sim_callVQ1 (t := absI) he_impl_abs (snapD_int _ _) (fun c10 => ?_)
  refine sim_let (v := AV.ptr o1 1 0 1) rfl ?_
  refine sim_let (v := iv a_.y) (O7.ld 0 rfl false 1 1) ?_
  refine sim_let (v := AV.ptr o5 1 0 1) rfl ?_
  refine sim_let (v := iv b_.y) (O7.ld 1 rfl false 1 1) ?_
  refine sim_let (v := iv (wr (a_.y - b_.y))) (aBin_sub _ _) ?_
  refine sim_callVQ1 (t := absI) he_impl_abs (snapD_int _ _) (fun c11 => ?_)
  refine sim_let (v := iv (wr (c10 + c11))) (aBin_add _ _) ?_
  refine sim_let (v := iv (wr (8 - c9))) (aBin_sub _ _) ?_
  refine sim_let (v := iv (min c9 (wr (8 - c9)))) (aFold_min _ _) ?_
  refine sim_let (v := iv (wr (16 * (min c9 (wr (8 - c9)))))) (aBin_mul _ _) ?_
  refine sim_let (v := iv (wr ((wr (c10 + c11)) + (wr (16 * (min c9 (wr (8 - c9)))))))) (aBin_add _ _) ?_
  exact sim_ret (release_plain (by rfl) _)
theorem tt_impl_featCost : PureOK Try.prog n_impl_featCost (C2 (fun c : Int => enc c) t_impl_featCost) := pureC2 (Econs ok_impl_abs E0) mixed hb_impl_featCost fun a_ b_ => ts_impl_featCost _ (by simp [envL]) a_ b_

def s2_impl_PartElastic (a28 : (Sl Part)) : (Int × Int) → Option (Sum (Int × Int) Int) := fun (w36, w37) =>
  bif decide (w37 < (((a28.getD []).length : Nat) : Int)) then
    obind (getI (a28.getD []) w37) fun a52 =>
    obind (getI (a28.getD []) w36) fun a62 =>
    bif decide (a52.cost < a62.cost) then
      some (.inl (w37, wr (w37 + 1)))
    else
      some (.inl (w36, wr (w37 + 1)))
  else
    some (.inr w36)
def s3_impl_PartElastic (w18 : Int) (w89 : Sl (Sl Part)) (w94 : Int) (c114 : Ar6) : (Int × Int × Int) → Option (Sum (Int × Int × Int) (Int × Int)) := fun (w115, w116, w119) =>
  bif decide (w119 < 3) then
    obind (getI [(⟨c114.a0, c114.a1⟩ : Ar2), ⟨c114.a2, c114.a3⟩, ⟨c114.a4, c114.a5⟩] w119) fun a152 =>
    obind (bif decide (a152.a0 ≤ w18) then (some (decide (a152.a1 ≤ w94))) else some false) fun c160 =>
    obind (bif (bif decide (a152.a0 ≤ w18) then c160 else false) then (obind (getI (w89.getD []) (wr (w18 - a152.a0))) fun a165 => obind (getI (a165.getD []) (wr (w94 - a152.a1))) fun a171 => obind (t_impl_part_better a171 (⟨w115, w116⟩ : Part)) fun c175 => some c175) else some false) fun c176 =>
    bif (bif (bif decide (a152.a0 ≤ w18) then c160 else false) then c176 else false) then
      obind (getI (w89.getD []) (wr (w18 - a152.a0))) fun a192 =>
      obind (getI (a192.getD []) (wr (w94 - a152.a1))) fun a198 =>
      some (.inl (a198.cost, a198.frm, wr (w119 + 1)))
    else
      some (.inl (w115, w116, wr (w119 + 1)))
  else
    some (.inr (w115, w116))
def s4_impl_PartElastic (w18 : Int) (w89 : Sl (Sl Part)) (w94 : Int) (c209 : Ar6) : (Int × Int × Int) → Option (Sum (Int × Int × Int) (Int × Int)) := fun (w210, w211, w214) =>
  bif decide (w214 < 3) then
    obind (getI [(⟨c209.a0, c209.a1⟩ : Ar2), ⟨c209.a2, c209.a3⟩, ⟨c209.a4, c209.a5⟩] w214) fun a247 =>
    obind (bif decide (a247.a0 ≤ w18) then (some (decide (a247.a1 ≤ w94))) else some false) fun c255 =>
    obind (bif (bif decide (a247.a0 ≤ w18) then c255 else false) then (obind (getI (w89.getD []) (wr (w18 - a247.a0))) fun a260 => obind (getI (a260.getD []) (wr (w94 - a247.a1))) fun a266 => obind (t_impl_part_better a266 (⟨w210, w211⟩ : Part)) fun c270 => some c270) else some false) fun c271 =>
    bif (bif (bif decide (a247.a0 ≤ w18) then c255 else false) then c271 else false) then
      obind (getI (w89.getD []) (wr (w18 - a247.a0))) fun a287 =>
      obind (getI (a287.getD []) (wr (w94 - a247.a1))) fun a293 =>
      some (.inl (a293.cost, a293.frm, wr (w214 + 1)))
    else
      some (.inl (w210, w211, wr (w214 + 1)))
  else
    some (.inr (w210, w211))
def s1_impl_PartElastic (a_ : Sl Feat) (b_ : Sl Feat) (w18 : Int) : ((Sl (Sl Part)) × Int) → Option (Sum ((Sl (Sl Part)) × Int) (Sl (Sl Part))) := fun (w89, w94) =>
  bif decide (w94 < (((b_.getD []).length : Nat) : Int)) then
    bif decide (w18 = 0) then
      obind (t_impl_stepsBack ) fun c114 =>
      obind (loopT (s3_impl_PartElastic w18 w89 w94 c114) (0, w94, 0)) fun (q122, q123) =>
      obind (getI (a_.getD []) w18) fun a125 =>
      obind (getI (b_.getD []) w94) fun a129 =>
      obind (t_impl_featCost a125 a129) fun c133 =>
      obind (getI (w89.getD []) w18) fun a136 =>
      obind (getI (a136.getD []) w94) fun a142 =>
      some (.inl ((setS w89 w18 (setS a136 w94 (⟨wr (q122 + c133), q123⟩ : Part))), wr (w94 + 1)))
    else
      obind (t_impl_stepsBack ) fun c209 =>
      obind (loopT (s4_impl_PartElastic w18 w89 w94 c209) (1099511627776, 0, 0)) fun (q217, q218) =>
      obind (getI (a_.getD []) w18) fun a220 =>
      obind (getI (b_.getD []) w94) fun a224 =>
      obind (t_impl_featCost a220 a224) fun c228 =>
      obind (getI (w89.getD []) w18) fun a231 =>
      obind (getI (a231.getD []) w94) fun a237 =>
      some (.inl ((setS w89 w18 (setS a231 w94 (⟨wr (q217 + c228), q218⟩ : Part))), wr (w94 + 1)))
  else
    some (.inr w89)
def s0_impl_PartElastic (a_ : Sl Feat) (b_ : Sl Feat) : ((Sl (Sl Part)) × Int) → Option (Sum ((Sl (Sl Part)) × Int) (Sl (Sl Part))) := fun (w13, w18) =>
  bif decide (w18 < (((a_.getD []).length : Nat) : Int)) then
    obind (makeO (⟨0, 0⟩ : Part) (((b_.getD []).length : Nat) : Int)) fun l77 =>
    obind (getI (w13.getD []) w18) fun a78 =>
    obind (loopT (s1_impl_PartElastic a_ b_ w18) ((setS w13 w18 (some l77)), 0)) fun q97 =>
    some (.inl (q97, wr (w18 + 1)))
  else
    some (.inr w13)
def t_impl_PartElastic (a_ : Sl Feat) (b_ : Sl Feat) : Option (Int × Int × Int × Int) :=
  obind (t_impl_ValidSeq a_) fun c1 =>
  obind (bif !c1 then some false else (obind (t_impl_ValidSeq b_) fun c3 => some (!c3))) fun c4 =>
  bif (bif !c1 then true else c4) then
    some (0, 0, 0, 1)
  else
    obind (makeO (none : Sl Part) (((a_.getD []).length : Nat) : Int)) fun l10 =>
    obind (loopT (s0_impl_PartElastic a_ b_) ((some l10), 0)) fun q21 =>
    obind (getI (q21.getD []) (wr ((((a_.getD []).length : Nat) : Int) - 1))) fun a28 =>
    obind (loopT (s2_impl_PartElastic a28) (0, 0)) fun q40 =>
    obind (getI (a28.getD []) q40) fun a43 =>
    obind (getI (a28.getD []) q40) fun a47 =>
    some (a43.cost, a47.frm, wr (q40 + 1), 0)

theorem tl2_impl_PartElastic (env : Nat → Contract) {B : Base} (he_impl_ValidSeq : env n_impl_ValidSeq = .pure (C1 (fun c : Bool => enc c) t_impl_ValidSeq)) (he_impl_featCost : env n_impl_featCost = .pure (C2 (fun c : Int => enc c) t_impl_featCost)) (he_impl_part_better : env n_impl_part_better = .pure (C2 (fun c : Bool => enc c) t_impl_part_better)) (he_impl_stepsBack : env n_impl_stepsBack = .pure (C0 (fun c : Ar6 => enc c) t_impl_stepsBack)) (a_ : Sl Feat) (b_ : Sl Feat) (c1 : Bool) (c4 : Bool) (x6 : AV) (ps22 : PS (Sl Part)) (z24 : AV) (z25 : AV) (z26 : AV) (z27 : AV) (a28 : (Sl Part)) (m29 : Nat) (x32 : AV) (hm31 : (ps22.getD [])[m29]? = some (a28, x32))  {st : Int × Int} {tm : TM} {h : Heap} (R : (fun (st : Int × Int) tm h34 => match st with | (w36, w37) => tm = ((Sl.enc a_) :: (Sl.enc b_) :: und :: und :: (iv 0) :: (iv 0) :: (iv 0) :: (iv 0) :: x6 :: z24 :: z25 :: z26 :: und :: z27 :: x32 :: (iv w36) :: AV.top :: AV.top :: (Sl.enc a_) :: (bv c1) :: (bv (!c1)) :: (bv (!c1)) :: AV.top :: AV.top :: (cond (!c1) und (bv c4)) :: (bv (bif !c1 then true else c4)) :: (Sl.enc a_) :: (iv (((a_.getD []).length : Nat) : Int)) :: x6 :: (Sl.enc a_) :: (iv (((a_.getD []).length : Nat) : Int)) :: AV.top :: AV.top :: AV.top :: AV.top :: AV.top :: AV.top :: AV.top :: AV.top :: AV.top :: AV.top :: AV.top :: AV.top :: AV.top :: AV.top :: AV.top :: AV.top :: AV.top :: AV.top :: AV.top :: AV.top :: AV.top :: AV.top :: AV.top :: AV.top :: AV.top :: AV.top :: AV.top :: AV.top :: AV.top :: AV.top :: AV.top :: AV.top :: AV.top :: AV.top :: AV.top :: AV.top :: AV.top :: AV.top :: AV.top :: AV.top :: AV.top :: AV.top :: AV.top :: AV.top :: AV.top :: AV.top :: AV.top :: AV.top :: AV.top :: AV.top :: AV.top :: AV.top :: AV.top :: AV.top :: AV.top :: AV.top :: AV.top :: AV.top :: AV.top :: AV.top :: AV.top :: AV.top :: AV.top :: AV.top :: AV.top :: AV.top :: AV.top :: AV.top :: AV.top :: AV.top :: AV.top :: AV.top :: AV.top :: AV.top :: AV.top :: AV.top :: AV.top :: AV.top :: AV.top :: AV.top :: AV.top :: AV.top :: AV.top :: AV.top :: AV.top :: AV.top :: x6 :: (Sl.enc a_) :: (iv (((a_.getD []).length : Nat) : Int)) :: (iv (wr ((((a_.getD []).length : Nat) : Int) - 1))) :: (elp x6 m29 0) :: x32 :: x32 :: (iv (((a28.getD []).length : Nat) : Int)) :: (iv w37) :: AV.top :: AV.top :: AV.top :: AV.top :: AV.top :: AV.top :: AV.top :: AV.top :: AV.top :: AV.top :: AV.top :: AV.top :: AV.top :: AV.top :: und :: und :: und :: und :: und :: und :: und :: und :: und :: und :: und :: und :: []) ∧ Hold B h34 ([] ++ D2 (A := (Sl Part)) x6 ps22)) st tm h) : Sim (loopP hm2_impl_PartElastic xm2_impl_PartElastic (lb2_impl_PartElastic env) tm h) (loopT (s2_impl_PartElastic a28) st) (fun (q : Int) (r : Res) => match q with | q40 => ∃ (z41 : AV) (z42 : AV) (h38 : Heap), r = (.exit 6, ((Sl.enc a_) :: (Sl.enc b_) :: und :: und :: (iv 0) :: (iv 0) :: (iv 0) :: (iv 0) :: x6 :: z24 :: z25 :: z26 :: und :: z27 :: x32 :: (iv q40) :: z41 :: z42 :: (Sl.enc a_) :: (bv c1) :: (bv (!c1)) :: (bv (!c1)) :: AV.top :: AV.top :: (cond (!c1) und (bv c4)) :: (bv (bif !c1 then true else c4)) :: (Sl.enc a_) :: (iv (((a_.getD []).length : Nat) : Int)) :: x6 :: (Sl.enc a_) :: (iv (((a_.getD []).length : Nat) : Int)) :: AV.top :: AV.top :: AV.top :: AV.top :: AV.top :: AV.top :: AV.top :: AV.top :: AV.top :: AV.top :: AV.top :: AV.top :: AV.top :: AV.top :: AV.top :: AV.top :: AV.top :: AV.top :: AV.top :: AV.top :: AV.top :: AV.top :: AV.top :: AV.top :: AV.top :: AV.top :: AV.top :: AV.top :: AV.top :: AV.top :: AV.top :: AV.top :: AV.top :: AV.top :: AV.top :: AV.top :: AV.top :: AV.top :: AV.top :: AV.top :: AV.top :: AV.top :: AV.top :: AV.top :: AV.top :: AV.top :: AV.top :: AV.top :: AV.top :: AV.top :: AV.top :: AV.top :: AV.top :: AV.top :: AV.top :: AV.top :: AV.top :: AV.top :: AV.top :: AV.top :: AV.top :: AV.top :: AV.top :: AV.top :: AV.top :: AV.top :: AV.top :: AV.top :: AV.top :: AV.top :: AV.top :: AV.top :: AV.top :: AV.top :: AV.top :: AV.top :: AV.top :: AV.top :: AV.top :: AV.top :: AV.top :: AV.top :: AV.top :: AV.top :: AV.top :: AV.top :: x6 :: (Sl.enc a_) :: (iv (((a_.getD []).length : Nat) : Int)) :: (iv (wr ((((a_.getD []).length : Nat) : Int) - 1))) :: (elp x6 m29 0) :: x32 :: x32 :: (iv (((a28.getD []).length : Nat) : Int)) :: AV.top :: AV.top :: AV.top :: AV.top :: AV.top :: AV.top :: AV.top :: AV.top :: AV.top :: AV.top :: AV.top :: AV.top :: AV.top :: AV.top :: AV.top :: und :: und :: und :: und :: und :: und :: und :: und :: und :: und :: und :: und :: []), h38) ∧ Hold B h38 ([] ++ D2 (A := (Sl Part)) x6 ps22)) := by
  refine loop_sim (Rel := fun (st : Int × Int) tm h34 => match st with | (w36, w37) => tm = ((Sl.enc a_) :: (Sl.enc b_) :: und :: und :: (iv 0) :: (iv 0) :: (iv 0) :: (iv 0) :: x6 :: z24 :: z25 :: z26 :: und :: z27 :: x32 :: (iv w36) :: AV.top :: AV.top :: (Sl.enc a_) :: (bv c1) :: (bv (!c1)) :: (bv (!c1)) :: AV.top :: AV.top :: (cond (!c1) und (bv c4)) :: (bv (bif !c1 then true else c4)) :: (Sl.enc a_) :: (iv (((a_.getD []).length : Nat) : Int)) :: x6 :: (Sl.enc a_) :: (iv (((a_.getD []).length : Nat) : Int)) :: AV.top :: AV.top :: AV.top :: AV.top :: AV.top :: AV.top :: AV.top :: AV.top :: AV.top :: AV.top :: AV.top :: AV.top :: AV.top :: AV.top :: AV.top :: AV.top :: AV.top :: AV.top :: AV.top :: AV.top :: AV.top :: AV.top :: AV.top :: AV.top :: AV.top :: AV.top :: AV.top :: AV.top :: AV.top :: AV.top :: AV.top :: AV.top :: AV.top :: AV.top :: AV.top :: AV.top :: AV.top :: AV.top :: AV.top :: AV.top :: AV.top :: AV.top :: AV.top :: AV.top :: AV.top :: AV.top :: AV.top :: AV.top :: AV.top :: AV.top :: AV.top :: AV.top :: AV.top :: AV.top :: AV.top :: AV.top :: AV.top :: AV.top :: AV.top :: AV.top :: AV.top :: AV.top :: AV.top :: AV.top :: AV.top :: AV.top :: AV.top :: AV.top :: AV.top :: AV.top :: AV.top :: AV.top :: AV.top :: AV.top :: AV.top :: AV.top :: AV.top :: AV.top :: AV.top :: AV.top :: AV.top :: AV.top :: AV.top :: AV.top :: AV.top :: AV.top :: x6 :: (Sl.enc a_) :: (iv (((a_.getD []).length : Nat) : Int)) :: (iv (wr ((((a_.getD []).length : Nat) : Int) - 1))) :: (elp x6 m29 0) :: x32 :: x32 :: (iv (((a28.getD []).length : Nat) : Int)) :: (iv w37) :: AV.top :: AV.top :: AV.top :: AV.top :: AV.top :: AV.top :: AV.top :: AV.top :: AV.top :: AV.top :: AV.top :: AV.top :: AV.top :: AV.top :: und :: und :: und :: und :: und :: und :: und :: und :: und :: und :: und :: und :: []) ∧ Hold B h34 ([] ++ D2 (A := (Sl Part)) x6 ps22)) (fun st tm h34 R => ?_) R
  obtain ⟨w36, w37⟩ := st
  obtain ⟨rfl, O35⟩ := R
  rw [e_lb2_impl_PartElastic]
  unfold s2_impl_PartElastic
  dsimp only
  refine sim_let (v := bv (decide (w37 < (((a28.getD []).length : Nat) : Int)))) (aBin_lss _ _) ?_
  refine sim_cond (fun c51 => ?_) (fun c51 => ?_)
  · refine sim_get (D2.tab (l := []) (x := x6) (ps := ps22) (A := (Sl Part)) O35 hm31) (fun m53 a52 hi54 hm55 => ?_)
    refine sim_let (v := AV.agg [iv a52.cost, iv a52.frm]) ((D2.tab (l := []) (x := x6) (ps := ps22) (A := (Sl Part)) O35 hm31).ld hm55 true 2 0) ?_
    refine sim_box O35 (cs := [iv 0, iv 0]) (by first | rfl | simp) (fun o56 h57 O58 => ?_)
    replace O58 : Hold B h57 ([(AV.ptr o56 1 0 0, .pt 2 [iv 0, iv 0])] ++ D2 (A := (Sl Part)) x6 ps22) := Hold.rot O58
    refine sim_store O58 0 (cs' := [iv a52.cost, iv a52.frm]) rfl (by first | rfl | simp) (by simp) (by first | rfl | simp) (by first | rfl | simp [splice]) (fun h60 O61 => ?_)
    replace O61 : Hold B h60 ([(AV.ptr o56 1 0 0, .pt 2 [iv a52.cost, iv a52.frm])] ++ D2 (A := (Sl Part)) x6 ps22) := O61
    refine sim_let (v := AV.ptr o56 1 0 0) rfl ?_
    refine sim_let (v := iv a52.cost) (O61.ld 0 rfl false 1 0) ?_
    refine sim_get (D2.tab (l := [(AV.ptr o56 1 0 0, .pt 2 [iv a52.cost, iv a52.frm])]) (x := x6) (ps := ps22) (A := (Sl Part)) O61 hm31) (fun m63 a62 hi64 hm65 => ?_)
    refine sim_let (v := elp x32 m63 0) ((D2.tab (l := [(AV.ptr o56 1 0 0, .pt 2 [iv a52.cost, iv a52.frm])]) (x := x6) (ps := ps22) (A := (Sl Part)) O61 hm31).fld _ _ _) ?_
    refine sim_let (v := iv a62.cost) ((D2.tab (l := [(AV.ptr o56 1 0 0, .pt 2 [iv a52.cost, iv a52.frm])]) (x := x6) (ps := ps22) (A := (Sl Part)) O61 hm31).ld hm65 false 1 0) ?_
    refine sim_let (v := bv (decide (a52.cost < a62.cost))) (aBin_lss _ _) ?_
    refine sim_cond (fun c66 => ?_) (fun c66 => ?_)
    · refine sim_let (v := iv (wr (w37 + 1))) (aBin_add _ _) ?_
      have O67 : Hold B h60 ([] ++ D2 (A := (Sl Part)) x6 ps22) := O61.selD [] (by decide) rfl
      exact sim_ret ⟨rfl, rfl, O67⟩
    · refine sim_let (v := iv (wr (w37 + 1))) (aBin_add _ _) ?_
      have O68 : Hold B h60 ([] ++ D2 (A := (Sl Part)) x6 ps22) := O61.selD [] (by decide) rfl
      exact sim_ret ⟨rfl, rfl, O68⟩
  · exact sim_ret ⟨nofun, _, _, _, rfl, O35⟩
theorem tl3_impl_PartElastic (env : Nat → Contract) {B : Base} (he_impl_ValidSeq : env n_impl_ValidSeq = .pure (C1 (fun c : Bool => enc c) t_impl_ValidSeq)) (he_impl_featCost : env n_impl_featCost = .pure (C2 (fun c : Int => enc c) t_impl_featCost)) (he_impl_part_better : env n_impl_part_better = .pure (C2 (fun c : Bool => enc c) t_impl_part_better)) (he_impl_stepsBack : env n_impl_stepsBack = .pure (C0 (fun c : Ar6 => enc c) t_impl_stepsBack)) (a_ : Sl Feat) (b_ : Sl Feat) (c1 : Bool) (c4 : Bool) (x6 : AV) (w18 : Int) (x73 : AV) (m79 : Nat) (w89 : Sl (Sl Part)) (ps90 : PS (Sl Part)) (hp91 : pj ps90 = w89) (w94 : Int) (o105 : Nat) (c114 : Ar6)  {st : Int × Int × Int} {tm : TM} {h : Heap} (R : (fun (st : Int × Int × Int) tm h117 => match st with | (w115, w116, w119) => tm = ((Sl.enc a_) :: (Sl.enc b_) :: und :: und :: (iv 0) :: (iv 0) :: (iv 0) :: (iv 0) :: x6 :: (iv w18) :: (iv w94) :: (AV.ptr o105 1 0 0) :: und :: AV.top :: und :: und :: und :: und :: (Sl.enc a_) :: (bv c1) :: (bv (!c1)) :: (bv (!c1)) :: AV.top :: AV.top :: (cond (!c1) und (bv c4)) :: (bv (bif !c1 then true else c4)) :: (Sl.enc a_) :: (iv (((a_.getD []).length : Nat) : Int)) :: x6 :: (Sl.enc a_) :: (iv (((a_.getD []).length : Nat) : Int)) :: (iv w18) :: (bv (decide (w18 < (((a_.getD []).length : Nat) : Int)))) :: (iv w18) :: x6 :: (iv w18) :: (Sl.enc b_) :: (iv (((b_.getD []).length : Nat) : Int)) :: x73 :: (elp x6 m79 0) :: (Sl.enc b_) :: (iv (((b_.getD []).length : Nat) : Int)) :: (iv w94) :: (bv (decide (w94 < (((b_.getD []).length : Nat) : Int)))) :: (iv w94) :: (AV.agg [iv 1099511627776, iv 0]) :: (iv w18) :: (bv (decide (w18 = 0))) :: (iv w94) :: (AV.agg [iv 0, iv w94]) :: (AV.agg [iv c114.a0, iv c114.a1, iv c114.a2, iv c114.a3, iv c114.a4, iv c114.a5]) :: (iv w119) :: AV.top :: AV.top :: AV.top :: AV.top :: AV.top :: AV.top :: AV.top :: AV.top :: AV.top :: AV.top :: AV.top :: AV.top :: AV.top :: AV.top :: AV.top :: AV.top :: AV.top :: AV.top :: AV.top :: AV.top :: AV.top :: AV.top :: AV.top :: AV.top :: AV.top :: AV.top :: AV.top :: AV.top :: AV.top :: AV.top :: AV.top :: AV.top :: AV.top :: AV.top :: AV.top :: AV.top :: AV.top :: AV.top :: AV.top :: AV.top :: AV.top :: AV.top :: AV.top :: AV.top :: AV.top :: AV.top :: AV.top :: AV.top :: AV.top :: AV.top :: AV.top :: AV.top :: AV.top :: AV.top :: AV.top :: AV.top :: AV.top :: AV.top :: AV.top :: AV.top :: AV.top :: AV.top :: AV.top :: AV.top :: AV.top :: und :: und :: und :: und :: und :: und :: und :: und :: und :: und :: und :: und :: und :: und :: und :: und :: und :: und :: und :: und :: und :: und :: und :: und :: und :: und :: und :: und :: und :: und :: und :: und :: und :: und :: und :: []) ∧ Hold B h117 ([(AV.ptr o105 1 0 0, .pt 2 [iv w115, iv w116])] ++ D2 (A := (Sl Part)) x6 ps90)) st tm h) : Sim (loopP hm3_impl_PartElastic xm3_impl_PartElastic (lb3_impl_PartElastic env) tm h) (loopT (s3_impl_PartElastic w18 w89 w94 c114) st) (fun (q : Int × Int) (r : Res) => match q with | (q122, q123) => ∃ (z124 : AV) (h120 : Heap), r = (.exit 4, ((Sl.enc a_) :: (Sl.enc b_) :: und :: und :: (iv 0) :: (iv 0) :: (iv 0) :: (iv 0) :: x6 :: (iv w18) :: (iv w94) :: (AV.ptr o105 1 0 0) :: und :: z124 :: und :: und :: und :: und :: (Sl.enc a_) :: (bv c1) :: (bv (!c1)) :: (bv (!c1)) :: AV.top :: AV.top :: (cond (!c1) und (bv c4)) :: (bv (bif !c1 then true else c4)) :: (Sl.enc a_) :: (iv (((a_.getD []).length : Nat) : Int)) :: x6 :: (Sl.enc a_) :: (iv (((a_.getD []).length : Nat) : Int)) :: (iv w18) :: (bv (decide (w18 < (((a_.getD []).length : Nat) : Int)))) :: (iv w18) :: x6 :: (iv w18) :: (Sl.enc b_) :: (iv (((b_.getD []).length : Nat) : Int)) :: x73 :: (elp x6 m79 0) :: (Sl.enc b_) :: (iv (((b_.getD []).length : Nat) : Int)) :: (iv w94) :: (bv (decide (w94 < (((b_.getD []).length : Nat) : Int)))) :: (iv w94) :: (AV.agg [iv 1099511627776, iv 0]) :: (iv w18) :: (bv (decide (w18 = 0))) :: (iv w94) :: (AV.agg [iv 0, iv w94]) :: (AV.agg [iv c114.a0, iv c114.a1, iv c114.a2, iv c114.a3, iv c114.a4, iv c114.a5]) :: AV.top :: AV.top :: AV.top :: AV.top :: AV.top :: AV.top :: AV.top :: AV.top :: AV.top :: AV.top :: AV.top :: AV.top :: AV.top :: AV.top :: AV.top :: AV.top :: AV.top :: AV.top :: AV.top :: AV.top :: AV.top :: AV.top :: AV.top :: AV.top :: AV.top :: AV.top :: AV.top :: AV.top :: AV.top :: AV.top :: AV.top :: AV.top :: AV.top :: AV.top :: AV.top :: AV.top :: AV.top :: AV.top :: AV.top :: AV.top :: AV.top :: AV.top :: AV.top :: AV.top :: AV.top :: AV.top :: AV.top :: AV.top :: AV.top :: AV.top :: AV.top :: AV.top :: AV.top :: AV.top :: AV.top :: AV.top :: AV.top :: AV.top :: AV.top :: AV.top :: AV.top :: AV.top :: AV.top :: AV.top :: AV.top :: AV.top :: und :: und :: und :: und :: und :: und :: und :: und :: und :: und :: und :: und :: und :: und :: und :: und :: und :: und :: und :: und :: und :: und :: und :: und :: und :: und :: und :: und :: und :: und :: und :: und :: und :: und :: und :: []), h120) ∧ Hold B h120 ([(AV.ptr o105 1 0 0, .pt 2 [iv q122, iv q123])] ++ D2 (A := (Sl Part)) x6 ps90)) := by
  refine loop_sim (Rel := fun (st : Int × Int × Int) tm h117 => match st with | (w115, w116, w119) => tm = ((Sl.enc a_) :: (Sl.enc b_) :: und :: und :: (iv 0) :: (iv 0) :: (iv 0) :: (iv 0) :: x6 :: (iv w18) :: (iv w94) :: (AV.ptr o105 1 0 0) :: und :: AV.top :: und :: und :: und :: und :: (Sl.enc a_) :: (bv c1) :: (bv (!c1)) :: (bv (!c1)) :: AV.top :: AV.top :: (cond (!c1) und (bv c4)) :: (bv (bif !c1 then true else c4)) :: (Sl.enc a_) :: (iv (((a_.getD []).length : Nat) : Int)) :: x6 :: (Sl.enc a_) :: (iv (((a_.getD []).length : Nat) : Int)) :: (iv w18) :: (bv (decide (w18 < (((a_.getD []).length : Nat) : Int)))) :: (iv w18) :: x6 :: (iv w18) :: (Sl.enc b_) :: (iv (((b_.getD []).length : Nat) : Int)) :: x73 :: (elp x6 m79 0) :: (Sl.enc b_) :: (iv (((b_.getD []).length : Nat) : Int)) :: (iv w94) :: (bv (decide (w94 < (((b_.getD []).length : Nat) : Int)))) :: (iv w94) :: (AV.agg [iv 1099511627776, iv 0]) :: (iv w18) :: (bv (decide (w18 = 0))) :: (iv w94) :: (AV.agg [iv 0, iv w94]) :: (AV.agg [iv c114.a0, iv c114.a1, iv c114.a2, iv c114.a3, iv c114.a4, iv c114.a5]) :: (iv w119) :: AV.top :: AV.top :: AV.top :: AV.top :: AV.top :: AV.top :: AV.top :: AV.top :: AV.top :: AV.top :: AV.top :: AV.top :: AV.top :: AV.top :: AV.top :: AV.top :: AV.top :: AV.top :: AV.top :: AV.top :: AV.top :: AV.top :: AV.top :: AV.top :: AV.top :: AV.top :: AV.top :: AV.top :: AV.top :: AV.top :: AV.top :: AV.top :: AV.top :: AV.top :: AV.top :: AV.top :: AV.top :: AV.top :: AV.top :: AV.top :: AV.top :: AV.top :: AV.top :: AV.top :: AV.top :: AV.top :: AV.top :: AV.top :: AV.top :: AV.top :: AV.top :: AV.top :: AV.top :: AV.top :: AV.top :: AV.top :: AV.top :: AV.top :: AV.top :: AV.top :: AV.top :: AV.top :: AV.top :: AV.top :: AV.top :: und :: und :: und :: und :: und :: und :: und :: und :: und :: und :: und :: und :: und :: und :: und :: und :: und :: und :: und :: und :: und :: und :: und :: und :: und :: und :: und :: und :: und :: und :: und :: und :: und :: und :: und :: []) ∧ Hold B h117 ([(AV.ptr o105 1 0 0, .pt 2 [iv w115, iv w116])] ++ D2 (A := (Sl Part)) x6 ps90)) (fun st tm h117 R => ?_) R
  obtain ⟨w115, w116, w119⟩ := st
  obtain ⟨rfl, O118⟩ := R
  rw [e_lb3_impl_PartElastic]
  unfold s3_impl_PartElastic
  dsimp only
  refine sim_let (v := bv (decide (w119 < 3))) (aBin_lss _ _) ?_
  refine sim_cond (fun c151 => ?_) (fun c151 => ?_)
  · refine sim_idxA6 (fun a152 => ?_)
    refine sim_box O118 (cs := [iv 0, iv 0]) (by first | rfl | simp) (fun o153 h154 O155 => ?_)
    replace O155 : Hold B h154 ([(AV.ptr o105 1 0 0, .pt 2 [iv w115, iv w116]), (AV.ptr o153 1 0 0, .pt 2 [iv 0, iv 0])] ++ D2 (A := (Sl Part)) x6 ps90) := Hold.rot O155
    refine sim_store O155 1 (cs' := [iv a152.a0, iv a152.a1]) rfl (by first | rfl | simp) (by simp) (by first | rfl | simp) (by first | rfl | simp [splice]) (fun h157 O158 => ?_)
    replace O158 : Hold B h157 ([(AV.ptr o105 1 0 0, .pt 2 [iv w115, iv w116]), (AV.ptr o153 1 0 0, .pt 2 [iv a152.a0, iv a152.a1])] ++ D2 (A := (Sl Part)) x6 ps90) := O158
    refine sim_let (v := AV.ptr o153 1 0 0) rfl ?_
    refine sim_let (v := iv a152.a0) (O158.ld 1 rfl false 1 0) ?_
    refine sim_let (v := bv (decide (a152.a0 ≤ w18))) (aBin_geq _ _) ?_
    refine sim_g4T (e := bv) (fun hb159 => ?_) (fun y161 y162 y163 c160 => ?_)
    · refine sim_o0 ?_
      refine sim_o1 ?_
      refine sim_let (v := AV.ptr o153 1 0 1) rfl ?_
      refine sim_o0 ?_
      refine sim_o1 ?_
      refine sim_let (v := iv a152.a1) (O158.ld 1 rfl false 1 1) ?_
      refine sim_o0 ?_
      refine sim_let (v := bv (decide (a152.a1 ≤ w94))) (aBin_geq _ _) ?_
      exact sim_ret rfl
    · refine sim_let (v := bv (bif decide (a152.a0 ≤ w18) then c160 else false)) (pick_b _ _ _) ?_
      refine sim_g15T (e := bv) (fun hb164 => ?_) (fun y177 y178 y179 y180 y181 y182 y183 y184 y185 y186 y187 y188 y189 y190 c176 => ?_)
      · refine sim_o0 ?_
        refine sim_o0 ?_
        refine sim_o1 ?_
        refine sim_let (v := AV.ptr o153 1 0 0) rfl ?_
        refine sim_o0 ?_
        refine sim_o1 ?_
        refine sim_let (v := iv a152.a0) (O158.ld 1 rfl false 1 0) ?_
        refine sim_o0 ?_
        refine sim_o1 ?_
        refine sim_let (v := iv (wr (w18 - a152.a0))) (aBin_sub _ _) ?_
        refine sim_o0 ?_
        refine sim_o1 ?_
        refine sim_getN (l := [(AV.ptr o105 1 0 0, .pt 2 [iv w115, iv w116]), (AV.ptr o153 1 0 0, .pt 2 [iv a152.a0, iv a152.a1])]) (x := x6) (ps := ps90) (A := (Sl Part)) O158 hp91 (fun m166 a165 x169 hi167 hm168 hg170 => ?_)
        refine sim_o0 ?_
        refine sim_o1 ?_
        refine sim_let (v := x169) (D2.ld (l := [(AV.ptr o105 1 0 0, .pt 2 [iv w115, iv w116]), (AV.ptr o153 1 0 0, .pt 2 [iv a152.a0, iv a152.a1])]) (x := x6) (ps := ps90) (A := (Sl Part)) O158 hm168 false 1 0) ?_
        refine sim_o0 ?_
        refine sim_o0 ?_
        refine sim_o1 ?_
        refine sim_let (v := AV.ptr o153 1 0 1) rfl ?_
        refine sim_o0 ?_
        refine sim_o1 ?_
        refine sim_let (v := iv a152.a1) (O158.ld 1 rfl false 1 1) ?_
        refine sim_o0 ?_
        refine sim_o1 ?_
        refine sim_let (v := iv (wr (w94 - a152.a1))) (aBin_sub _ _) ?_
        refine sim_o0 ?_
        refine sim_o1 ?_
        refine sim_get (D2.tab (l := [(AV.ptr o105 1 0 0, .pt 2 [iv w115, iv w116]), (AV.ptr o153 1 0 0, .pt 2 [iv a152.a0, iv a152.a1])]) (x := x6) (ps := ps90) (A := (Sl Part)) O158 hm168) (fun m172 a171 hi173 hm174 => ?_)
        refine sim_o0 ?_
        refine sim_o1 ?_
        refine sim_let (v := AV.agg [iv a171.cost, iv a171.frm]) ((D2.tab (l := [(AV.ptr o105 1 0 0, .pt 2 [iv w115, iv w116]), (AV.ptr o153 1 0 0, .pt 2 [iv a152.a0, iv a152.a1])]) (x := x6) (ps := ps90) (A := (Sl Part)) O158 hm168).ld hm174 true 2 0) ?_
        refine sim_o0 ?_
        refine sim_o1 ?_
        refine sim_let (v := AV.agg [iv w115, iv w116]) (O158.ld 0 rfl true 2 0) ?_
        refine sim_o0 ?_
        refine sim_callQ2 he_impl_part_better (snapD_nr _ a171 rfl) (snapD_nr _ (⟨w115, w116⟩ : Part) rfl) (fun c175 => ?_)
        refine sim_let2 (hand_plain (by rfl) _ _) ?_
        exact sim_ret rfl
      · refine sim_let (v := bv (bif (bif decide (a152.a0 ≤ w18) then c160 else false) then c176 else false)) (pick_b _ _ _) ?_
        refine sim_cond (fun c191 => ?_) (fun c191 => ?_)
        · refine sim_let (v := AV.ptr o153 1 0 0) rfl ?_
          refine sim_let (v := iv a152.a0) (O158.ld 1 rfl false 1 0) ?_
          refine sim_let (v := iv (wr (w18 - a152.a0))) (aBin_sub _ _) ?_
          refine sim_getN (l := [(AV.ptr o105 1 0 0, .pt 2 [iv w115, iv w116]), (AV.ptr o153 1 0 0, .pt 2 [iv a152.a0, iv a152.a1])]) (x := x6) (ps := ps90) (A := (Sl Part)) O158 hp91 (fun m193 a192 x196 hi194 hm195 hg197 => ?_)
          refine sim_let (v := x196) (D2.ld (l := [(AV.ptr o105 1 0 0, .pt 2 [iv w115, iv w116]), (AV.ptr o153 1 0 0, .pt 2 [iv a152.a0, iv a152.a1])]) (x := x6) (ps := ps90) (A := (Sl Part)) O158 hm195 false 1 0) ?_
          refine sim_let (v := AV.ptr o153 1 0 1) rfl ?_
          refine sim_let (v := iv a152.a1) (O158.ld 1 rfl false 1 1) ?_
          refine sim_let (v := iv (wr (w94 - a152.a1))) (aBin_sub _ _) ?_
          refine sim_get (D2.tab (l := [(AV.ptr o105 1 0 0, .pt 2 [iv w115, iv w116]), (AV.ptr o153 1 0 0, .pt 2 [iv a152.a0, iv a152.a1])]) (x := x6) (ps := ps90) (A := (Sl Part)) O158 hm195) (fun m199 a198 hi200 hm201 => ?_)
          refine sim_let (v := AV.agg [iv a198.cost, iv a198.frm]) ((D2.tab (l := [(AV.ptr o105 1 0 0, .pt 2 [iv w115, iv w116]), (AV.ptr o153 1 0 0, .pt 2 [iv a152.a0, iv a152.a1])]) (x := x6) (ps := ps90) (A := (Sl Part)) O158 hm195).ld hm201 true 2 0) ?_
          refine sim_store O158 0 (cs' := [iv a198.cost, iv a198.frm]) rfl (by first | rfl | simp) (by simp) (by first | rfl | simp) (by first | rfl | simp [splice]) (fun h202 O203 => ?_)
          replace O203 : Hold B h202 ([(AV.ptr o105 1 0 0, .pt 2 [iv a198.cost, iv a198.frm]), (AV.ptr o153 1 0 0, .pt 2 [iv a152.a0, iv a152.a1])] ++ D2 (A := (Sl Part)) x6 ps90) := O203
          refine sim_let (v := iv (wr (w119 + 1))) (aBin_add _ _) ?_
          have O204 : Hold B h202 ([(AV.ptr o105 1 0 0, .pt 2 [iv a198.cost, iv a198.frm])] ++ D2 (A := (Sl Part)) x6 ps90) := O203.selD [0] (by decide) rfl
          exact sim_ret ⟨rfl, rfl, O204⟩
        · refine sim_let (v := iv (wr (w119 + 1))) (aBin_add _ _) ?_
          have O205 : Hold B h157 ([(AV.ptr o105 1 0 0, .pt 2 [iv w115, iv w116])] ++ D2 (A := (Sl Part)) x6 ps90) := O158.selD [0] (by decide) rfl
          exact sim_ret ⟨rfl, rfl, O205⟩
  · exact sim_ret ⟨nofun, _, _, rfl, O118⟩
theorem tl4_impl_PartElastic (env : Nat → Contract) {B : Base} (he_impl_ValidSeq : env n_impl_ValidSeq = .pure (C1 (fun c : Bool => enc c) t_impl_ValidSeq)) (he_impl_featCost : env n_impl_featCost = .pure (C2 (fun c : Int => enc c) t_impl_featCost)) (he_impl_part_better : env n_impl_part_better = .pure (C2 (fun c : Bool => enc c) t_impl_part_better)) (he_impl_stepsBack : env n_impl_stepsBack = .pure (C0 (fun c : Ar6 => enc c) t_impl_stepsBack)) (a_ : Sl Feat) (b_ : Sl Feat) (c1 : Bool) (c4 : Bool) (x6 : AV) (w18 : Int) (x73 : AV) (m79 : Nat) (w89 : Sl (Sl Part)) (ps90 : PS (Sl Part)) (hp91 : pj ps90 = w89) (w94 : Int) (o105 : Nat) (c209 : Ar6)  {st : Int × Int × Int} {tm : TM} {h : Heap} (R : (fun (st : Int × Int × Int) tm h212 => match st with | (w210, w211, w214) => tm = ((Sl.enc a_) :: (Sl.enc b_) :: und :: und :: (iv 0) :: (iv 0) :: (iv 0) :: (iv 0) :: x6 :: (iv w18) :: (iv w94) :: (AV.ptr o105 1 0 0) :: und :: AV.top :: und :: und :: und :: und :: (Sl.enc a_) :: (bv c1) :: (bv (!c1)) :: (bv (!c1)) :: AV.top :: AV.top :: (cond (!c1) und (bv c4)) :: (bv (bif !c1 then true else c4)) :: (Sl.enc a_) :: (iv (((a_.getD []).length : Nat) : Int)) :: x6 :: (Sl.enc a_) :: (iv (((a_.getD []).length : Nat) : Int)) :: (iv w18) :: (bv (decide (w18 < (((a_.getD []).length : Nat) : Int)))) :: (iv w18) :: x6 :: (iv w18) :: (Sl.enc b_) :: (iv (((b_.getD []).length : Nat) : Int)) :: x73 :: (elp x6 m79 0) :: (Sl.enc b_) :: (iv (((b_.getD []).length : Nat) : Int)) :: (iv w94) :: (bv (decide (w94 < (((b_.getD []).length : Nat) : Int)))) :: (iv w94) :: (AV.agg [iv 1099511627776, iv 0]) :: (iv w18) :: (bv (decide (w18 = 0))) :: AV.top :: AV.top :: (AV.agg [iv c209.a0, iv c209.a1, iv c209.a2, iv c209.a3, iv c209.a4, iv c209.a5]) :: (iv w214) :: AV.top :: AV.top :: AV.top :: AV.top :: AV.top :: AV.top :: AV.top :: AV.top :: AV.top :: AV.top :: AV.top :: AV.top :: AV.top :: AV.top :: AV.top :: AV.top :: AV.top :: AV.top :: AV.top :: AV.top :: AV.top :: AV.top :: AV.top :: AV.top :: AV.top :: AV.top :: AV.top :: AV.top :: AV.top :: AV.top :: AV.top :: AV.top :: AV.top :: AV.top :: AV.top :: AV.top :: AV.top :: AV.top :: AV.top :: AV.top :: AV.top :: AV.top :: AV.top :: AV.top :: AV.top :: AV.top :: AV.top :: AV.top :: AV.top :: AV.top :: AV.top :: AV.top :: AV.top :: AV.top :: AV.top :: AV.top :: AV.top :: AV.top :: AV.top :: AV.top :: AV.top :: AV.top :: AV.top :: AV.top :: AV.top :: und :: und :: und :: und :: und :: und :: und :: und :: und :: und :: und :: und :: und :: und :: und :: und :: und :: und :: und :: und :: und :: und :: und :: und :: und :: und :: und :: und :: und :: und :: und :: und :: und :: und :: und :: []) ∧ Hold B h212 ([(AV.ptr o105 1 0 0, .pt 2 [iv w210, iv w211])] ++ D2 (A := (Sl Part)) x6 ps90)) st tm h) : Sim (loopP hm4_impl_PartElastic xm4_impl_PartElastic (lb4_impl_PartElastic env) tm h) (loopT (s4_impl_PartElastic w18 w89 w94 c209) st) (fun (q : Int × Int) (r : Res) => match q with | (q217, q218) => ∃ (z219 : AV) (h215 : Heap), r = (.exit 4, ((Sl.enc a_) :: (Sl.enc b_) :: und :: und :: (iv 0) :: (iv 0) :: (iv 0) :: (iv 0) :: x6 :: (iv w18) :: (iv w94) :: (AV.ptr o105 1 0 0) :: und :: z219 :: und :: und :: und :: und :: (Sl.enc a_) :: (bv c1) :: (bv (!c1)) :: (bv (!c1)) :: AV.top :: AV.top :: (cond (!c1) und (bv c4)) :: (bv (bif !c1 then true else c4)) :: (Sl.enc a_) :: (iv (((a_.getD []).length : Nat) : Int)) :: x6 :: (Sl.enc a_) :: (iv (((a_.getD []).length : Nat) : Int)) :: (iv w18) :: (bv (decide (w18 < (((a_.getD []).length : Nat) : Int)))) :: (iv w18) :: x6 :: (iv w18) :: (Sl.enc b_) :: (iv (((b_.getD []).length : Nat) : Int)) :: x73 :: (elp x6 m79 0) :: (Sl.enc b_) :: (iv (((b_.getD []).length : Nat) : Int)) :: (iv w94) :: (bv (decide (w94 < (((b_.getD []).length : Nat) : Int)))) :: (iv w94) :: (AV.agg [iv 1099511627776, iv 0]) :: (iv w18) :: (bv (decide (w18 = 0))) :: AV.top :: AV.top :: (AV.agg [iv c209.a0, iv c209.a1, iv c209.a2, iv c209.a3, iv c209.a4, iv c209.a5]) :: AV.top :: AV.top :: AV.top :: AV.top :: AV.top :: AV.top :: AV.top :: AV.top :: AV.top :: AV.top :: AV.top :: AV.top :: AV.top :: AV.top :: AV.top :: AV.top :: AV.top :: AV.top :: AV.top :: AV.top :: AV.top :: AV.top :: AV.top :: AV.top :: AV.top :: AV.top :: AV.top :: AV.top :: AV.top :: AV.top :: AV.top :: AV.top :: AV.top :: AV.top :: AV.top :: AV.top :: AV.top :: AV.top :: AV.top :: AV.top :: AV.top :: AV.top :: AV.top :: AV.top :: AV.top :: AV.top :: AV.top :: AV.top :: AV.top :: AV.top :: AV.top :: AV.top :: AV.top :: AV.top :: AV.top :: AV.top :: AV.top :: AV.top :: AV.top :: AV.top :: AV.top :: AV.top :: AV.top :: AV.top :: AV.top :: AV.top :: und :: und :: und :: und :: und :: und :: und :: und :: und :: und :: und :: und :: und :: und :: und :: und :: und :: und :: und :: und :: und :: und :: und :: und :: und :: und :: und :: und :: und :: und :: und :: und :: und :: und :: und :: []), h215) ∧ Hold B h215 ([(AV.ptr o105 1 0 0, .pt 2 [iv q217, iv q218])] ++ D2 (A := (Sl Part)) x6 ps90)) := by
  refine loop_sim (Rel := fun (st : Int × Int × Int) tm h212 => match st with | (w210, w211, w214) => tm = ((Sl.enc a_) :: (Sl.enc b_) :: und :: und :: (iv 0) :: (iv 0) :: (iv 0) :: (iv 0) :: x6 :: (iv w18) :: (iv w94) :: (AV.ptr o105 1 0 0) :: und :: AV.top :: und :: und :: und :: und :: (Sl.enc a_) :: (bv c1) :: (bv (!c1)) :: (bv (!c1)) :: AV.top :: AV.top :: (cond (!c1) und (bv c4)) :: (bv (bif !c1 then true else c4)) :: (Sl.enc a_) :: (iv (((a_.getD []).length : Nat) : Int)) :: x6 :: (Sl.enc a_) :: (iv (((a_.getD []).length : Nat) : Int)) :: (iv w18) :: (bv (decide (w18 < (((a_.getD []).length : Nat) : Int)))) :: (iv w18) :: x6 :: (iv w18) :: (Sl.enc b_) :: (iv (((b_.getD []).length : Nat) : Int)) :: x73 :: (elp x6 m79 0) :: (Sl.enc b_) :: (iv (((b_.getD []).length : Nat) : Int)) :: (iv w94) :: (bv (decide (w94 < (((b_.getD []).length : Nat) : Int)))) :: (iv w94) :: (AV.agg [iv 1099511627776, iv 0]) :: (iv w18) :: (bv (decide (w18 = 0))) :: AV.top :: AV.top :: (AV.agg [iv c209.a0, iv c209.a1, iv c209.a2, iv c209.a3, iv c209.a4, iv c209.a5]) :: (iv w214) :: AV.top :: AV.top :: AV.top :: AV.top :: AV.top :: AV.top :: AV.top :: AV.top :: AV.top :: AV.top :: AV.top :: AV.top :: AV.top :: AV.top :: AV.top :: AV.top :: AV.top :: AV.top :: AV.top :: AV.top :: AV.top :: AV.top :: AV.top :: AV.top :: AV.top :: AV.top :: AV.top :: AV.top :: AV.top :: AV.top :: AV.top :: AV.top :: AV.top :: AV.top :: AV.top :: AV.top :: AV.top :: AV.top :: AV.top :: AV.top :: AV.top :: AV.top :: AV.top :: AV.top :: AV.top :: AV.top :: AV.top :: AV.top :: AV.top :: AV.top :: AV.top :: AV.top :: AV.top :: AV.top :: AV.top :: AV.top :: AV.top :: AV.top :: AV.top :: AV.top :: AV.top :: AV.top :: AV.top :: AV.top :: AV.top :: und :: und :: und :: und :: und :: und :: und :: und :: und :: und :: und :: und :: und :: und :: und :: und :: und :: und :: und :: und :: und :: und :: und :: und :: und :: und :: und :: und :: und :: und :: und :: und :: und :: und :: und :: []) ∧ Hold B h212 ([(AV.ptr o105 1 0 0, .pt 2 [iv w210, iv w211])] ++ D2 (A := (Sl Part)) x6 ps90)) (fun st tm h212 R => ?_) R
  obtain ⟨w210, w211, w214⟩ := st
  obtain ⟨rfl, O213⟩ := R
  rw [e_lb4_impl_PartElastic]
  unfold s4_impl_PartElastic
  dsimp only
  refine sim_let (v := bv (decide (w214 < 3))) (aBin_lss _ _) ?_
  refine sim_cond (fun c246 => ?_) (fun c246 => ?_)
  · refine sim_idxA6 (fun a247 => ?_)
    refine sim_box O213 (cs := [iv 0, iv 0]) (by first | rfl | simp) (fun o248 h249 O250 => ?_)
    replace O250 : Hold B h249 ([(AV.ptr o105 1 0 0, .pt 2 [iv w210, iv w211]), (AV.ptr o248 1 0 0, .pt 2 [iv 0, iv 0])] ++ D2 (A := (Sl Part)) x6 ps90) := Hold.rot O250
    refine sim_store O250 1 (cs' := [iv a247.a0, iv a247.a1]) rfl (by first | rfl | simp) (by simp) (by first | rfl | simp) (by first | rfl | simp [splice]) (fun h252 O253 => ?_)
    replace O253 : Hold B h252 ([(AV.ptr o105 1 0 0, .pt 2 [iv w210, iv w211]), (AV.ptr o248 1 0 0, .pt 2 [iv a247.a0, iv a247.a1])] ++ D2 (A := (Sl Part)) x6 ps90) := O253
    refine sim_let (v := AV.ptr o248 1 0 0) rfl ?_
    refine sim_let (v := iv a247.a0) (O253.ld 1 rfl false 1 0) ?_
    refine sim_let (v := bv (decide (a247.a0 ≤ w18))) (aBin_geq _ _) ?_
    refine sim_g4T (e := bv) (fun hb254 => ?_) (fun y256 y257 y258 c255 => ?_)
    · refine sim_o0 ?_
      refine sim_o1 ?_
      refine sim_let (v := AV.ptr o248 1 0 1) rfl ?_
      refine sim_o0 ?_
      refine sim_o1 ?_
      refine sim_let (v := iv a247.a1) (O253.ld 1 rfl false 1 1) ?_
      refine sim_o0 ?_
      refine sim_let (v := bv (decide (a247.a1 ≤ w94))) (aBin_geq _ _) ?_
      exact sim_ret rfl
    · refine sim_let (v := bv (bif decide (a247.a0 ≤ w18) then c255 else false)) (pick_b _ _ _) ?_
      refine sim_g15T (e := bv) (fun hb259 => ?_) (fun y272 y273 y274 y275 y276 y277 y278 y279 y280 y281 y282 y283 y284 y285 c271 => ?_)
      · refine sim_o0 ?_
        refine sim_o0 ?_
        refine sim_o1 ?_
        refine sim_let (v := AV.ptr o248 1 0 0) rfl ?_
        refine sim_o0 ?_
        refine sim_o1 ?_
        refine sim_let (v := iv a247.a0) (O253.ld 1 rfl false 1 0) ?_
        refine sim_o0 ?_
        refine sim_o1 ?_
        refine sim_let (v := iv (wr (w18 - a247.a0))) (aBin_sub _ _) ?_
        refine sim_o0 ?_
        refine sim_o1 ?_
        refine sim_getN (l := [(AV.ptr o105 1 0 0, .pt 2 [iv w210, iv w211]), (AV.ptr o248 1 0 0, .pt 2 [iv a247.a0, iv a247.a1])]) (x := x6) (ps := ps90) (A := (Sl Part)) O253 hp91 (fun m261 a260 x264 hi262 hm263 hg265 => ?_)
        refine sim_o0 ?_
        refine sim_o1 ?_
        refine sim_let (v := x264) (D2.ld (l := [(AV.ptr o105 1 0 0, .pt 2 [iv w210, iv w211]), (AV.ptr o248 1 0 0, .pt 2 [iv a247.a0, iv a247.a1])]) (x := x6) (ps := ps90) (A := (Sl Part)) O253 hm263 false 1 0) ?_
        refine sim_o0 ?_
        refine sim_o0 ?_
        refine sim_o1 ?_
        refine sim_let (v := AV.ptr o248 1 0 1) rfl ?_
        refine sim_o0 ?_
        refine sim_o1 ?_
        refine sim_let (v := iv a247.a1) (O253.ld 1 rfl false 1 1) ?_
        refine sim_o0 ?_
        refine sim_o1 ?_
        refine sim_let (v := iv (wr (w94 - a247.a1))) (aBin_sub _ _) ?_
        refine sim_o0 ?_
        refine sim_o1 ?_
        refine sim_get (D2.tab (l := [(AV.ptr o105 1 0 0, .pt 2 [iv w210, iv w211]), (AV.ptr o248 1 0 0, .pt 2 [iv a247.a0, iv a247.a1])]) (x := x6) (ps := ps90) (A := (Sl Part)) O253 hm263) (fun m267 a266 hi268 hm269 => ?_)
        refine sim_o0 ?_
        refine sim_o1 ?_
        refine sim_let (v := AV.agg [iv a266.cost, iv a266.frm]) ((D2.tab (l := [(AV.ptr o105 1 0 0, .pt 2 [iv w210, iv w211]), (AV.ptr o248 1 0 0, .pt 2 [iv a247.a0, iv a247.a1])]) (x := x6) (ps := ps90) (A := (Sl Part)) O253 hm263).ld hm269 true 2 0) ?_
        refine sim_o0 ?_
        refine sim_o1 ?_
        refine sim_let (v := AV.agg [iv w210, iv w211]) (O253.ld 0 rfl true 2 0) ?_
        refine sim_o0 ?_
        refine sim_callQ2 he_impl_part_better (snapD_nr _ a266 rfl) (snapD_nr _ (⟨w210, w211⟩ : Part) rfl) (fun c270 => ?_)
        refine sim_let2 (hand_plain (by rfl) _ _) ?_
        exact sim_ret rfl
      · refine sim_let (v := bv (bif (bif decide (a247.a0 ≤ w18) then c255 else false) then c271 else false)) (pick_b _ _ _) ?_
        refine sim_cond (fun c286 => ?_) (fun c286 => ?_)
        · refine sim_let (v := AV.ptr o248 1 0 0) rfl ?_
          refine sim_let (v := iv a247.a0) (O253.ld 1 rfl false 1 0) ?_
          refine sim_let (v := iv (wr (w18 - a247.a0))) (aBin_sub _ _) ?_
          refine sim_getN (l := [(AV.ptr o105 1 0 0, .pt 2 [iv w210, iv w211]), (AV.ptr o248 1 0 0, .pt 2 [iv a247.a0, iv a247.a1])]) (x := x6) (ps := ps90) (A := (Sl Part)) O253 hp91 (fun m288 a287 x291 hi289 hm290 hg292 => ?_)
          refine sim_let (v := x291) (D2.ld (l := [(AV.ptr o105 1 0 0, .pt 2 [iv w210, iv w211]), (AV.ptr o248 1 0 0, .pt 2 [iv a247.a0, iv a247.a1])]) (x := x6) (ps := ps90) (A := (Sl Part)) O253 hm290 false 1 0) ?_
          refine sim_let (v := AV.ptr o248 1 0 1) rfl ?_
          refine sim_let (v := iv a247.a1) (O253.ld 1 rfl false 1 1) ?_
          refine sim_let (v := iv (wr (w94 - a247.a1))) (aBin_sub _ _) ?_
          refine sim_get (D2.tab (l := [(AV.ptr o105 1 0 0, .pt 2 [iv w210, iv w211]), (AV.ptr o248 1 0 0, .pt 2 [iv a247.a0, iv a247.a1])]) (x := x6) (ps := ps90) (A := (Sl Part)) O253 hm290) (fun m294 a293 hi295 hm296 => ?_)
          refine sim_let (v := AV.agg [iv a293.cost, iv a293.frm]) ((D2.tab (l := [(AV.ptr o105 1 0 0, .pt 2 [iv w210, iv w211]), (AV.ptr o248 1 0 0, .pt 2 [iv a247.a0, iv a247.a1])]) (x := x6) (ps := ps90) (A := (Sl Part)) O253 hm290).ld hm296 true 2 0) ?_
          refine sim_store O253 0 (cs' := [iv a293.cost, iv a293.frm]) rfl (by first | rfl | simp) (by simp) (by first | rfl | simp) (by first | rfl | simp [splice]) (fun h297 O298 => ?_)
          replace O298 : Hold B h297 ([(AV.ptr o105 1 0 0, .pt 2 [iv a293.cost, iv a293.frm]), (AV.ptr o248 1 0 0, .pt 2 [iv a247.a0, iv a247.a1])] ++ D2 (A := (Sl Part)) x6 ps90) := O298
          refine sim_let (v := iv (wr (w214 + 1))) (aBin_add _ _) ?_
          have O299 : Hold B h297 ([(AV.ptr o105 1 0 0, .pt 2 [iv a293.cost, iv a293.frm])] ++ D2 (A := (Sl Part)) x6 ps90) := O298.selD [0] (by decide) rfl
          exact sim_ret ⟨rfl, rfl, O299⟩
        · refine sim_let (v := iv (wr (w214 + 1))) (aBin_add _ _) ?_
          have O300 : Hold B h252 ([(AV.ptr o105 1 0 0, .pt 2 [iv w210, iv w211])] ++ D2 (A := (Sl Part)) x6 ps90) := O253.selD [0] (by decide) rfl
          exact sim_ret ⟨rfl, rfl, O300⟩
  · exact sim_ret ⟨nofun, _, _, rfl, O213⟩
theorem tl1_impl_PartElastic (env : Nat → Contract) {B : Base} (he_impl_ValidSeq : env n_impl_ValidSeq = .pure (C1 (fun c : Bool => enc c) t_impl_ValidSeq)) (he_impl_featCost : env n_impl_featCost = .pure (C2 (fun c : Int => enc c) t_impl_featCost)) (he_impl_part_better : env n_impl_part_better = .pure (C2 (fun c : Bool => enc c) t_impl_part_better)) (he_impl_stepsBack : env n_impl_stepsBack = .pure (C0 (fun c : Ar6 => enc c) t_impl_stepsBack)) (a_ : Sl Feat) (b_ : Sl Feat) (c1 : Bool) (c4 : Bool) (x6 : AV) (w18 : Int) (x73 : AV) (m79 : Nat)  {st : (Sl (Sl Part)) × Int} {tm : TM} {h : Heap} (R : (fun (st : (Sl (Sl Part)) × Int) tm h92 => match st with | (w89, w94) => ∃ ps90 : PS (Sl Part), tm = ((Sl.enc a_) :: (Sl.enc b_) :: und :: und :: (iv 0) :: (iv 0) :: (iv 0) :: (iv 0) :: x6 :: (iv w18) :: AV.top :: AV.top :: und :: AV.top :: und :: und :: und :: und :: (Sl.enc a_) :: (bv c1) :: (bv (!c1)) :: (bv (!c1)) :: AV.top :: AV.top :: (cond (!c1) und (bv c4)) :: (bv (bif !c1 then true else c4)) :: (Sl.enc a_) :: (iv (((a_.getD []).length : Nat) : Int)) :: x6 :: (Sl.enc a_) :: (iv (((a_.getD []).length : Nat) : Int)) :: (iv w18) :: (bv (decide (w18 < (((a_.getD []).length : Nat) : Int)))) :: (iv w18) :: x6 :: (iv w18) :: (Sl.enc b_) :: (iv (((b_.getD []).length : Nat) : Int)) :: x73 :: (elp x6 m79 0) :: (Sl.enc b_) :: (iv (((b_.getD []).length : Nat) : Int)) :: (iv w94) :: AV.top :: AV.top :: AV.top :: AV.top :: AV.top :: AV.top :: AV.top :: AV.top :: AV.top :: AV.top :: AV.top :: AV.top :: AV.top :: AV.top :: AV.top :: AV.top :: AV.top :: AV.top :: AV.top :: AV.top :: AV.top :: AV.top :: AV.top :: AV.top :: AV.top :: AV.top :: AV.top :: AV.top :: AV.top :: AV.top :: AV.top :: AV.top :: AV.top :: AV.top :: AV.top :: AV.top :: AV.top :: AV.top :: AV.top :: AV.top :: AV.top :: AV.top :: AV.top :: AV.top :: AV.top :: AV.top :: AV.top :: AV.top :: AV.top :: AV.top :: AV.top :: AV.top :: AV.top :: AV.top :: AV.top :: AV.top :: AV.top :: AV.top :: AV.top :: AV.top :: AV.top :: AV.top :: AV.top :: AV.top :: AV.top :: AV.top :: AV.top :: AV.top :: AV.top :: AV.top :: AV.top :: AV.top :: AV.top :: AV.top :: und :: und :: und :: und :: und :: und :: und :: und :: und :: und :: und :: und :: und :: und :: und :: und :: und :: und :: und :: und :: und :: und :: und :: und :: und :: und :: und :: und :: und :: und :: und :: und :: und :: und :: und :: []) ∧ pj ps90 = w89 ∧ Hold B h92 ([] ++ D2 (A := (Sl Part)) x6 ps90)) st tm h) : Sim (loopP hm1_impl_PartElastic xm1_impl_PartElastic (lb1_impl_PartElastic env) tm h) (loopT (s1_impl_PartElastic a_ b_ w18) st) (fun (q : Sl (Sl Part)) (r : Res) => match q with | q97 => ∃ (z100 : AV) (z101 : AV) (z102 : AV) (ps98 : PS (Sl Part)) (h95 : Heap), r = (.exit 2, ((Sl.enc a_) :: (Sl.enc b_) :: und :: und :: (iv 0) :: (iv 0) :: (iv 0) :: (iv 0) :: x6 :: (iv w18) :: z100 :: z101 :: und :: z102 :: und :: und :: und :: und :: (Sl.enc a_) :: (bv c1) :: (bv (!c1)) :: (bv (!c1)) :: AV.top :: AV.top :: (cond (!c1) und (bv c4)) :: (bv (bif !c1 then true else c4)) :: (Sl.enc a_) :: (iv (((a_.getD []).length : Nat) : Int)) :: x6 :: (Sl.enc a_) :: (iv (((a_.getD []).length : Nat) : Int)) :: (iv w18) :: (bv (decide (w18 < (((a_.getD []).length : Nat) : Int)))) :: (iv w18) :: x6 :: (iv w18) :: (Sl.enc b_) :: (iv (((b_.getD []).length : Nat) : Int)) :: x73 :: (elp x6 m79 0) :: (Sl.enc b_) :: (iv (((b_.getD []).length : Nat) : Int)) :: AV.top :: AV.top :: AV.top :: AV.top :: AV.top :: AV.top :: AV.top :: AV.top :: AV.top :: AV.top :: AV.top :: AV.top :: AV.top :: AV.top :: AV.top :: AV.top :: AV.top :: AV.top :: AV.top :: AV.top :: AV.top :: AV.top :: AV.top :: AV.top :: AV.top :: AV.top :: AV.top :: AV.top :: AV.top :: AV.top :: AV.top :: AV.top :: AV.top :: AV.top :: AV.top :: AV.top :: AV.top :: AV.top :: AV.top :: AV.top :: AV.top :: AV.top :: AV.top :: AV.top :: AV.top :: AV.top :: AV.top :: AV.top :: AV.top :: AV.top :: AV.top :: AV.top :: AV.top :: AV.top :: AV.top :: AV.top :: AV.top :: AV.top :: AV.top :: AV.top :: AV.top :: AV.top :: AV.top :: AV.top :: AV.top :: AV.top :: AV.top :: AV.top :: AV.top :: AV.top :: AV.top :: AV.top :: AV.top :: AV.top :: AV.top :: und :: und :: und :: und :: und :: und :: und :: und :: und :: und :: und :: und :: und :: und :: und :: und :: und :: und :: und :: und :: und :: und :: und :: und :: und :: und :: und :: und :: und :: und :: und :: und :: und :: und :: und :: []), h95) ∧ pj ps98 = q97 ∧ Hold B h95 ([] ++ D2 (A := (Sl Part)) x6 ps98)) := by
  refine loop_sim (Rel := fun (st : (Sl (Sl Part)) × Int) tm h92 => match st with | (w89, w94) => ∃ ps90 : PS (Sl Part), tm = ((Sl.enc a_) :: (Sl.enc b_) :: und :: und :: (iv 0) :: (iv 0) :: (iv 0) :: (iv 0) :: x6 :: (iv w18) :: AV.top :: AV.top :: und :: AV.top :: und :: und :: und :: und :: (Sl.enc a_) :: (bv c1) :: (bv (!c1)) :: (bv (!c1)) :: AV.top :: AV.top :: (cond (!c1) und (bv c4)) :: (bv (bif !c1 then true else c4)) :: (Sl.enc a_) :: (iv (((a_.getD []).length : Nat) : Int)) :: x6 :: (Sl.enc a_) :: (iv (((a_.getD []).length : Nat) : Int)) :: (iv w18) :: (bv (decide (w18 < (((a_.getD []).length : Nat) : Int)))) :: (iv w18) :: x6 :: (iv w18) :: (Sl.enc b_) :: (iv (((b_.getD []).length : Nat) : Int)) :: x73 :: (elp x6 m79 0) :: (Sl.enc b_) :: (iv (((b_.getD []).length : Nat) : Int)) :: (iv w94) :: AV.top :: AV.top :: AV.top :: AV.top :: AV.top :: AV.top :: AV.top :: AV.top :: AV.top :: AV.top :: AV.top :: AV.top :: AV.top :: AV.top :: AV.top :: AV.top :: AV.top :: AV.top :: AV.top :: AV.top :: AV.top :: AV.top :: AV.top :: AV.top :: AV.top :: AV.top :: AV.top :: AV.top :: AV.top :: AV.top :: AV.top :: AV.top :: AV.top :: AV.top :: AV.top :: AV.top :: AV.top :: AV.top :: AV.top :: AV.top :: AV.top :: AV.top :: AV.top :: AV.top :: AV.top :: AV.top :: AV.top :: AV.top :: AV.top :: AV.top :: AV.top :: AV.top :: AV.top :: AV.top :: AV.top :: AV.top :: AV.top :: AV.top :: AV.top :: AV.top :: AV.top :: AV.top :: AV.top :: AV.top :: AV.top :: AV.top :: AV.top :: AV.top :: AV.top :: AV.top :: AV.top :: AV.top :: AV.top :: AV.top :: und :: und :: und :: und :: und :: und :: und :: und :: und :: und :: und :: und :: und :: und :: und :: und :: und :: und :: und :: und :: und :: und :: und :: und :: und :: und :: und :: und :: und :: und :: und :: und :: und :: und :: und :: []) ∧ pj ps90 = w89 ∧ Hold B h92 ([] ++ D2 (A := (Sl Part)) x6 ps90)) (fun st tm h92 R => ?_) R
  obtain ⟨w89, w94⟩ := st
  obtain ⟨ps90, rfl, hp91, O93⟩ := R
  rw [e_lb1_impl_PartElastic]
  unfold s1_impl_PartElastic
  dsimp only
  refine sim_let (v := bv (decide (w94 < (((b_.getD []).length : Nat) : Int)))) (aBin_lss _ _) ?_
  refine sim_cond (fun c104 => ?_) (fun c104 => ?_)
  · refine sim_let (v := AV.agg [iv 1099511627776, iv 0]) (by first | rfl | simp [aBuild, aFill, splice]) ?_
    refine sim_box O93 (cs := [iv 0, iv 0]) (by first | rfl | simp) (fun o105 h106 O107 => ?_)
    replace O107 : Hold B h106 ([(AV.ptr o105 1 0 0, .pt 2 [iv 0, iv 0])] ++ D2 (A := (Sl Part)) x6 ps90) := Hold.rot O107
    refine sim_store O107 0 (cs' := [iv 1099511627776, iv 0]) rfl (by first | rfl | simp) (by simp) (by first | rfl | simp) (by first | rfl | simp [splice]) (fun h109 O110 => ?_)
    replace O110 : Hold B h109 ([(AV.ptr o105 1 0 0, .pt 2 [iv 1099511627776, iv 0])] ++ D2 (A := (Sl Part)) x6 ps90) := O110
    refine sim_let (v := bv (decide (w18 = 0))) (aCmp_eq _ _) ?_
    refine sim_cond (fun c111 => ?_) (fun c111 => ?_)
    · refine sim_let (v := AV.agg [iv 0, iv w94]) (by first | rfl | simp [aBuild, aFill, splice]) ?_
      refine sim_store O110 0 (cs' := [iv 0, iv w94]) rfl (by first | rfl | simp) (by simp) (by first | rfl | simp) (by first | rfl | simp [splice]) (fun h112 O113 => ?_)
      replace O113 : Hold B h112 ([(AV.ptr o105 1 0 0, .pt 2 [iv 0, iv w94])] ++ D2 (A := (Sl Part)) x6 ps90) := O113
      refine sim_call0 he_impl_stepsBack  (fun c114 => ?_)
      refine sim_let2 (hand_plain (by rfl) _ _) ?_
      refine sim_bind ((tl3_impl_PartElastic env he_impl_ValidSeq he_impl_featCost he_impl_part_better he_impl_stepsBack a_ b_ c1 c4 x6 w18 x73 m79 w89 ps90 hp91 w94 o105 c114) ⟨rfl, O113⟩) (fun qq208 r hq => ?_)
      obtain ⟨q122, q123⟩ := qq208
      obtain ⟨z124, h120, rfl, O121⟩ := hq
      rw [e_lk3x4_impl_PartElastic]
      refine sim_let (v := AV.ptr o105 1 0 0) rfl ?_
      refine sim_let (v := iv q122) (O121.ld 0 rfl false 1 0) ?_
      refine sim_get (Tab.enc h120 a_) (fun m126 a125 hi127 hm128 => ?_)
      refine sim_let (v := AV.agg [iv a125.x, iv a125.y, iv a125.d]) ((Tab.enc h120 a_).ld hm128 true 3 0) ?_
      refine sim_get (Tab.enc h120 b_) (fun m130 a129 hi131 hm132 => ?_)
      refine sim_let (v := AV.agg [iv a129.x, iv a129.y, iv a129.d]) ((Tab.enc h120 b_).ld hm132 true 3 0) ?_
      refine sim_callQ2 he_impl_featCost (snapD_nr _ a125 rfl) (snapD_nr _ a129 rfl) (fun c133 => ?_)
      refine sim_let2 (hand_plain (by rfl) _ _) ?_
      refine sim_let (v := iv (wr (q122 + c133))) (aBin_add _ _) ?_
      refine sim_let (v := AV.ptr o105 1 0 0) rfl ?_
      refine sim_store O121 0 (cs' := [iv (wr (q122 + c133)), iv q123]) rfl (by first | rfl | simp) (by simp) (by first | rfl | simp) (by first | rfl | simp [splice]) (fun h134 O135 => ?_)
      replace O135 : Hold B h134 ([(AV.ptr o105 1 0 0, .pt 2 [iv (wr (q122 + c133)), iv q123])] ++ D2 (A := (Sl Part)) x6 ps90) := O135
      refine sim_getN (l := [(AV.ptr o105 1 0 0, .pt 2 [iv (wr (q122 + c133)), iv q123])]) (x := x6) (ps := ps90) (A := (Sl Part)) O135 hp91 (fun m137 a136 x140 hi138 hm139 hg141 => ?_)
      refine sim_let (v := x140) (D2.ld (l := [(AV.ptr o105 1 0 0, .pt 2 [iv (wr (q122 + c133)), iv q123])]) (x := x6) (ps := ps90) (A := (Sl Part)) O135 hm139 false 1 0) ?_
      refine sim_let (v := AV.agg [iv (wr (q122 + c133)), iv q123]) (O135.ld 0 rfl true 2 0) ?_
      refine sim_get (D2.tab (l := [(AV.ptr o105 1 0 0, .pt 2 [iv (wr (q122 + c133)), iv q123])]) (x := x6) (ps := ps90) (A := (Sl Part)) O135 hm139) (fun m143 a142 hi144 hm145 => ?_)
      refine sim_setIn (l := [(AV.ptr o105 1 0 0, .pt 2 [iv (wr (q122 + c133)), iv q123])]) (x := x6) (ps := ps90) (A := (Sl Part)) O135 hp91 (setS a136 w94 (⟨wr (q122 + c133), q123⟩ : Part)) (⟨wr (q122 + c133), q123⟩ : Part) (by first | exact hi138 | rfl) hm139 hi144 hm145 rfl rfl rfl (by first | exact Nat.le_of_ble_eq_true rfl | simp) (by first | rfl | simp) (by first | rfl | simp [splice]) (fun ps148 h146 hp149 O147 => ?_)
      refine sim_let (v := iv (wr (w94 + 1))) (aBin_add _ _) ?_
      have O150 : Hold B h146 ([] ++ D2 (A := (Sl Part)) x6 ps148) := O147.selD [] (by decide) rfl
      exact sim_ret ⟨rfl, _, rfl, hp149, O150⟩
    · refine sim_call0 he_impl_stepsBack  (fun c209 => ?_)
      refine sim_let2 (hand_plain (by rfl) _ _) ?_
      refine sim_bind ((tl4_impl_PartElastic env he_impl_ValidSeq he_impl_featCost he_impl_part_better he_impl_stepsBack a_ b_ c1 c4 x6 w18 x73 m79 w89 ps90 hp91 w94 o105 c209) ⟨rfl, O110⟩) (fun qq303 r hq => ?_)
      obtain ⟨q217, q218⟩ := qq303
      obtain ⟨z219, h215, rfl, O216⟩ := hq
      rw [e_lk4x4_impl_PartElastic]
      refine sim_let (v := AV.ptr o105 1 0 0) rfl ?_
      refine sim_let (v := iv q217) (O216.ld 0 rfl false 1 0) ?_
      refine sim_get (Tab.enc h215 a_) (fun m221 a220 hi222 hm223 => ?_)
      refine sim_let (v := AV.agg [iv a220.x, iv a220.y, iv a220.d]) ((Tab.enc h215 a_).ld hm223 true 3 0) ?_
      refine sim_get (Tab.enc h215 b_) (fun m225 a224 hi226 hm227 => ?_)
      refine sim_let (v := AV.agg [iv a224.x, iv a224.y, iv a224.d]) ((Tab.enc h215 b_).ld hm227 true 3 0) ?_
      refine sim_callQ2 he_impl_featCost (snapD_nr _ a220 rfl) (snapD_nr _ a224 rfl) (fun c228 => ?_)
      refine sim_let2 (hand_plain (by rfl) _ _) ?_
      refine sim_let (v := iv (wr (q217 + c228))) (aBin_add _ _) ?_
      refine sim_let (v := AV.ptr o105 1 0 0) rfl ?_
      refine sim_store O216 0 (cs' := [iv (wr (q217 + c228)), iv q218]) rfl (by first | rfl | simp) (by simp) (by first | rfl | simp) (by first | rfl | simp [splice]) (fun h229 O230 => ?_)
      replace O230 : Hold B h229 ([(AV.ptr o105 1 0 0, .pt 2 [iv (wr (q217 + c228)), iv q218])] ++ D2 (A := (Sl Part)) x6 ps90) := O230
      refine sim_getN (l := [(AV.ptr o105 1 0 0, .pt 2 [iv (wr (q217 + c228)), iv q218])]) (x := x6) (ps := ps90) (A := (Sl Part)) O230 hp91 (fun m232 a231 x235 hi233 hm234 hg236 => ?_)
      refine sim_let (v := x235) (D2.ld (l := [(AV.ptr o105 1 0 0, .pt 2 [iv (wr (q217 + c228)), iv q218])]) (x := x6) (ps := ps90) (A := (Sl Part)) O230 hm234 false 1 0) ?_
      refine sim_let (v := AV.agg [iv (wr (q217 + c228)), iv q218]) (O230.ld 0 rfl true 2 0) ?_
      refine sim_get (D2.tab (l := [(AV.ptr o105 1 0 0, .pt 2 [iv (wr (q217 + c228)), iv q218])]) (x := x6) (ps := ps90) (A := (Sl Part)) O230 hm234) (fun m238 a237 hi239 hm240 => ?_)
      refine sim_setIn (l := [(AV.ptr o105 1 0 0, .pt 2 [iv (wr (q217 + c228)), iv q218])]) (x := x6) (ps := ps90) (A := (Sl Part)) O230 hp91 (setS a231 w94 (⟨wr (q217 + c228), q218⟩ : Part)) (⟨wr (q217 + c228), q218⟩ : Part) (by first | exact hi233 | rfl) hm234 hi239 hm240 rfl rfl rfl (by first | exact Nat.le_of_ble_eq_true rfl | simp) (by first | rfl | simp) (by first | rfl | simp [splice]) (fun ps243 h241 hp244 O242 => ?_)
      refine sim_let (v := iv (wr (w94 + 1))) (aBin_add _ _) ?_
      have O245 : Hold B h241 ([] ++ D2 (A := (Sl Part)) x6 ps243) := O242.selD [] (by decide) rfl
      exact sim_ret ⟨rfl, _, rfl, hp244, O245⟩
  · exact sim_ret ⟨nofun, _, _, _, _, _, rfl, hp91, O93⟩
theorem tl0_impl_PartElastic (env : Nat → Contract) {B : Base} (he_impl_ValidSeq : env n_impl_ValidSeq = .pure (C1 (fun c : Bool => enc c) t_impl_ValidSeq)) (he_impl_featCost : env n_impl_featCost = .pure (C2 (fun c : Int => enc c) t_impl_featCost)) (he_impl_part_better : env n_impl_part_better = .pure (C2 (fun c : Bool => enc c) t_impl_part_better)) (he_impl_stepsBack : env n_impl_stepsBack = .pure (C0 (fun c : Ar6 => enc c) t_impl_stepsBack)) (a_ : Sl Feat) (b_ : Sl Feat) (c1 : Bool) (c4 : Bool) (x6 : AV)  {st : (Sl (Sl Part)) × Int} {tm : TM} {h : Heap} (R : (fun (st : (Sl (Sl Part)) × Int) tm h16 => match st with | (w13, w18) => ∃ ps14 : PS (Sl Part), tm = ((Sl.enc a_) :: (Sl.enc b_) :: und :: und :: (iv 0) :: (iv 0) :: (iv 0) :: (iv 0) :: x6 :: AV.top :: AV.top :: AV.top :: und :: AV.top :: und :: und :: und :: und :: (Sl.enc a_) :: (bv c1) :: (bv (!c1)) :: (bv (!c1)) :: AV.top :: AV.top :: (cond (!c1) und (bv c4)) :: (bv (bif !c1 then true else c4)) :: (Sl.enc a_) :: (iv (((a_.getD []).length : Nat) : Int)) :: x6 :: (Sl.enc a_) :: (iv (((a_.getD []).length : Nat) : Int)) :: (iv w18) :: AV.top :: AV.top :: AV.top :: AV.top :: AV.top :: AV.top :: AV.top :: AV.top :: AV.top :: AV.top :: AV.top :: AV.top :: AV.top :: AV.top :: AV.top :: AV.top :: AV.top :: AV.top :: AV.top :: AV.top :: AV.top :: AV.top :: AV.top :: AV.top :: AV.top :: AV.top :: AV.top :: AV.top :: AV.top :: AV.top :: AV.top :: AV.top :: AV.top :: AV.top :: AV.top :: AV.top :: AV.top :: AV.top :: AV.top :: AV.top :: AV.top :: AV.top :: AV.top :: AV.top :: AV.top :: AV.top :: AV.top :: AV.top :: AV.top :: AV.top :: AV.top :: AV.top :: AV.top :: AV.top :: AV.top :: AV.top :: AV.top :: AV.top :: AV.top :: AV.top :: AV.top :: AV.top :: AV.top :: AV.top :: AV.top :: AV.top :: AV.top :: AV.top :: AV.top :: AV.top :: AV.top :: AV.top :: AV.top :: AV.top :: AV.top :: AV.top :: AV.top :: AV.top :: AV.top :: AV.top :: AV.top :: AV.top :: AV.top :: AV.top :: AV.top :: und :: und :: und :: und :: und :: und :: und :: und :: und :: und :: und :: und :: und :: und :: und :: und :: und :: und :: und :: und :: und :: und :: und :: und :: und :: und :: und :: und :: und :: und :: und :: und :: und :: und :: und :: []) ∧ pj ps14 = w13 ∧ Hold B h16 ([] ++ D2 (A := (Sl Part)) x6 ps14)) st tm h) : Sim (loopP hm0_impl_PartElastic xm0_impl_PartElastic (lb0_impl_PartElastic env) tm h) (loopT (s0_impl_PartElastic a_ b_) st) (fun (q : Sl (Sl Part)) (r : Res) => match q with | q21 => ∃ (z24 : AV) (z25 : AV) (z26 : AV) (z27 : AV) (ps22 : PS (Sl Part)) (h19 : Heap), r = (.exit 0, ((Sl.enc a_) :: (Sl.enc b_) :: und :: und :: (iv 0) :: (iv 0) :: (iv 0) :: (iv 0) :: x6 :: z24 :: z25 :: z26 :: und :: z27 :: und :: und :: und :: und :: (Sl.enc a_) :: (bv c1) :: (bv (!c1)) :: (bv (!c1)) :: AV.top :: AV.top :: (cond (!c1) und (bv c4)) :: (bv (bif !c1 then true else c4)) :: (Sl.enc a_) :: (iv (((a_.getD []).length : Nat) : Int)) :: x6 :: (Sl.enc a_) :: (iv (((a_.getD []).length : Nat) : Int)) :: AV.top :: AV.top :: AV.top :: AV.top :: AV.top :: AV.top :: AV.top :: AV.top :: AV.top :: AV.top :: AV.top :: AV.top :: AV.top :: AV.top :: AV.top :: AV.top :: AV.top :: AV.top :: AV.top :: AV.top :: AV.top :: AV.top :: AV.top :: AV.top :: AV.top :: AV.top :: AV.top :: AV.top :: AV.top :: AV.top :: AV.top :: AV.top :: AV.top :: AV.top :: AV.top :: AV.top :: AV.top :: AV.top :: AV.top :: AV.top :: AV.top :: AV.top :: AV.top :: AV.top :: AV.top :: AV.top :: AV.top :: AV.top :: AV.top :: AV.top :: AV.top :: AV.top :: AV.top :: AV.top :: AV.top :: AV.top :: AV.top :: AV.top :: AV.top :: AV.top :: AV.top :: AV.top :: AV.top :: AV.top :: AV.top :: AV.top :: AV.top :: AV.top :: AV.top :: AV.top :: AV.top :: AV.top :: AV.top :: AV.top :: AV.top :: AV.top :: AV.top :: AV.top :: AV.top :: AV.top :: AV.top :: AV.top :: AV.top :: AV.top :: AV.top :: AV.top :: und :: und :: und :: und :: und :: und :: und :: und :: und :: und :: und :: und :: und :: und :: und :: und :: und :: und :: und :: und :: und :: und :: und :: und :: und :: und :: und :: und :: und :: und :: und :: und :: und :: und :: und :: []), h19) ∧ pj ps22 = q21 ∧ Hold B h19 ([] ++ D2 (A := (Sl Part)) x6 ps22)) := by
  refine loop_sim (Rel := fun (st : (Sl (Sl Part)) × Int) tm h16 => match st with | (w13, w18) => ∃ ps14 : PS (Sl Part), tm = ((Sl.enc a_) :: (Sl.enc b_) :: und :: und :: (iv 0) :: (iv 0) :: (iv 0) :: (iv 0) :: x6 :: AV.top :: AV.top :: AV.top :: und :: AV.top :: und :: und :: und :: und :: (Sl.enc a_) :: (bv c1) :: (bv (!c1)) :: (bv (!c1)) :: AV.top :: AV.top :: (cond (!c1) und (bv c4)) :: (bv (bif !c1 then true else c4)) :: (Sl.enc a_) :: (iv (((a_.getD []).length : Nat) : Int)) :: x6 :: (Sl.enc a_) :: (iv (((a_.getD []).length : Nat) : Int)) :: (iv w18) :: AV.top :: AV.top :: AV.top :: AV.top :: AV.top :: AV.top :: AV.top :: AV.top :: AV.top :: AV.top :: AV.top :: AV.top :: AV.top :: AV.top :: AV.top :: AV.top :: AV.top :: AV.top :: AV.top :: AV.top :: AV.top :: AV.top :: AV.top :: AV.top :: AV.top :: AV.top :: AV.top :: AV.top :: AV.top :: AV.top :: AV.top :: AV.top :: AV.top :: AV.top :: AV.top :: AV.top :: AV.top :: AV.top :: AV.top :: AV.top :: AV.top :: AV.top :: AV.top :: AV.top :: AV.top :: AV.top :: AV.top :: AV.top :: AV.top :: AV.top :: AV.top :: AV.top :: AV.top :: AV.top :: AV.top :: AV.top :: AV.top :: AV.top :: AV.top :: AV.top :: AV.top :: AV.top :: AV.top :: AV.top :: AV.top :: AV.top :: AV.top :: AV.top :: AV.top :: AV.top :: AV.top :: AV.top :: AV.top :: AV.top :: AV.top :: AV.top :: AV.top :: AV.top :: AV.top :: AV.top :: AV.top :: AV.top :: AV.top :: AV.top :: AV.top :: und :: und :: und :: und :: und :: und :: und :: und :: und :: und :: und :: und :: und :: und :: und :: und :: und :: und :: und :: und :: und :: und :: und :: und :: und :: und :: und :: und :: und :: und :: und :: und :: und :: und :: und :: []) ∧ pj ps14 = w13 ∧ Hold B h16 ([] ++ D2 (A := (Sl Part)) x6 ps14)) (fun st tm h16 R => ?_) R
  obtain ⟨w13, w18⟩ := st
  obtain ⟨ps14, rfl, hp15, O17⟩ := R
  rw [e_lb0_impl_PartElastic]
  unfold s0_impl_PartElastic
  dsimp only
  refine sim_let (v := bv (decide (w18 < (((a_.getD []).length : Nat) : Int)))) (aBin_lss _ _) ?_
  refine sim_cond (fun c72 => ?_) (fun c72 => ?_)
  · refine sim_let (v := iv (((b_.getD []).length : Nat) : Int)) (Tab.enc h16 b_).len ?_
    refine sim_make (A := Part) O17 (⟨0, 0⟩ : Part) rfl (by decide) (fun l77 x73 h74 O75 => ?_)
    replace O75 : Hold B h74 ([(x73, obS ((some l77) : Sl Part))] ++ D2 (A := (Sl Part)) x6 ps14) := Hold.rot O75
    refine sim_getN (l := [(x73, obS ((some l77) : Sl Part))]) (x := x6) (ps := ps14) (A := (Sl Part)) O75 hp15 (fun m79 a78 x82 hi80 hm81 hg83 => ?_)
    have O86 := O75
    refine sim_setRow (l := []) (x := x6) (ps := ps14) (a' := (some l77)) O86 hp15 hi80 hm81 (by simp) (by first | rfl | simp [splice, Inn.row]) (fun ps87 h84 hp88 O85 => ?_)
    refine sim_let (v := iv (((b_.getD []).length : Nat) : Int)) (Tab.enc h84 b_).len ?_
    refine sim_bind ((tl1_impl_PartElastic env he_impl_ValidSeq he_impl_featCost he_impl_part_better he_impl_stepsBack a_ b_ c1 c4 x6 w18 x73 m79) ⟨_, rfl, hp88, O85⟩) (fun qq306 r hq => ?_)
    revert hq
    revert qq306
    intro q97 hq
    obtain ⟨z100, z101, z102, ps98, h95, rfl, hp99, O96⟩ := hq
    rw [e_lk1x2_impl_PartElastic]
    refine sim_let (v := iv (wr (w18 + 1))) (aBin_add _ _) ?_
    exact sim_ret ⟨rfl, _, rfl, hp99, O96⟩
  · exact sim_ret ⟨nofun, _, _, _, _, _, _, rfl, hp15, O17⟩
theorem ts_impl_PartElastic (env : Nat → Contract) (he_impl_ValidSeq : env n_impl_ValidSeq = .pure (C1 (fun c : Bool => enc c) t_impl_ValidSeq)) (he_impl_featCost : env n_impl_featCost = .pure (C2 (fun c : Int => enc c) t_impl_featCost)) (he_impl_part_better : env n_impl_part_better = .pure (C2 (fun c : Bool => enc c) t_impl_part_better)) (he_impl_stepsBack : env n_impl_stepsBack = .pure (C0 (fun c : Ar6 => enc c) t_impl_stepsBack)) (a_ : Sl Feat) (b_ : Sl Feat) : Sim (denFn Try.prog env n_impl_PartElastic [Sl.enc a_, Sl.enc b_] []) (t_impl_PartElastic a_ b_) fun c p => release p.2 depth p.1 = some ((fun c : Int × Int × Int × Int => AV.tup [enc c.1, enc c.2.1, enc c.2.2.1, enc c.2.2.2]) c) := by
  have O := Hold.nil []
  generalize hB : (⟨[], []⟩ : Base) = B at O
  clear hB
  rw [e_impl_PartElastic]
  unfold t_impl_PartElastic
  refine sim_call1 he_impl_ValidSeq (snapD_enc _ _) (fun c1 => ?_)
  refine sim_let2 (hand_plain (by rfl) _ _) ?_
  refine sim_let (v := bv (!c1)) (aUn_not _) ?_
  refine sim_guardF (e := bv) (fun hb2 => ?_) (fun c4 => ?_)
  · refine sim_call1 he_impl_ValidSeq (snapD_enc _ _) (fun c3 => ?_)
    refine sim_let2 (hand_plain (by rfl) _ _) ?_
    refine sim_let (v := bv (!c3)) (aUn_not _) ?_
    exact sim_ret rfl
  · refine sim_let (v := bv (bif !c1 then true else c4)) (pick_b' _ _ _) ?_
    refine sim_cond (fun c5 => ?_) (fun c5 => ?_)
    · exact sim_ret (release_plain (by rfl) _)
    · refine sim_let (v := iv (((a_.getD []).length : Nat) : Int)) (Tab.enc [] a_).len ?_
      refine sim_makeN (l := []) (A := (Sl Part)) O (none : Sl Part) rfl rfl (by decide) (fun l10 x6 ps11 h7 hp12 O8 => ?_)
      refine sim_let (v := iv (((a_.getD []).length : Nat) : Int)) (Tab.enc h7 a_).len ?_
      refine sim_bind ((tl0_impl_PartElastic env he_impl_ValidSeq he_impl_featCost he_impl_part_better he_impl_stepsBack a_ b_ c1 c4 x6) ⟨_, rfl, hp12, O8⟩) (fun qq309 r hq => ?_)
      revert hq
      revert qq309
      intro q21 hq
      obtain ⟨z24, z25, z26, z27, ps22, h19, rfl, hp23, O20⟩ := hq
      rw [e_lk0x0_impl_PartElastic]
      refine sim_let (v := iv (((a_.getD []).length : Nat) : Int)) (Tab.enc h19 a_).len ?_
      refine sim_let (v := iv (wr ((((a_.getD []).length : Nat) : Int) - 1))) (aBin_sub _ _) ?_
      refine sim_getN (l := []) (x := x6) (ps := ps22) (A := (Sl Part)) O20 hp23 (fun m29 a28 x32 hi30 hm31 hg33 => ?_)
      refine sim_let (v := x32) (D2.ld (l := []) (x := x6) (ps := ps22) (A := (Sl Part)) O20 hm31 false 1 0) ?_
      refine sim_let (v := iv (((a28.getD []).length : Nat) : Int)) (D2.tab (l := []) (x := x6) (ps := ps22) (A := (Sl Part)) O20 hm31).len ?_
      refine sim_bind ((tl2_impl_PartElastic env he_impl_ValidSeq he_impl_featCost he_impl_part_better he_impl_stepsBack a_ b_ c1 c4 x6 ps22 z24 z25 z26 z27 a28 m29 x32 hm31) ⟨rfl, O20⟩) (fun qq71 r hq => ?_)
      revert hq
      revert qq71
      intro q40 hq
      obtain ⟨z41, z42, h38, rfl, O39⟩ := hq
      rw [e_lk2x6_impl_PartElastic]
      refine sim_get (D2.tab (l := []) (x := x6) (ps := ps22) (A := (Sl Part)) O39 hm31) (fun m44 a43 hi45 hm46 => ?_)
      refine sim_let (v := elp x32 m44 0) ((D2.tab (l := []) (x := x6) (ps := ps22) (A := (Sl Part)) O39 hm31).fld _ _ _) ?_
      refine sim_let (v := iv a43.cost) ((D2.tab (l := []) (x := x6) (ps := ps22) (A := (Sl Part)) O39 hm31).ld hm46 false 1 0) ?_
      refine sim_get (D2.tab (l := []) (x := x6) (ps := ps22) (A := (Sl Part)) O39 hm31) (fun m48 a47 hi49 hm50 => ?_)
      refine sim_let (v := elp x32 m48 1) ((D2.tab (l := []) (x := x6) (ps := ps22) (A := (Sl Part)) O39 hm31).fld _ _ _) ?_
      refine sim_let (v := iv a47.frm) ((D2.tab (l := []) (x := x6) (ps := ps22) (A := (Sl Part)) O39 hm31).ld hm50 false 1 1) ?_
      refine sim_let (v := iv (wr (q40 + 1))) (aBin_add _ _) ?_
      exact sim_ret (release_plain (by rfl) _)
theorem tt_impl_PartElastic : PureOK Try.prog n_impl_PartElastic (C2 (fun c : Int × Int × Int × Int => AV.tup [enc c.1, enc c.2.1, enc c.2.2.1, enc c.2.2.2]) t_impl_PartElastic) := pureC2 (Econs tt_impl_ValidSeq (Econs tt_impl_featCost (Econs tt_impl_part_better (Econs tt_impl_stepsBack E0)))) mixed hb_impl_PartElastic fun a_ b_ => ts_impl_PartElastic _ (by simp [envL]) (by simp [envL]) (by simp [envL]) (by simp [envL]) a_ b_

def t_spec_l09Feat (f_ : Feat) : Option Bool :=
  obind (some (within f_.x 0 255)) fun c5 =>
  obind (bif c5 then (obind (some (within f_.y 0 255)) fun c7 => some c7) else some false) fun c8 =>
  obind (bif (bif c5 then c8 else false) then (obind (some (within f_.d 0 7)) fun c10 => some c10) else some false) fun c11 =>
  some (bif (bif c5 then c8 else false) then c11 else false)

theorem ts_spec_l09Feat (env : Nat → Contract) (he_spec_l00In : env n_spec_l00In = .pure (T3 within)) (f_ : Feat) : Sim (denFn Try.prog env n_spec_l09Feat [AV.agg [iv f_.x, iv f_.y, iv f_.d]] []) (t_spec_l09Feat f_) fun c p => release p.2 depth p.1 = some ((fun c : Bool => enc c) c) := by
  have O := Hold.nil []
  generalize hB : (⟨[], []⟩ : Base) = B at O
  clear hB
  rw [e_spec_l09Feat]
  unfold t_spec_l09Feat
  refine sim_box O (cs := [iv f_.x, iv f_.y, iv f_.d]) (by first | rfl | simp) (fun o1 h2 O3 => ?_)
  replace O3 : Hold B h2 [(AV.ptr o1 1 0 0, .pt 3 [iv f_.x, iv f_.y, iv f_.d])] := O3
  refine sim_let (v := AV.ptr o1 1 0 0) rfl ?_
  refine sim_let (v := iv f_.x) (O3.ld 0 rfl false 1 0) ?_
  refine sim_callV3 (t := within) he_spec_l00In (snapD_int _ _) (snapD_int _ _) (snapD_int _ _) (fun c5 => ?_)
  refine sim_guardT (e := bv) (fun hb6 => ?_) (fun c8 => ?_)
  · refine sim_let (v := AV.ptr o1 1 0 1) rfl ?_
    refine sim_let (v := iv f_.y) (O3.ld 0 rfl false 1 1) ?_
    refine sim_callV3 (t := within) he_spec_l00In (snapD_int _ _) (snapD_int _ _) (snapD_int _ _) (fun c7 => ?_)
    exact sim_ret rfl
  · refine sim_let (v := bv (bif c5 then c8 else false)) (pick_b _ _ _) ?_
    refine sim_guardT (e := bv) (fun hb9 => ?_) (fun c11 => ?_)
    · refine sim_let (v := AV.ptr o1 1 0 2) rfl ?_
      refine sim_let (v := iv f_.d) (O3.ld 0 rfl false 1 2) ?_
      refine sim_callV3 (t := within) he_spec_l00In (snapD_int _ _) (snapD_int _ _) (snapD_int _ _) (fun c10 => ?_)
      exact sim_ret rfl
    · refine sim_let (v := bv (bif (bif c5 then c8 else false) then c11 else false)) (pick_b _ _ _) ?_
      exact sim_ret (release_plain (by rfl) _)
theorem tt_spec_l09Feat : PureOK Try.prog n_spec_l09Feat (C1 (fun c : Bool => enc c) t_spec_l09Feat) := pureC1 (Econs ok_spec_l00In E0) mixed hb_spec_l09Feat fun f_ => ts_spec_l09Feat _ (by simp [envL]) f_

def s0_spec_l09Ok (list_ : Sl Feat) : Int → Option (Sum Int (Sum Unit Bool)) := fun w3 =>
  bif decide (w3 < (((list_.getD []).length : Nat) : Int)) then
    obind (getI (list_.getD []) w3) fun a14 =>
    obind (t_spec_l09Feat a14) fun c18 =>
    bif !c18 then
      some (.inr (.inr false))
    else
      some (.inl (wr (w3 + 1)))
  else
    some (.inr (.inl ()))
def t_spec_l09Ok (list_ : Sl Feat) : Option Bool :=
  obind (loopT (s0_spec_l09Ok list_) 0) fun qq24 => match qq24 with
  | (.inl _) =>
      obind (some (within (((list_.getD []).length : Nat) : Int) 1 72)) fun c8 =>
      some c8
  | (.inr q11) =>
      some q11

theorem tl0_spec_l09Ok (env : Nat → Contract) {B : Base} (he_spec_l00In : env n_spec_l00In = .pure (T3 within)) (he_spec_l09Feat : env n_spec_l09Feat = .pure (C1 (fun c : Bool => enc c) t_spec_l09Feat)) (list_ : Sl Feat)  {st : Int} {tm : TM} {h : Heap} (R : (fun (st : Int) tm h1 => match st with | w3 => tm = [Sl.enc list_, und, AV.top, iv w3, AV.top, AV.top, AV.top, AV.top, AV.top, AV.top, AV.top, AV.top, AV.top, AV.top, AV.top, AV.top, und, und, und] ∧ Hold B h1 []) st tm h) : Sim (loopP hm0_spec_l09Ok xm0_spec_l09Ok (lb0_spec_l09Ok env) tm h) (loopT (s0_spec_l09Ok list_) st) (fun (q : Sum Unit Bool) (r : Res) => match q with | .inl _ => ∃ (q7 : Int) (z6 : AV) (h4 : Heap), r = (.exit 0, [Sl.enc list_, und, z6, iv q7, AV.top, AV.top, AV.top, AV.top, AV.top, AV.top, AV.top, AV.top, AV.top, AV.top, AV.top, AV.top, und, und, und], h4) ∧ Hold B h4 [] | .inr q11 => ∃ (q12 : Int) (h9 : Heap), r = (.ret, [Sl.enc list_, und, bv q11, iv q12, AV.top, AV.top, AV.top, AV.top, AV.top, AV.top, AV.top, AV.top, AV.top, AV.top, AV.top, AV.top, und, und, und], h9) ∧ Hold B h9 []) := by
  refine loop_sim (Rel := fun (st : Int) tm h1 => match st with | w3 => tm = [Sl.enc list_, und, AV.top, iv w3, AV.top, AV.top, AV.top, AV.top, AV.top, AV.top, AV.top, AV.top, AV.top, AV.top, AV.top, AV.top, und, und, und] ∧ Hold B h1 []) (fun w3 tm h1 R => ?_) R
  obtain ⟨rfl, O2⟩ := R
  rw [e_lb0_spec_l09Ok]
  unfold s0_spec_l09Ok
  dsimp only
  refine sim_let (v := iv (((list_.getD []).length : Nat) : Int)) (Tab.enc h1 list_).len ?_
  refine sim_let (v := bv (decide (w3 < (((list_.getD []).length : Nat) : Int)))) (aBin_lss _ _) ?_
  refine sim_cond (fun c13 => ?_) (fun c13 => ?_)
  · refine sim_get (Tab.enc h1 list_) (fun m15 a14 hi16 hm17 => ?_)
    refine sim_let (v := AV.agg [iv a14.x, iv a14.y, iv a14.d]) ((Tab.enc h1 list_).ld hm17 true 3 0) ?_
    refine sim_call1 he_spec_l09Feat (snapD_nr _ a14 rfl) (fun c18 => ?_)
    refine sim_let2 (hand_plain (by rfl) _ _) ?_
    refine sim_let (v := bv (!c18)) (aUn_not _) ?_
    refine sim_cond (fun c19 => ?_) (fun c19 => ?_)
    · exact sim_ret ⟨nofun, _, _, rfl, O2⟩
    · refine sim_let (v := iv (wr (w3 + 1))) (aBin_add _ _) ?_
      exact sim_ret ⟨rfl, rfl, O2⟩
  · exact sim_ret ⟨nofun, _, _, _, rfl, O2⟩
theorem ts_spec_l09Ok (env : Nat → Contract) (he_spec_l00In : env n_spec_l00In = .pure (T3 within)) (he_spec_l09Feat : env n_spec_l09Feat = .pure (C1 (fun c : Bool => enc c) t_spec_l09Feat)) (list_ : Sl Feat) : Sim (denFn Try.prog env n_spec_l09Ok [Sl.enc list_] []) (t_spec_l09Ok list_) fun c p => release p.2 depth p.1 = some ((fun c : Bool => enc c) c) := by
  have O := Hold.nil []
  generalize hB : (⟨[], []⟩ : Base) = B at O
  clear hB
  rw [e_spec_l09Ok]
  unfold t_spec_l09Ok
  refine sim_bind ((tl0_spec_l09Ok env he_spec_l00In he_spec_l09Feat list_) ⟨rfl, O⟩) (fun qq24 r hq => ?_)
  rcases qq24 with _ | q11
  · obtain ⟨q7, z6, h4, rfl, O5⟩ := hq
    rw [e_lk0x0_spec_l09Ok]
    refine sim_let (v := iv (((list_.getD []).length : Nat) : Int)) (Tab.enc h4 list_).len ?_
    refine sim_callV3 (t := within) he_spec_l00In (snapD_int _ _) (snapD_int _ _) (snapD_int _ _) (fun c8 => ?_)
    exact sim_ret (release_plain (by rfl) _)
  · obtain ⟨q12, h9, rfl, O10⟩ := hq
    rw [e_lk0r_spec_l09Ok]
    exact sim_ret (release_plain (by rfl) _)
theorem tt_spec_l09Ok : PureOK Try.prog n_spec_l09Ok (C1 (fun c : Bool => enc c) t_spec_l09Ok) := pureC1 (Econs ok_spec_l00In (Econs tt_spec_l09Feat E0)) mixed hb_spec_l09Ok fun list_ => ts_spec_l09Ok _ (by simp [envL]) (by simp [envL]) list_

def t_spec_l09Size (n_ : Int) : Option Int :=
  bif decide (n_ < 0) then
    some (wr (0 - n_))
  else
    some n_

theorem ts_spec_l09Size (env : Nat → Contract)  (n_ : Int) : Sim (denFn Try.prog env n_spec_l09Size [iv n_] []) (t_spec_l09Size n_) fun c p => release p.2 depth p.1 = some ((fun c : Int => enc c) c) := by
  have O := Hold.nil []
  generalize hB : (⟨[], []⟩ : Base) = B at O
  clear hB
  rw [e_spec_l09Size]
  unfold t_spec_l09Size
  refine sim_let (v := bv (decide (n_ < 0))) (aBin_lss _ _) ?_
  refine sim_cond (fun c1 => ?_) (fun c1 => ?_)
  · refine sim_let (v := iv (wr (0 - n_))) (aUn_neg _) ?_
    exact sim_ret (release_plain (by rfl) _)
  · exact sim_ret (release_plain (by rfl) _)
theorem tt_spec_l09Size : PureOK Try.prog n_spec_l09Size (C1 (fun c : Int => enc c) t_spec_l09Size) := pureC1 E0 mixed hb_spec_l09Size fun n_ => ts_spec_l09Size _  n_

def t_spec_l09Code (a_ : Sl Feat) (b_ : Sl Feat) (band_ : Int) : Option Int :=
  obind (t_spec_l09Ok a_) fun c1 =>
  obind (bif !c1 then some false else (obind (t_spec_l09Ok b_) fun c3 => some (!c3))) fun c4 =>
  bif (bif !c1 then true else c4) then
    some 1
  else
    obind (some (within band_ 0 72)) fun c6 =>
    obind (bif !c6 then some false else (obind (t_spec_l09Size (wr ((((a_.getD []).length : Nat) : Int) - (((b_.getD []).length : Nat) : Int)))) fun c8 => some (decide (band_ < c8)))) fun c9 =>
    bif (bif !c6 then true else c9) then
      some 2
    else
      some 0

theorem ts_spec_l09Code (env : Nat → Contract) (he_spec_l00In : env n_spec_l00In = .pure (T3 within)) (he_spec_l09Ok : env n_spec_l09Ok = .pure (C1 (fun c : Bool => enc c) t_spec_l09Ok)) (he_spec_l09Size : env n_spec_l09Size = .pure (C1 (fun c : Int => enc c) t_spec_l09Size)) (a_ : Sl Feat) (b_ : Sl Feat) (band_ : Int) : Sim (denFn Try.prog env n_spec_l09Code [Sl.enc a_, Sl.enc b_, iv band_] []) (t_spec_l09Code a_ b_ band_) fun c p => release p.2 depth p.1 = some ((fun c : Int => enc c) c) := by
  have O := Hold.nil []
  generalize hB : (⟨[], []⟩ : Base) = B at O
  clear hB
  rw [e_spec_l09Code]
  unfold t_spec_l09Code
  refine sim_call1 he_spec_l09Ok (snapD_enc _ _) (fun c1 => ?_)
  refine sim_let2 (hand_plain (by rfl) _ _) ?_
  refine sim_let (v := bv (!c1)) (aUn_not _) ?_
  refine sim_guardF (e := bv) (fun hb2 => ?_) (fun c4 => ?_)
  · refine sim_call1 he_spec_l09Ok (snapD_enc _ _) (fun c3 => ?_)
    refine sim_let2 (hand_plain (by rfl) _ _) ?_
    refine sim_let (v := bv (!c3)) (aUn_not _) ?_
    exact sim_ret rfl
  · refine sim_let (v := bv (bif !c1 then true else c4)) (pick_b' _ _ _) ?_
    refine sim_cond (fun c5 => ?_) (fun c5 => ?_)
    · exact sim_ret (release_plain (by rfl) _)
    · refine sim_callV3 (t := within) he_spec_l00In (snapD_int _ _) (snapD_int _ _) (snapD_int _ _) (fun c6 => ?_)
      refine sim_let (v := bv (!c6)) (aUn_not _) ?_
      refine sim_guardF (e := bv) (fun hb7 => ?_) (fun c9 => ?_)
      · refine sim_let (v := iv (((a_.getD []).length : Nat) : Int)) (Tab.enc [] a_).len ?_
        refine sim_let (v := iv (((b_.getD []).length : Nat) : Int)) (Tab.enc [] b_).len ?_
        refine sim_let (v := iv (wr ((((a_.getD []).length : Nat) : Int) - (((b_.getD []).length : Nat) : Int)))) (aBin_sub _ _) ?_
        refine sim_call1 he_spec_l09Size (snapD_int _ _) (fun c8 => ?_)
        refine sim_let2 (hand_plain (by rfl) _ _) ?_
        refine sim_let (v := bv (decide (band_ < c8))) (aBin_gtr _ _) ?_
        exact sim_ret rfl
      · refine sim_let (v := bv (bif !c6 then true else c9)) (pick_b' _ _ _) ?_
        refine sim_cond (fun c10 => ?_) (fun c10 => ?_)
        · exact sim_ret (release_plain (by rfl) _)
        · exact sim_ret (release_plain (by rfl) _)
theorem tt_spec_l09Code : PureOK Try.prog n_spec_l09Code (C3 (fun c : Int => enc c) t_spec_l09Code) := pureC3 (Econs ok_spec_l00In (Econs tt_spec_l09Ok (Econs tt_spec_l09Size E0))) mixed hb_spec_l09Code fun a_ b_ band_ => ts_spec_l09Code _ (by simp [envL]) (by simp [envL]) (by simp [envL]) a_ b_ band_

def t_spec_l09Cost (a_ : Feat) (b_ : Feat) : Option Int :=
  obind (t_spec_l09Size (wr (a_.d - b_.d))) fun c9 =>
  obind (t_spec_l09Size (wr (a_.x - b_.x))) fun c10 =>
  obind (t_spec_l09Size (wr (a_.y - b_.y))) fun c11 =>
  obind (some ((fun a b : Int => min a b) c9 (wr (8 - c9)))) fun c12 =>
  some (wr ((wr (c10 + c11)) + (wr (16 * c12))))

theorem ts_spec_l09Cost (env : Nat → Contract) (he_spec_l00Min : env n_spec_l00Min = .pure (T2 (fun a b : Int => min a b))) (he_spec_l09Size : env n_spec_l09Size = .pure (C1 (fun c : Int => enc c) t_spec_l09Size)) (a_ : Feat) (b_ : Feat) : Sim (denFn Try.prog env n_spec_l09Cost [AV.agg [iv a_.x, iv a_.y, iv a_.d], AV.agg [iv b_.x, iv b_.y, iv b_.d]] []) (t_spec_l09Cost a_ b_) fun c p => release p.2 depth p.1 = some ((fun c : Int => enc c) c) := by
  have O := Hold.nil []
  generalize hB : (⟨[], []⟩ : Base) = B at O
  clear hB
  rw [e_spec_l09Cost]
  unfold t_spec_l09Cost
  refine sim_box O (cs := [iv a_.x, iv a_.y, iv a_.d]) (by first | rfl | simp) (fun o1 h2 O3 => ?_)
  replace O3 : Hold B h2 [(AV.ptr o1 1 0 0, .pt 3 [iv a_.x, iv a_.y, iv a_.d])] := O3
  refine sim_box O3 (cs := [iv b_.x, iv b_.y, iv b_.d]) (by first | rfl | simp) (fun o5 h6 O7 => ?_)
  replace O7 : Hold B h6 [(AV.ptr o1 1 0 0, .pt 3 [iv a_.x, iv a_.y, iv a_.d]), (AV.ptr o5 1 0 0, .pt 3 [iv b_.x, iv b_.y, iv b_.d])] := O7
  refine sim_let (v := AV.ptr o1 1 0 2) rfl ?_
  refine sim_let (v := iv a_.d) (O7.ld 0 rfl false 1 2) ?_
  refine sim_let (v := AV.ptr o5 1 0 2) rfl ?_
  refine sim_let (v := iv b_.d) (O7.ld 1 rfl false 1 2) ?_
  refine sim_let (v := iv (wr (a_.d - b_.d))) (aBin_sub _ _) ?_
  refine sim_call1 he_spec_l09Size (snapD_int _ _) (fun c9 => ?_)
  refine sim_let2 (hand_plain (by rfl) _ _) ?_
  refine sim_let (v := AV.ptr o1 1 0 0) rfl ?_
  refine sim_let (v := iv a_.x) (O7.ld 0 rfl false 1 0) ?_
  refine sim_let (v := AV.ptr o5 1 0 0) rfl ?_
  refine sim_let (v := iv b_.x) (O7.ld 1 rfl false 1 0) ?_
  refine sim_let (v := iv (wr (a_.x - b_.x))) (aBin_sub _ _) ?_
  refine sim_callQ1 he_spec_l09Size (snapD_int _ _) (fun c10 => ?_)
  refine sim_let2 (hand_plain (by rfl) _ _) ?_
  refine sim_let (v := AV.ptr o1 1 0 1) rfl ?_
  refine sim_let (v := iv a_.y) (O7.ld 0 rfl false 1 1) ?_
  refine sim_let (v := AV.ptr o5 1 0 1) rfl ?_
  refine sim_let (v := iv b_.y) (O7.ld 1 rfl false 1 1) ?_
  refine sim_let (v := iv (wr (a_.y - b_.y))) (aBin_sub _ _) ?_
  refine sim_callQ1 he_spec_l09Size (snapD_int _ _) (fun c11 => ?_)
  refine sim_let2 (hand_plain (by rfl) _ _) ?_
  refine sim_let (v := iv (wr (c10 + c11))) (aBin_add _ _) ?_
  refine sim_let (v := iv (wr (8 - c9))) (aBin_sub _ _) ?_
  refine sim_callVQ2 (t := (fun a b : Int => min a b)) he_spec_l00Min (snapD_int _ _) (snapD_int _ _) (fun c12 => ?_)
  refine sim_let (v := iv (wr (16 * c12))) (aBin_mul _ _) ?_
  refine sim_let (v := iv (wr ((wr (c10 + c11)) + (wr (16 * c12))))) (aBin_add _ _) ?_
  exact sim_ret (release_plain (by rfl) _)
theorem tt_spec_l09Cost : PureOK Try.prog n_spec_l09Cost (C2 (fun c : Int => enc c) t_spec_l09Cost) := pureC2 (Econs ok_spec_l00Min (Econs tt_spec_l09Size E0)) mixed hb_spec_l09Cost fun a_ b_ => ts_spec_l09Cost _ (by simp [envL]) (by simp [envL]) a_ b_

def s1_spec_l09Table (a_ : Sl Feat) (b_ : Sl Feat) (band_ : Int) (w9 : Int) : ((Sl Int) × Int) → Option (Sum ((Sl Int) × Int) (Sl Int)) := fun (w17, w20) =>
  bif decide (w20 < (((b_.getD []).length : Nat) : Int)) then
    obind (bif decide (w9 = 0) then (some (decide (w20 = 0))) else some false) fun c29 =>
    bif (bif decide (w9 = 0) then c29 else false) then
      obind (bif decide (0 < w9) then (some (decide (0 < w20))) else some false) fun c32 =>
      bif (bif decide (0 < w9) then c32 else false) then
        obind (getI (w17.getD []) (wr ((wr ((wr ((wr (w9 - 1)) * (((b_.getD []).length : Nat) : Int))) + w20)) - 1))) fun a34 =>
        obind (some ((fun a b : Int => min a b) 0 a34)) fun c38 =>
        bif decide (0 < w9) then
          obind (getI (w17.getD []) (wr ((wr ((wr (w9 - 1)) * (((b_.getD []).length : Nat) : Int))) + w20))) fun a40 =>
          obind (some ((fun a b : Int => min a b) c38 a40)) fun c44 =>
          bif decide (0 < w20) then
            obind (getI (w17.getD []) (wr ((wr ((wr (w9 * (((b_.getD []).length : Nat) : Int))) + w20)) - 1))) fun a46 =>
            obind (some ((fun a b : Int => min a b) c44 a46)) fun c50 =>
            obind (bif decide (c50 = 1000000000) then some false else (obind (t_spec_l09Size (wr (w9 - w20))) fun c52 => some (decide (band_ < c52)))) fun c53 =>
            bif (bif decide (c50 = 1000000000) then true else c53) then
              obind (getI (w17.getD []) (wr ((wr (w9 * (((b_.getD []).length : Nat) : Int))) + w20))) fun a55 =>
              some (.inl ((setS w17 (wr ((wr (w9 * (((b_.getD []).length : Nat) : Int))) + w20)) 1000000000), wr (w20 + 1)))
            else
              obind (getI (a_.getD []) w9) fun a62 =>
              obind (getI (b_.getD []) w20) fun a66 =>
              obind (t_spec_l09Cost a62 a66) fun c70 =>
              obind (getI (w17.getD []) (wr ((wr (w9 * (((b_.getD []).length : Nat) : Int))) + w20))) fun a71 =>
              some (.inl ((setS w17 (wr ((wr (w9 * (((b_.getD []).length : Nat) : Int))) + w20)) (wr (c50 + c70))), wr (w20 + 1)))
          else
            obind (bif decide (c44 = 1000000000) then some false else (obind (t_spec_l09Size (wr (w9 - w20))) fun c79 => some (decide (band_ < c79)))) fun c80 =>
            bif (bif decide (c44 = 1000000000) then true else c80) then
              obind (getI (w17.getD []) (wr ((wr (w9 * (((b_.getD []).length : Nat) : Int))) + w20))) fun a82 =>
              some (.inl ((setS w17 (wr ((wr (w9 * (((b_.getD []).length : Nat) : Int))) + w20)) 1000000000), wr (w20 + 1)))
            else
              obind (getI (a_.getD []) w9) fun a89 =>
              obind (getI (b_.getD []) w20) fun a93 =>
              obind (t_spec_l09Cost a89 a93) fun c97 =>
              obind (getI (w17.getD []) (wr ((wr (w9 * (((b_.getD []).length : Nat) : Int))) + w20))) fun a98 =>
              some (.inl ((setS w17 (wr ((wr (w9 * (((b_.getD []).length : Nat) : Int))) + w20)) (wr (c44 + c97))), wr (w20 + 1)))
        else
          bif decide (0 < w20) then
            obind (getI (w17.getD []) (wr ((wr ((wr (w9 * (((b_.getD []).length : Nat) : Int))) + w20)) - 1))) fun a106 =>
            obind (some ((fun a b : Int => min a b) c38 a106)) fun c110 =>
            obind (bif decide (c110 = 1000000000) then some false else (obind (t_spec_l09Size (wr (w9 - w20))) fun c112 => some (decide (band_ < c112)))) fun c113 =>
            bif (bif decide (c110 = 1000000000) then true else c113) then
              obind (getI (w17.getD []) (wr ((wr (w9 * (((b_.getD []).length : Nat) : Int))) + w20))) fun a115 =>
              some (.inl ((setS w17 (wr ((wr (w9 * (((b_.getD []).length : Nat) : Int))) + w20)) 1000000000), wr (w20 + 1)))
            else
              obind (getI (a_.getD []) w9) fun a122 =>
              obind (getI (b_.getD []) w20) fun a126 =>
              obind (t_spec_l09Cost a122 a126) fun c130 =>
              obind (getI (w17.getD []) (wr ((wr (w9 * (((b_.getD []).length : Nat) : Int))) + w20))) fun a131 =>
              some (.inl ((setS w17 (wr ((wr (w9 * (((b_.getD []).length : Nat) : Int))) + w20)) (wr (c110 + c130))), wr (w20 + 1)))
          else
            obind (bif decide (c38 = 1000000000) then some false else (obind (t_spec_l09Size (wr (w9 - w20))) fun c139 => some (decide (band_ < c139)))) fun c140 =>
            bif (bif decide (c38 = 1000000000) then true else c140) then
              obind (getI (w17.getD []) (wr ((wr (w9 * (((b_.getD []).length : Nat) : Int))) + w20))) fun a142 =>
              some (.inl ((setS w17 (wr ((wr (w9 * (((b_.getD []).length : Nat) : Int))) + w20)) 1000000000), wr (w20 + 1)))
            else
              obind (getI (a_.getD []) w9) fun a149 =>
              obind (getI (b_.getD []) w20) fun a153 =>
              obind (t_spec_l09Cost a149 a153) fun c157 =>
              obind (getI (w17.getD []) (wr ((wr (w9 * (((b_.getD []).length : Nat) : Int))) + w20))) fun a158 =>
              some (.inl ((setS w17 (wr ((wr (w9 * (((b_.getD []).length : Nat) : Int))) + w20)) (wr (c38 + c157))), wr (w20 + 1)))
      else
        bif decide (0 < w9) then
          obind (getI (w17.getD []) (wr ((wr ((wr (w9 - 1)) * (((b_.getD []).length : Nat) : Int))) + w20))) fun a166 =>
          obind (some ((fun a b : Int => min a b) 0 a166)) fun c170 =>
          bif decide (0 < w20) then
            obind (getI (w17.getD []) (wr ((wr ((wr (w9 * (((b_.getD []).length : Nat) : Int))) + w20)) - 1))) fun a172 =>
            obind (some ((fun a b : Int => min a b) c170 a172)) fun c176 =>
            obind (bif decide (c176 = 1000000000) then some false else (obind (t_spec_l09Size (wr (w9 - w20))) fun c178 => some (decide (band_ < c178)))) fun c179 =>
            bif (bif decide (c176 = 1000000000) then true else c179) then
              obind (getI (w17.getD []) (wr ((wr (w9 * (((b_.getD []).length : Nat) : Int))) + w20))) fun a181 =>
              some (.inl ((setS w17 (wr ((wr (w9 * (((b_.getD []).length : Nat) : Int))) + w20)) 1000000000), wr (w20 + 1)))
            else
              obind (getI (a_.getD []) w9) fun a188 =>
              obind (getI (b_.getD []) w20) fun a192 =>
              obind (t_spec_l09Cost a188 a192) fun c196 =>
              obind (getI (w17.getD []) (wr ((wr (w9 * (((b_.getD []).length : Nat) : Int))) + w20))) fun a197 =>
              some (.inl ((setS w17 (wr ((wr (w9 * (((b_.getD []).length : Nat) : Int))) + w20)) (wr (c176 + c196))), wr (w20 + 1)))
          else
            obind (bif decide (c170 = 1000000000) then some false else (obind (t_spec_l09Size (wr (w9 - w20))) fun c205 => some (decide (band_ < c205)))) fun c206 =>
            bif (bif decide (c170 = 1000000000) then true else c206) then
              obind (getI (w17.getD []) (wr ((wr (w9 * (((b_.getD []).length : Nat) : Int))) + w20))) fun a208 =>
              some (.inl ((setS w17 (wr ((wr (w9 * (((b_.getD []).length : Nat) : Int))) + w20)) 1000000000), wr (w20 + 1)))
            else
              obind (getI (a_.getD []) w9) fun a215 =>
              obind (getI (b_.getD []) w20) fun a219 =>
              obind (t_spec_l09Cost a215 a219) fun c223 =>
              obind (getI (w17.getD []) (wr ((wr (w9 * (((b_.getD []).length : Nat) : Int))) + w20))) fun a224 =>
              some (.inl ((setS w17 (wr ((wr (w9 * (((b_.getD []).length : Nat) : Int))) + w20)) (wr (c170 + c223))), wr (w20 + 1)))
        else
          bif decide (0 < w20) then
            obind (getI (w17.getD []) (wr ((wr ((wr (w9 * (((b_.getD []).length : Nat) : Int))) + w20)) - 1))) fun a232 =>
            obind (some ((fun a b : Int => min a b) 0 a232)) fun c236 =>
            obind (bif decide (c236 = 1000000000) then some false else (obind (t_spec_l09Size (wr (w9 - w20))) fun c238 => some (decide (band_ < c238)))) fun c239 =>
            bif (bif decide (c236 = 1000000000) then true else c239) then
              obind (getI (w17.getD []) (wr ((wr (w9 * (((b_.getD []).length : Nat) : Int))) + w20))) fun a241 =>
              some (.inl ((setS w17 (wr ((wr (w9 * (((b_.getD []).length : Nat) : Int))) + w20)) 1000000000), wr (w20 + 1)))
            else
              obind (getI (a_.getD []) w9) fun a248 =>
              obind (getI (b_.getD []) w20) fun a252 =>
              obind (t_spec_l09Cost a248 a252) fun c256 =>
              obind (getI (w17.getD []) (wr ((wr (w9 * (((b_.getD []).length : Nat) : Int))) + w20))) fun a257 =>
              some (.inl ((setS w17 (wr ((wr (w9 * (((b_.getD []).length : Nat) : Int))) + w20)) (wr (c236 + c256))), wr (w20 + 1)))
          else
            obind (bif decide (0 = 1000000000) then some false else (obind (t_spec_l09Size (wr (w9 - w20))) fun c265 => some (decide (band_ < c265)))) fun c266 =>
            bif (bif decide (0 = 1000000000) then true else c266) then
              obind (getI (w17.getD []) (wr ((wr (w9 * (((b_.getD []).length : Nat) : Int))) + w20))) fun a268 =>
              some (.inl ((setS w17 (wr ((wr (w9 * (((b_.getD []).length : Nat) : Int))) + w20)) 1000000000), wr (w20 + 1)))
            else
              obind (getI (a_.getD []) w9) fun a275 =>
              obind (getI (b_.getD []) w20) fun a279 =>
              obind (t_spec_l09Cost a275 a279) fun c283 =>
              obind (getI (w17.getD []) (wr ((wr (w9 * (((b_.getD []).length : Nat) : Int))) + w20))) fun a284 =>
              some (.inl ((setS w17 (wr ((wr (w9 * (((b_.getD []).length : Nat) : Int))) + w20)) (wr (0 + c283))), wr (w20 + 1)))
    else
      obind (bif decide (0 < w9) then (some (decide (0 < w20))) else some false) fun c292 =>
      bif (bif decide (0 < w9) then c292 else false) then
        obind (getI (w17.getD []) (wr ((wr ((wr ((wr (w9 - 1)) * (((b_.getD []).length : Nat) : Int))) + w20)) - 1))) fun a294 =>
        obind (some ((fun a b : Int => min a b) 1000000000 a294)) fun c298 =>
        bif decide (0 < w9) then
          obind (getI (w17.getD []) (wr ((wr ((wr (w9 - 1)) * (((b_.getD []).length : Nat) : Int))) + w20))) fun a300 =>
          obind (some ((fun a b : Int => min a b) c298 a300)) fun c304 =>
          bif decide (0 < w20) then
            obind (getI (w17.getD []) (wr ((wr ((wr (w9 * (((b_.getD []).length : Nat) : Int))) + w20)) - 1))) fun a306 =>
            obind (some ((fun a b : Int => min a b) c304 a306)) fun c310 =>
            obind (bif decide (c310 = 1000000000) then some false else (obind (t_spec_l09Size (wr (w9 - w20))) fun c312 => some (decide (band_ < c312)))) fun c313 =>
            bif (bif decide (c310 = 1000000000) then true else c313) then
              obind (getI (w17.getD []) (wr ((wr (w9 * (((b_.getD []).length : Nat) : Int))) + w20))) fun a315 =>
              some (.inl ((setS w17 (wr ((wr (w9 * (((b_.getD []).length : Nat) : Int))) + w20)) 1000000000), wr (w20 + 1)))
            else
              obind (getI (a_.getD []) w9) fun a322 =>
              obind (getI (b_.getD []) w20) fun a326 =>
              obind (t_spec_l09Cost a322 a326) fun c330 =>
              obind (getI (w17.getD []) (wr ((wr (w9 * (((b_.getD []).length : Nat) : Int))) + w20))) fun a331 =>
              some (.inl ((setS w17 (wr ((wr (w9 * (((b_.getD []).length : Nat) : Int))) + w20)) (wr (c310 + c330))), wr (w20 + 1)))
          else
            obind (bif decide (c304 = 1000000000) then some false else (obind (t_spec_l09Size (wr (w9 - w20))) fun c339 => some (decide (band_ < c339)))) fun c340 =>
            bif (bif decide (c304 = 1000000000) then true else c340) then
              obind (getI (w17.getD []) (wr ((wr (w9 * (((b_.getD []).length : Nat) : Int))) + w20))) fun a342 =>
              some (.inl ((setS w17 (wr ((wr (w9 * (((b_.getD []).length : Nat) : Int))) + w20)) 1000000000), wr (w20 + 1)))
            else
              obind (getI (a_.getD []) w9) fun a349 =>
              obind (getI (b_.getD []) w20) fun a353 =>
              obind (t_spec_l09Cost a349 a353) fun c357 =>
              obind (getI (w17.getD []) (wr ((wr (w9 * (((b_.getD []).length : Nat) : Int))) + w20))) fun a358 =>
              some (.inl ((setS w17 (wr ((wr (w9 * (((b_.getD []).length : Nat) : Int))) + w20)) (wr (c304 + c357))), wr (w20 + 1)))
        else
          bif decide (0 < w20) then
            obind (getI (w17.getD []) (wr ((wr ((wr (w9 * (((b_.getD []).length : Nat) : Int))) + w20)) - 1))) fun a366 =>
            obind (some ((fun a b : Int => min a b) c298 a366)) fun c370 =>
            obind (bif decide (c370 = 1000000000) then some false else (obind (t_spec_l09Size (wr (w9 - w20))) fun c372 => some (decide (band_ < c372)))) fun c373 =>
            bif (bif decide (c370 = 1000000000) then true else c373) then
              obind (getI (w17.getD []) (wr ((wr (w9 * (((b_.getD []).length : Nat) : Int))) + w20))) fun a375 =>
              some (.inl ((setS w17 (wr ((wr (w9 * (((b_.getD []).length : Nat) : Int))) + w20)) 1000000000), wr (w20 + 1)))
            else
              obind (getI (a_.getD []) w9) fun a382 =>
              obind (getI (b_.getD []) w20) fun a386 =>
              obind (t_spec_l09Cost a382 a386) fun c390 =>
              obind (getI (w17.getD []) (wr ((wr (w9 * (((b_.getD []).length : Nat) : Int))) + w20))) fun a391 =>
              some (.inl ((setS w17 (wr ((wr (w9 * (((b_.getD []).length : Nat) : Int))) + w20)) (wr (c370 + c390))), wr (w20 + 1)))
          else
            obind (bif decide (c298 = 1000000000) then some false else (obind (t_spec_l09Size (wr (w9 - w20))) fun c399 => some (decide (band_ < c399)))) fun c400 =>
            bif (bif decide (c298 = 1000000000) then true else c400) then
              obind (getI (w17.getD []) (wr ((wr (w9 * (((b_.getD []).length : Nat) : Int))) + w20))) fun a402 =>
              some (.inl ((setS w17 (wr ((wr (w9 * (((b_.getD []).length : Nat) : Int))) + w20)) 1000000000), wr (w20 + 1)))
            else
              obind (getI (a_.getD []) w9) fun a409 =>
              obind (getI (b_.getD []) w20) fun a413 =>
              obind (t_spec_l09Cost a409 a413) fun c417 =>
              obind (getI (w17.getD []) (wr ((wr (w9 * (((b_.getD []).length : Nat) : Int))) + w20))) fun a418 =>
              some (.inl ((setS w17 (wr ((wr (w9 * (((b_.getD []).length : Nat) : Int))) + w20)) (wr (c298 + c417))), wr (w20 + 1)))
      else
        bif decide (0 < w9) then
          obind (getI (w17.getD []) (wr ((wr ((wr (w9 - 1)) * (((b_.getD []).length : Nat) : Int))) + w20))) fun a426 =>
          obind (some ((fun a b : Int => min a b) 1000000000 a426)) fun c430 =>
          bif decide (0 < w20) then
            obind (getI (w17.getD []) (wr ((wr ((wr (w9 * (((b_.getD []).length : Nat) : Int))) + w20)) - 1))) fun a432 =>
            obind (some ((fun a b : Int => min a b) c430 a432)) fun c436 =>
            obind (bif decide (c436 = 1000000000) then some false else (obind (t_spec_l09Size (wr (w9 - w20))) fun c438 => some (decide (band_ < c438)))) fun c439 =>
            bif (bif decide (c436 = 1000000000) then true else c439) then
              obind (getI (w17.getD []) (wr ((wr (w9 * (((b_.getD []).length : Nat) : Int))) + w20))) fun a441 =>
              some (.inl ((setS w17 (wr ((wr (w9 * (((b_.getD []).length : Nat) : Int))) + w20)) 1000000000), wr (w20 + 1)))
            else
              obind (getI (a_.getD []) w9) fun a448 =>
              obind (getI (b_.getD []) w20) fun a452 =>
              obind (t_spec_l09Cost a448 a452) fun c456 =>
              obind (getI (w17.getD []) (wr ((wr (w9 * (((b_.getD []).length : Nat) : Int))) + w20))) fun a457 =>
              some (.inl ((setS w17 (wr ((wr (w9 * (((b_.getD []).length : Nat) : Int))) + w20)) (wr (c436 + c456))), wr (w20 + 1)))
          else
            obind (bif decide (c430 = 1000000000) then some false else (obind (t_spec_l09Size (wr (w9 - w20))) fun c465 => some (decide (band_ < c465)))) fun c466 =>
            bif (bif decide (c430 = 1000000000) then true else c466) then
              obind (getI (w17.getD []) (wr ((wr (w9 * (((b_.getD []).length : Nat) : Int))) + w20))) fun a468 =>
              some (.inl ((setS w17 (wr ((wr (w9 * (((b_.getD []).length : Nat) : Int))) + w20)) 1000000000), wr (w20 + 1)))
            else
              obind (getI (a_.getD []) w9) fun a475 =>
              obind (getI (b_.getD []) w20) fun a479 =>
              obind (t_spec_l09Cost a475 a479) fun c483 =>
              obind (getI (w17.getD []) (wr ((wr (w9 * (((b_.getD []).length : Nat) : Int))) + w20))) fun a484 =>
              some (.inl ((setS w17 (wr ((wr (w9 * (((b_.getD []).length : Nat) : Int))) + w20)) (wr (c430 + c483))), wr (w20 + 1)))
        else
          bif decide (0 < w20) then
            obind (getI (w17.getD []) (wr ((wr ((wr (w9 * (((b_.getD []).length : Nat) : Int))) + w20)) - 1))) fun a492 =>
            obind (some ((fun a b : Int => min a b) 1000000000 a492)) fun c496 =>
            obind (bif decide (c496 = 1000000000) then some false else (obind (t_spec_l09Size (wr (w9 - w20))) fun c498 => some (decide (band_ < c498)))) fun c499 =>
            bif (bif decide (c496 = 1000000000) then true else c499) then
              obind (getI (w17.getD []) (wr ((wr (w9 * (((b_.getD []).length : Nat) : Int))) + w20))) fun a501 =>
              some (.inl ((setS w17 (wr ((wr (w9 * (((b_.getD []).length : Nat) : Int))) + w20)) 1000000000), wr (w20 + 1)))
            else
              obind (getI (a_.getD []) w9) fun a508 =>
              obind (getI (b_.getD []) w20) fun a512 =>
              obind (t_spec_l09Cost a508 a512) fun c516 =>
              obind (getI (w17.getD []) (wr ((wr (w9 * (((b_.getD []).length : Nat) : Int))) + w20))) fun a517 =>
              some (.inl ((setS w17 (wr ((wr (w9 * (((b_.getD []).length : Nat) : Int))) + w20)) (wr (c496 + c516))), wr (w20 + 1)))
          else
            obind (bif decide (1000000000 = 1000000000) then some false else (obind (t_spec_l09Size (wr (w9 - w20))) fun c525 => some (decide (band_ < c525)))) fun c526 =>
            bif (bif decide (1000000000 = 1000000000) then true else c526) then
              obind (getI (w17.getD []) (wr ((wr (w9 * (((b_.getD []).length : Nat) : Int))) + w20))) fun a528 =>
              some (.inl ((setS w17 (wr ((wr (w9 * (((b_.getD []).length : Nat) : Int))) + w20)) 1000000000), wr (w20 + 1)))
            else
              obind (getI (a_.getD []) w9) fun a535 =>
              obind (getI (b_.getD []) w20) fun a539 =>
              obind (t_spec_l09Cost a535 a539) fun c543 =>
              obind (getI (w17.getD []) (wr ((wr (w9 * (((b_.getD []).length : Nat) : Int))) + w20))) fun a544 =>
              some (.inl ((setS w17 (wr ((wr (w9 * (((b_.getD []).length : Nat) : Int))) + w20)) (wr (1000000000 + c543))), wr (w20 + 1)))
  else
    some (.inr w17)
def s0_spec_l09Table (a_ : Sl Feat) (b_ : Sl Feat) (band_ : Int) : ((Sl Int) × Int) → Option (Sum ((Sl Int) × Int) (Sl Int)) := fun (w6, w9) =>
  bif decide (w9 < (((a_.getD []).length : Nat) : Int)) then
    obind (loopT (s1_spec_l09Table a_ b_ band_ w9) (w6, 0)) fun q23 =>
    some (.inl (q23, wr (w9 + 1)))
  else
    some (.inr w6)
def t_spec_l09Table (a_ : Sl Feat) (b_ : Sl Feat) (band_ : Int) : Option (Sl Int) :=
  obind (makeO 0 (wr ((((a_.getD []).length : Nat) : Int) * (((b_.getD []).length : Nat) : Int)))) fun l5 =>
  obind (loopT (s0_spec_l09Table a_ b_ band_) ((some l5), 0)) fun q12 =>
  some q12

theorem tl1_spec_l09Table (env : Nat → Contract) {B : Base} (he_spec_l00Min : env n_spec_l00Min = .pure (T2 (fun a b : Int => min a b))) (he_spec_l09Cost : env n_spec_l09Cost = .pure (C2 (fun c : Int => enc c) t_spec_l09Cost)) (he_spec_l09Size : env n_spec_l09Size = .pure (C1 (fun c : Int => enc c) t_spec_l09Size)) (a_ : Sl Feat) (b_ : Sl Feat) (band_ : Int) (x1 : AV) (w9 : Int)  {st : (Sl Int) × Int} {tm : TM} {h : Heap} (R : (fun (st : (Sl Int) × Int) tm h18 => match st with | (w17, w20) => tm = ((Sl.enc a_) :: (Sl.enc b_) :: (iv band_) :: und :: und :: und :: nilS :: (iv (((a_.getD []).length : Nat) : Int)) :: (iv (((b_.getD []).length : Nat) : Int)) :: x1 :: (iv w9) :: (iv w20) :: AV.top :: (Sl.enc a_) :: (iv (((a_.getD []).length : Nat) : Int)) :: (Sl.enc b_) :: (iv (((b_.getD []).length : Nat) : Int)) :: (iv (((a_.getD []).length : Nat) : Int)) :: (iv (((b_.getD []).length : Nat) : Int)) :: (iv (wr ((((a_.getD []).length : Nat) : Int) * (((b_.getD []).length : Nat) : Int)))) :: x1 :: (iv w9) :: (iv (((a_.getD []).length : Nat) : Int)) :: (bv (decide (w9 < (((a_.getD []).length : Nat) : Int)))) :: AV.top :: AV.top :: AV.top :: AV.top :: AV.top :: AV.top :: AV.top :: AV.top :: AV.top :: AV.top :: AV.top :: AV.top :: AV.top :: AV.top :: AV.top :: AV.top :: AV.top :: AV.top :: AV.top :: AV.top :: AV.top :: AV.top :: AV.top :: AV.top :: AV.top :: AV.top :: AV.top :: AV.top :: AV.top :: AV.top :: AV.top :: AV.top :: AV.top :: AV.top :: AV.top :: AV.top :: AV.top :: AV.top :: AV.top :: AV.top :: AV.top :: AV.top :: AV.top :: AV.top :: AV.top :: AV.top :: AV.top :: AV.top :: AV.top :: AV.top :: AV.top :: AV.top :: AV.top :: AV.top :: AV.top :: AV.top :: AV.top :: AV.top :: AV.top :: AV.top :: AV.top :: AV.top :: AV.top :: AV.top :: AV.top :: AV.top :: AV.top :: AV.top :: AV.top :: AV.top :: AV.top :: AV.top :: AV.top :: AV.top :: AV.top :: AV.top :: AV.top :: AV.top :: AV.top :: AV.top :: AV.top :: AV.top :: AV.top :: AV.top :: AV.top :: AV.top :: AV.top :: AV.top :: AV.top :: AV.top :: AV.top :: AV.top :: und :: []) ∧ Hold B h18 [(x1, obS (w17 : Sl Int))]) st tm h) : Sim (loopP hm1_spec_l09Table xm1_spec_l09Table (lb1_spec_l09Table env) tm h) (loopT (s1_spec_l09Table a_ b_ band_ w9) st) (fun (q : Sl Int) (r : Res) => match q with | q23 => ∃ (q24 : Int) (z25 : AV) (h21 : Heap), r = (.exit 2, ((Sl.enc a_) :: (Sl.enc b_) :: (iv band_) :: und :: und :: und :: nilS :: (iv (((a_.getD []).length : Nat) : Int)) :: (iv (((b_.getD []).length : Nat) : Int)) :: x1 :: (iv w9) :: (iv q24) :: z25 :: (Sl.enc a_) :: (iv (((a_.getD []).length : Nat) : Int)) :: (Sl.enc b_) :: (iv (((b_.getD []).length : Nat) : Int)) :: (iv (((a_.getD []).length : Nat) : Int)) :: (iv (((b_.getD []).length : Nat) : Int)) :: (iv (wr ((((a_.getD []).length : Nat) : Int) * (((b_.getD []).length : Nat) : Int)))) :: x1 :: (iv w9) :: (iv (((a_.getD []).length : Nat) : Int)) :: (bv (decide (w9 < (((a_.getD []).length : Nat) : Int)))) :: AV.top :: AV.top :: AV.top :: AV.top :: AV.top :: AV.top :: AV.top :: AV.top :: AV.top :: AV.top :: AV.top :: AV.top :: AV.top :: AV.top :: AV.top :: AV.top :: AV.top :: AV.top :: AV.top :: AV.top :: AV.top :: AV.top :: AV.top :: AV.top :: AV.top :: AV.top :: AV.top :: AV.top :: AV.top :: AV.top :: AV.top :: AV.top :: AV.top :: AV.top :: AV.top :: AV.top :: AV.top :: AV.top :: AV.top :: AV.top :: AV.top :: AV.top :: AV.top :: AV.top :: AV.top :: AV.top :: AV.top :: AV.top :: AV.top :: AV.top :: AV.top :: AV.top :: AV.top :: AV.top :: AV.top :: AV.top :: AV.top :: AV.top :: AV.top :: AV.top :: AV.top :: AV.top :: AV.top :: AV.top :: AV.top :: AV.top :: AV.top :: AV.top :: AV.top :: AV.top :: AV.top :: AV.top :: AV.top :: AV.top :: AV.top :: AV.top :: AV.top :: AV.top :: AV.top :: AV.top :: AV.top :: AV.top :: AV.top :: AV.top :: AV.top :: AV.top :: AV.top :: AV.top :: AV.top :: AV.top :: AV.top :: AV.top :: und :: []), h21) ∧ Hold B h21 [(x1, obS (q23 : Sl Int))]) := by
  refine loop_sim (Rel := fun (st : (Sl Int) × Int) tm h18 => match st with | (w17, w20) => tm = ((Sl.enc a_) :: (Sl.enc b_) :: (iv band_) :: und :: und :: und :: nilS :: (iv (((a_.getD []).length : Nat) : Int)) :: (iv (((b_.getD []).length : Nat) : Int)) :: x1 :: (iv w9) :: (iv w20) :: AV.top :: (Sl.enc a_) :: (iv (((a_.getD []).length : Nat) : Int)) :: (Sl.enc b_) :: (iv (((b_.getD []).length : Nat) : Int)) :: (iv (((a_.getD []).length : Nat) : Int)) :: (iv (((b_.getD []).length : Nat) : Int)) :: (iv (wr ((((a_.getD []).length : Nat) : Int) * (((b_.getD []).length : Nat) : Int)))) :: x1 :: (iv w9) :: (iv (((a_.getD []).length : Nat) : Int)) :: (bv (decide (w9 < (((a_.getD []).length : Nat) : Int)))) :: AV.top :: AV.top :: AV.top :: AV.top :: AV.top :: AV.top :: AV.top :: AV.top :: AV.top :: AV.top :: AV.top :: AV.top :: AV.top :: AV.top :: AV.top :: AV.top :: AV.top :: AV.top :: AV.top :: AV.top :: AV.top :: AV.top :: AV.top :: AV.top :: AV.top :: AV.top :: AV.top :: AV.top :: AV.top :: AV.top :: AV.top :: AV.top :: AV.top :: AV.top :: AV.top :: AV.top :: AV.top :: AV.top :: AV.top :: AV.top :: AV.top :: AV.top :: AV.top :: AV.top :: AV.top :: AV.top :: AV.top :: AV.top :: AV.top :: AV.top :: AV.top :: AV.top :: AV.top :: AV.top :: AV.top :: AV.top :: AV.top :: AV.top :: AV.top :: AV.top :: AV.top :: AV.top :: AV.top :: AV.top :: AV.top :: AV.top :: AV.top :: AV.top :: AV.top :: AV.top :: AV.top :: AV.top :: AV.top :: AV.top :: AV.top :: AV.top :: AV.top :: AV.top :: AV.top :: AV.top :: AV.top :: AV.top :: AV.top :: AV.top :: AV.top :: AV.top :: AV.top :: AV.top :: AV.top :: AV.top :: AV.top :: AV.top :: und :: []) ∧ Hold B h18 [(x1, obS (w17 : Sl Int))]) (fun st tm h18 R => ?_) R
  obtain ⟨w17, w20⟩ := st
  obtain ⟨rfl, O19⟩ := R
  rw [e_lb1_spec_l09Table]
  unfold s1_spec_l09Table
  dsimp only
  refine sim_let (v := bv (decide (w20 < (((b_.getD []).length : Nat) : Int)))) (aBin_lss _ _) ?_
  refine sim_cond (fun c27 => ?_) (fun c27 => ?_)
  · refine sim_let (v := bv (decide (w9 = 0))) (aCmp_eq _ _) ?_
    refine sim_guardT (e := bv) (fun hb28 => ?_) (fun c29 => ?_)
    · refine sim_let (v := bv (decide (w20 = 0))) (aCmp_eq _ _) ?_
      exact sim_ret rfl
    · refine sim_let (v := bv (bif decide (w9 = 0) then c29 else false)) (pick_b _ _ _) ?_
      refine sim_cond (fun c30 => ?_) (fun c30 => ?_)
      · refine sim_let (v := bv (decide (0 < w9))) (aBin_gtr _ _) ?_
        refine sim_guardT (e := bv) (fun hb31 => ?_) (fun c32 => ?_)
        · refine sim_let (v := bv (decide (0 < w20))) (aBin_gtr _ _) ?_
          exact sim_ret rfl
        · refine sim_let (v := bv (bif decide (0 < w9) then c32 else false)) (pick_b _ _ _) ?_
          refine sim_cond (fun c33 => ?_) (fun c33 => ?_)
          · refine sim_let (v := iv (wr (w9 - 1))) (aBin_sub _ _) ?_
            refine sim_let (v := iv (wr ((wr (w9 - 1)) * (((b_.getD []).length : Nat) : Int)))) (aBin_mul _ _) ?_
            refine sim_let (v := iv (wr ((wr ((wr (w9 - 1)) * (((b_.getD []).length : Nat) : Int))) + w20))) (aBin_add _ _) ?_
            refine sim_let (v := iv (wr ((wr ((wr ((wr (w9 - 1)) * (((b_.getD []).length : Nat) : Int))) + w20)) - 1))) (aBin_sub _ _) ?_
            refine sim_get (O19.tab (A := Int) (s := w17) 0 rfl) (fun m35 a34 hi36 hm37 => ?_)
            refine sim_let (v := iv a34) ((O19.tab (A := Int) (s := w17) 0 rfl).ld hm37 false 1 0) ?_
            refine sim_callV2 (t := (fun a b : Int => min a b)) he_spec_l00Min (snapD_int _ _) (snapD_int _ _) (fun c38 => ?_)
            refine sim_let (v := bv (decide (0 < w9))) (aBin_gtr _ _) ?_
            refine sim_cond (fun c39 => ?_) (fun c39 => ?_)
            · refine sim_let (v := iv (wr (w9 - 1))) (aBin_sub _ _) ?_
              refine sim_let (v := iv (wr ((wr (w9 - 1)) * (((b_.getD []).length : Nat) : Int)))) (aBin_mul _ _) ?_
              refine sim_let (v := iv (wr ((wr ((wr (w9 - 1)) * (((b_.getD []).length : Nat) : Int))) + w20))) (aBin_add _ _) ?_
              refine sim_get (O19.tab (A := Int) (s := w17) 0 rfl) (fun m41 a40 hi42 hm43 => ?_)
              refine sim_let (v := iv a40) ((O19.tab (A := Int) (s := w17) 0 rfl).ld hm43 false 1 0) ?_
              refine sim_callV2 (t := (fun a b : Int => min a b)) he_spec_l00Min (snapD_int _ _) (snapD_int _ _) (fun c44 => ?_)
              refine sim_let (v := bv (decide (0 < w20))) (aBin_gtr _ _) ?_
              refine sim_cond (fun c45 => ?_) (fun c45 => ?_)
              · refine sim_let (v := iv (wr (w9 * (((b_.getD []).length : Nat) : Int)))) (aBin_mul _ _) ?_
                refine sim_let (v := iv (wr ((wr (w9 * (((b_.getD []).length : Nat) : Int))) + w20))) (aBin_add _ _) ?_
                refine sim_let (v := iv (wr ((wr ((wr (w9 * (((b_.getD []).length : Nat) : Int))) + w20)) - 1))) (aBin_sub _ _) ?_
                refine sim_get (O19.tab (A := Int) (s := w17) 0 rfl) (fun m47 a46 hi48 hm49 => ?_)
                refine sim_let (v := iv a46) ((O19.tab (A := Int) (s := w17) 0 rfl).ld hm49 false 1 0) ?_
                refine sim_callV2 (t := (fun a b : Int => min a b)) he_spec_l00Min (snapD_int _ _) (snapD_int _ _) (fun c50 => ?_)
                refine sim_let (v := bv (decide (c50 = 1000000000))) (aCmp_eq _ _) ?_
                refine sim_guardF (e := bv) (fun hb51 => ?_) (fun c53 => ?_)
                · refine sim_let (v := iv (wr (w9 - w20))) (aBin_sub _ _) ?_
                  refine sim_call1 he_spec_l09Size (snapD_int _ _) (fun c52 => ?_)
                  refine sim_let2 (hand_plain (by rfl) _ _) ?_
                  refine sim_let (v := bv (decide (band_ < c52))) (aBin_gtr _ _) ?_
                  exact sim_ret rfl
                · refine sim_let (v := bv (bif decide (c50 = 1000000000) then true else c53)) (pick_b' _ _ _) ?_
                  refine sim_cond (fun c54 => ?_) (fun c54 => ?_)
                  · refine sim_let (v := iv (wr (w9 * (((b_.getD []).length : Nat) : Int)))) (aBin_mul _ _) ?_
                    refine sim_let (v := iv (wr ((wr (w9 * (((b_.getD []).length : Nat) : Int))) + w20))) (aBin_add _ _) ?_
                    refine sim_get (O19.tab (A := Int) (s := w17) 0 rfl) (fun m56 a55 hi57 hm58 => ?_)
                    refine sim_set (A := Int) O19 0 1000000000 rfl hi57 hm58 rfl (by simp) (by first | rfl | simp) (by first | rfl | simp [splice]) (fun h59 O60 => ?_)
                    replace O60 : Hold B h59 [(x1, obS ((setS w17 (wr ((wr (w9 * (((b_.getD []).length : Nat) : Int))) + w20)) 1000000000) : Sl Int))] := O60
                    refine sim_let (v := iv (wr (w20 + 1))) (aBin_add _ _) ?_
                    exact sim_ret ⟨rfl, rfl, O60⟩
                  · refine sim_let (v := iv (wr (w9 * (((b_.getD []).length : Nat) : Int)))) (aBin_mul _ _) ?_
                    refine sim_let (v := iv (wr ((wr (w9 * (((b_.getD []).length : Nat) : Int))) + w20))) (aBin_add _ _) ?_
                    refine sim_get (Tab.enc h18 a_) (fun m63 a62 hi64 hm65 => ?_)
                    refine sim_let (v := AV.agg [iv a62.x, iv a62.y, iv a62.d]) ((Tab.enc h18 a_).ld hm65 true 3 0) ?_
                    refine sim_get (Tab.enc h18 b_) (fun m67 a66 hi68 hm69 => ?_)
                    refine sim_let (v := AV.agg [iv a66.x, iv a66.y, iv a66.d]) ((Tab.enc h18 b_).ld hm69 true 3 0) ?_
                    refine sim_callQ2 he_spec_l09Cost (snapD_nr _ a62 rfl) (snapD_nr _ a66 rfl) (fun c70 => ?_)
                    refine sim_let2 (hand_plain (by rfl) _ _) ?_
                    refine sim_let (v := iv (wr (c50 + c70))) (aBin_add _ _) ?_
                    refine sim_get (O19.tab (A := Int) (s := w17) 0 rfl) (fun m72 a71 hi73 hm74 => ?_)
                    refine sim_set (A := Int) O19 0 (wr (c50 + c70)) rfl hi73 hm74 rfl (by simp) (by first | rfl | simp) (by first | rfl | simp [splice]) (fun h75 O76 => ?_)
                    replace O76 : Hold B h75 [(x1, obS ((setS w17 (wr ((wr (w9 * (((b_.getD []).length : Nat) : Int))) + w20)) (wr (c50 + c70))) : Sl Int))] := O76
                    refine sim_let (v := iv (wr (w20 + 1))) (aBin_add _ _) ?_
                    exact sim_ret ⟨rfl, rfl, O76⟩
              · refine sim_let (v := bv (decide (c44 = 1000000000))) (aCmp_eq _ _) ?_
                refine sim_guardF (e := bv) (fun hb78 => ?_) (fun c80 => ?_)
                · refine sim_let (v := iv (wr (w9 - w20))) (aBin_sub _ _) ?_
                  refine sim_call1 he_spec_l09Size (snapD_int _ _) (fun c79 => ?_)
                  refine sim_let2 (hand_plain (by rfl) _ _) ?_
                  refine sim_let (v := bv (decide (band_ < c79))) (aBin_gtr _ _) ?_
                  exact sim_ret rfl
                · refine sim_let (v := bv (bif decide (c44 = 1000000000) then true else c80)) (pick_b' _ _ _) ?_
                  refine sim_cond (fun c81 => ?_) (fun c81 => ?_)
                  · refine sim_let (v := iv (wr (w9 * (((b_.getD []).length : Nat) : Int)))) (aBin_mul _ _) ?_
                    refine sim_let (v := iv (wr ((wr (w9 * (((b_.getD []).length : Nat) : Int))) + w20))) (aBin_add _ _) ?_
                    refine sim_get (O19.tab (A := Int) (s := w17) 0 rfl) (fun m83 a82 hi84 hm85 => ?_)
                    refine sim_set (A := Int) O19 0 1000000000 rfl hi84 hm85 rfl (by simp) (by first | rfl | simp) (by first | rfl | simp [splice]) (fun h86 O87 => ?_)
                    replace O87 : Hold B h86 [(x1, obS ((setS w17 (wr ((wr (w9 * (((b_.getD []).length : Nat) : Int))) + w20)) 1000000000) : Sl Int))] := O87
                    refine sim_let (v := iv (wr (w20 + 1))) (aBin_add _ _) ?_
                    exact sim_ret ⟨rfl, rfl, O87⟩
                  · refine sim_let (v := iv (wr (w9 * (((b_.getD []).length : Nat) : Int)))) (aBin_mul _ _) ?_
                    refine sim_let (v := iv (wr ((wr (w9 * (((b_.getD []).length : Nat) : Int))) + w20))) (aBin_add _ _) ?_
                    refine sim_get (Tab.enc h18 a_) (fun m90 a89 hi91 hm92 => ?_)
                    refine sim_let (v := AV.agg [iv a89.x, iv a89.y, iv a89.d]) ((Tab.enc h18 a_).ld hm92 true 3 0) ?_
                    refine sim_get (Tab.enc h18 b_) (fun m94 a93 hi95 hm96 => ?_)
                    refine sim_let (v := AV.agg [iv a93.x, iv a93.y, iv a93.d]) ((Tab.enc h18 b_).ld hm96 true 3 0) ?_
                    refine sim_callQ2 he_spec_l09Cost (snapD_nr _ a89 rfl) (snapD_nr _ a93 rfl) (fun c97 => ?_)
                    refine sim_let2 (hand_plain (by rfl) _ _) ?_
                    refine sim_let (v := iv (wr (c44 + c97))) (aBin_add _ _) ?_
                    refine sim_get (O19.tab (A := Int) (s := w17) 0 rfl) (fun m99 a98 hi100 hm101 => ?_)
                    refine sim_set (A := Int) O19 0 (wr (c44 + c97)) rfl hi100 hm101 rfl (by simp) (by first | rfl | simp) (by first | rfl | simp [splice]) (fun h102 O103 => ?_)
                    replace O103 : Hold B h102 [(x1, obS ((setS w17 (wr ((wr (w9 * (((b_.getD []).length : Nat) : Int))) + w20)) (wr (c44 + c97))) : Sl Int))] := O103
                    refine sim_let (v := iv (wr (w20 + 1))) (aBin_add _ _) ?_
                    exact sim_ret ⟨rfl, rfl, O103⟩
            · refine sim_let (v := bv (decide (0 < w20))) (aBin_gtr _ _) ?_
              refine sim_cond (fun c105 => ?_) (fun c105 => ?_)
              · refine sim_let (v := iv (wr (w9 * (((b_.getD []).length : Nat) : Int)))) (aBin_mul _ _) ?_
                refine sim_let (v := iv (wr ((wr (w9 * (((b_.getD []).length : Nat) : Int))) + w20))) (aBin_add _ _) ?_
                refine sim_let (v := iv (wr ((wr ((wr (w9 * (((b_.getD []).length : Nat) : Int))) + w20)) - 1))) (aBin_sub _ _) ?_
                refine sim_get (O19.tab (A := Int) (s := w17) 0 rfl) (fun m107 a106 hi108 hm109 => ?_)
                refine sim_let (v := iv a106) ((O19.tab (A := Int) (s := w17) 0 rfl).ld hm109 false 1 0) ?_
                refine sim_callV2 (t := (fun a b : Int => min a b)) he_spec_l00Min (snapD_int _ _) (snapD_int _ _) (fun c110 => ?_)
                refine sim_let (v := bv (decide (c110 = 1000000000))) (aCmp_eq _ _) ?_
                refine sim_guardF (e := bv) (fun hb111 => ?_) (fun c113 => ?_)
                · refine sim_let (v := iv (wr (w9 - w20))) (aBin_sub _ _) ?_
                  refine sim_call1 he_spec_l09Size (snapD_int _ _) (fun c112 => ?_)
                  refine sim_let2 (hand_plain (by rfl) _ _) ?_
                  refine sim_let (v := bv (decide (band_ < c112))) (aBin_gtr _ _) ?_
                  exact sim_ret rfl
                · refine sim_let (v := bv (bif decide (c110 = 1000000000) then true else c113)) (pick_b' _ _ _) ?_
                  refine sim_cond (fun c114 => ?_) (fun c114 => ?_)
                  · refine sim_let (v := iv (wr (w9 * (((b_.getD []).length : Nat) : Int)))) (aBin_mul _ _) ?_
                    refine sim_let (v := iv (wr ((wr (w9 * (((b_.getD []).length : Nat) : Int))) + w20))) (aBin_add _ _) ?_
                    refine sim_get (O19.tab (A := Int) (s := w17) 0 rfl) (fun m116 a115 hi117 hm118 => ?_)
                    refine sim_set (A := Int) O19 0 1000000000 rfl hi117 hm118 rfl (by simp) (by first | rfl | simp) (by first | rfl | simp [splice]) (fun h119 O120 => ?_)
                    replace O120 : Hold B h119 [(x1, obS ((setS w17 (wr ((wr (w9 * (((b_.getD []).length : Nat) : Int))) + w20)) 1000000000) : Sl Int))] := O120
                    refine sim_let (v := iv (wr (w20 + 1))) (aBin_add _ _) ?_
                    exact sim_ret ⟨rfl, rfl, O120⟩
                  · refine sim_let (v := iv (wr (w9 * (((b_.getD []).length : Nat) : Int)))) (aBin_mul _ _) ?_
                    refine sim_let (v := iv (wr ((wr (w9 * (((b_.getD []).length : Nat) : Int))) + w20))) (aBin_add _ _) ?_
                    refine sim_get (Tab.enc h18 a_) (fun m123 a122 hi124 hm125 => ?_)
                    refine sim_let (v := AV.agg [iv a122.x, iv a122.y, iv a122.d]) ((Tab.enc h18 a_).ld hm125 true 3 0) ?_
                    refine sim_get (Tab.enc h18 b_) (fun m127 a126 hi128 hm129 => ?_)
                    refine sim_let (v := AV.agg [iv a126.x, iv a126.y, iv a126.d]) ((Tab.enc h18 b_).ld hm129 true 3 0) ?_
                    refine sim_callQ2 he_spec_l09Cost (snapD_nr _ a122 rfl) (snapD_nr _ a126 rfl) (fun c130 => ?_)
                    refine sim_let2 (hand_plain (by rfl) _ _) ?_
                    refine sim_let (v := iv (wr (c110 + c130))) (aBin_add _ _) ?_
                    refine sim_get (O19.tab (A := Int) (s := w17) 0 rfl) (fun m132 a131 hi133 hm134 => ?_)
                    refine sim_set (A := Int) O19 0 (wr (c110 + c130)) rfl hi133 hm134 rfl (by simp) (by first | rfl | simp) (by first | rfl | simp [splice]) (fun h135 O136 => ?_)
                    replace O136 : Hold B h135 [(x1, obS ((setS w17 (wr ((wr (w9 * (((b_.getD []).length : Nat) : Int))) + w20)) (wr (c110 + c130))) : Sl Int))] := O136
                    refine sim_let (v := iv (wr (w20 + 1))) (aBin_add _ _) ?_
                    exact sim_ret ⟨rfl, rfl, O136⟩
              · refine sim_let (v := bv (decide (c38 = 1000000000))) (aCmp_eq _ _) ?_
                refine sim_guardF (e := bv) (fun hb138 => ?_) (fun c140 => ?_)
                · refine sim_let (v := iv (wr (w9 - w20))) (aBin_sub _ _) ?_
                  refine sim_call1 he_spec_l09Size (snapD_int _ _) (fun c139 => ?_)
                  refine sim_let2 (hand_plain (by rfl) _ _) ?_
                  refine sim_let (v := bv (decide (band_ < c139))) (aBin_gtr _ _) ?_
                  exact sim_ret rfl
                · refine sim_let (v := bv (bif decide (c38 = 1000000000) then true else c140)) (pick_b' _ _ _) ?_
                  refine sim_cond (fun c141 => ?_) (fun c141 => ?_)
                  · refine sim_let (v := iv (wr (w9 * (((b_.getD []).length : Nat) : Int)))) (aBin_mul _ _) ?_
                    refine sim_let (v := iv (wr ((wr (w9 * (((b_.getD []).length : Nat) : Int))) + w20))) (aBin_add _ _) ?_
                    refine sim_get (O19.tab (A := Int) (s := w17) 0 rfl) (fun m143 a142 hi144 hm145 => ?_)
                    refine sim_set (A := Int) O19 0 1000000000 rfl hi144 hm145 rfl (by simp) (by first | rfl | simp) (by first | rfl | simp [splice]) (fun h146 O147 => ?_)
                    replace O147 : Hold B h146 [(x1, obS ((setS w17 (wr ((wr (w9 * (((b_.getD []).length : Nat) : Int))) + w20)) 1000000000) : Sl Int))] := O147
                    refine sim_let (v := iv (wr (w20 + 1))) (aBin_add _ _) ?_
                    exact sim_ret ⟨rfl, rfl, O147⟩
                  · refine sim_let (v := iv (wr (w9 * (((b_.getD []).length : Nat) : Int)))) (aBin_mul _ _) ?_
                    refine sim_let (v := iv (wr ((wr (w9 * (((b_.getD []).length : Nat) : Int))) + w20))) (aBin_add _ _) ?_
                    refine sim_get (Tab.enc h18 a_) (fun m150 a149 hi151 hm152 => ?_)
                    refine sim_let (v := AV.agg [iv a149.x, iv a149.y, iv a149.d]) ((Tab.enc h18 a_).ld hm152 true 3 0) ?_
                    refine sim_get (Tab.enc h18 b_) (fun m154 a153 hi155 hm156 => ?_)
                    refine sim_let (v := AV.agg [iv a153.x, iv a153.y, iv a153.d]) ((Tab.enc h18 b_).ld hm156 true 3 0) ?_
                    refine sim_callQ2 he_spec_l09Cost (snapD_nr _ a149 rfl) (snapD_nr _ a153 rfl) (fun c157 => ?_)
                    refine sim_let2 (hand_plain (by rfl) _ _) ?_
                    refine sim_let (v := iv (wr (c38 + c157))) (aBin_add _ _) ?_
                    refine sim_get (O19.tab (A := Int) (s := w17) 0 rfl) (fun m159 a158 hi160 hm161 => ?_)
                    refine sim_set (A := Int) O19 0 (wr (c38 + c157)) rfl hi160 hm161 rfl (by simp) (by first | rfl | simp) (by first | rfl | simp [splice]) (fun h162 O163 => ?_)
                    replace O163 : Hold B h162 [(x1, obS ((setS w17 (wr ((wr (w9 * (((b_.getD []).length : Nat) : Int))) + w20)) (wr (c38 + c157))) : Sl Int))] := O163
                    refine sim_let (v := iv (wr (w20 + 1))) (aBin_add _ _) ?_
                    exact sim_ret ⟨rfl, rfl, O163⟩
          · refine sim_let (v := bv (decide (0 < w9))) (aBin_gtr _ _) ?_
            refine sim_cond (fun c165 => ?_) (fun c165 => ?_)
            · refine sim_let (v := iv (wr (w9 - 1))) (aBin_sub _ _) ?_
              refine sim_let (v := iv (wr ((wr (w9 - 1)) * (((b_.getD []).length : Nat) : Int)))) (aBin_mul _ _) ?_
              refine sim_let (v := iv (wr ((wr ((wr (w9 - 1)) * (((b_.getD []).length : Nat) : Int))) + w20))) (aBin_add _ _) ?_
              refine sim_get (O19.tab (A := Int) (s := w17) 0 rfl) (fun m167 a166 hi168 hm169 => ?_)
              refine sim_let (v := iv a166) ((O19.tab (A := Int) (s := w17) 0 rfl).ld hm169 false 1 0) ?_
              refine sim_callV2 (t := (fun a b : Int => min a b)) he_spec_l00Min (snapD_int _ _) (snapD_int _ _) (fun c170 => ?_)
              refine sim_let (v := bv (decide (0 < w20))) (aBin_gtr _ _) ?_
              refine sim_cond (fun c171 => ?_) (fun c171 => ?_)
              · refine sim_let (v := iv (wr (w9 * (((b_.getD []).length : Nat) : Int)))) (aBin_mul _ _) ?_
                refine sim_let (v := iv (wr ((wr (w9 * (((b_.getD []).length : Nat) : Int))) + w20))) (aBin_add _ _) ?_
                refine sim_let (v := iv (wr ((wr ((wr (w9 * (((b_.getD []).length : Nat) : Int))) + w20)) - 1))) (aBin_sub _ _) ?_
                refine sim_get (O19.tab (A := Int) (s := w17) 0 rfl) (fun m173 a172 hi174 hm175 => ?_)
                refine sim_let (v := iv a172) ((O19.tab (A := Int) (s := w17) 0 rfl).ld hm175 false 1 0) ?_
                refine sim_callV2 (t := (fun a b : Int => min a b)) he_spec_l00Min (snapD_int _ _) (snapD_int _ _) (fun c176 => ?_)
                refine sim_let (v := bv (decide (c176 = 1000000000))) (aCmp_eq _ _) ?_
                refine sim_guardF (e := bv) (fun hb177 => ?_) (fun c179 => ?_)
                · refine sim_let (v := iv (wr (w9 - w20))) (aBin_sub _ _) ?_
                  refine sim_call1 he_spec_l09Size (snapD_int _ _) (fun c178 => ?_)
                  refine sim_let2 (hand_plain (by rfl) _ _) ?_
                  refine sim_let (v := bv (decide (band_ < c178))) (aBin_gtr _ _) ?_
                  exact sim_ret rfl
                · refine sim_let (v := bv (bif decide (c176 = 1000000000) then true else c179)) (pick_b' _ _ _) ?_
                  refine sim_cond (fun c180 => ?_) (fun c180 => ?_)
                  · refine sim_let (v := iv (wr (w9 * (((b_.getD []).length : Nat) : Int)))) (aBin_mul _ _) ?_
                    refine sim_let (v := iv (wr ((wr (w9 * (((b_.getD []).length : Nat) : Int))) + w20))) (aBin_add _ _) ?_
                    refine sim_get (O19.tab (A := Int) (s := w17) 0 rfl) (fun m182 a181 hi183 hm184 => ?_)
                    refine sim_set (A := Int) O19 0 1000000000 rfl hi183 hm184 rfl (by simp) (by first | rfl | simp) (by first | rfl | simp [splice]) (fun h185 O186 => ?_)
                    replace O186 : Hold B h185 [(x1, obS ((setS w17 (wr ((wr (w9 * (((b_.getD []).length : Nat) : Int))) + w20)) 1000000000) : Sl Int))] := O186
                    refine sim_let (v := iv (wr (w20 + 1))) (aBin_add _ _) ?_
                    exact sim_ret ⟨rfl, rfl, O186⟩
                  · refine sim_let (v := iv (wr (w9 * (((b_.getD []).length : Nat) : Int)))) (aBin_mul _ _) ?_
                    refine sim_let (v := iv (wr ((wr (w9 * (((b_.getD []).length : Nat) : Int))) + w20))) (aBin_add _ _) ?_
                    refine sim_get (Tab.enc h18 a_) (fun m189 a188 hi190 hm191 => ?_)
                    refine sim_let (v := AV.agg [iv a188.x, iv a188.y, iv a188.d]) ((Tab.enc h18 a_).ld hm191 true 3 0) ?_
                    refine sim_get (Tab.enc h18 b_) (fun m193 a192 hi194 hm195 => ?_)
                    refine sim_let (v := AV.agg [iv a192.x, iv a192.y, iv a192.d]) ((Tab.enc h18 b_).ld hm195 true 3 0) ?_
                    refine sim_callQ2 he_spec_l09Cost (snapD_nr _ a188 rfl) (snapD_nr _ a192 rfl) (fun c196 => ?_)
                    refine sim_let2 (hand_plain (by rfl) _ _) ?_
                    refine sim_let (v := iv (wr (c176 + c196))) (aBin_add _ _) ?_
                    refine sim_get (O19.tab (A := Int) (s := w17) 0 rfl) (fun m198 a197 hi199 hm200 => ?_)
                    refine sim_set (A := Int) O19 0 (wr (c176 + c196)) rfl hi199 hm200 rfl (by simp) (by first | rfl | simp) (by first | rfl | simp [splice]) (fun h201 O202 => ?_)
                    replace O202 : Hold B h201 [(x1, obS ((setS w17 (wr ((wr (w9 * (((b_.getD []).length : Nat) : Int))) + w20)) (wr (c176 + c196))) : Sl Int))] := O202
                    refine sim_let (v := iv (wr (w20 + 1))) (aBin_add _ _) ?_
                    exact sim_ret ⟨rfl, rfl, O202⟩
              · refine sim_let (v := bv (decide (c170 = 1000000000))) (aCmp_eq _ _) ?_
                refine sim_guardF (e := bv) (fun hb204 => ?_) (fun c206 => ?_)
                · refine sim_let (v := iv (wr (w9 - w20))) (aBin_sub _ _) ?_
                  refine sim_call1 he_spec_l09Size (snapD_int _ _) (fun c205 => ?_)
                  refine sim_let2 (hand_plain (by rfl) _ _) ?_
                  refine sim_let (v := bv (decide (band_ < c205))) (aBin_gtr _ _) ?_
                  exact sim_ret rfl
                · refine sim_let (v := bv (bif decide (c170 = 1000000000) then true else c206)) (pick_b' _ _ _) ?_
                  refine sim_cond (fun c207 => ?_) (fun c207 => ?_)
                  · refine sim_let (v := iv (wr (w9 * (((b_.getD []).length : Nat) : Int)))) (aBin_mul _ _) ?_
                    refine sim_let (v := iv (wr ((wr (w9 * (((b_.getD []).length : Nat) : Int))) + w20))) (aBin_add _ _) ?_
                    refine sim_get (O19.tab (A := Int) (s := w17) 0 rfl) (fun m209 a208 hi210 hm211 => ?_)
                    refine sim_set (A := Int) O19 0 1000000000 rfl hi210 hm211 rfl (by simp) (by first | rfl | simp) (by first | rfl | simp [splice]) (fun h212 O213 => ?_)
                    replace O213 : Hold B h212 [(x1, obS ((setS w17 (wr ((wr (w9 * (((b_.getD []).length : Nat) : Int))) + w20)) 1000000000) : Sl Int))] := O213
                    refine sim_let (v := iv (wr (w20 + 1))) (aBin_add _ _) ?_
                    exact sim_ret ⟨rfl, rfl, O213⟩
                  · refine sim_let (v := iv (wr (w9 * (((b_.getD []).length : Nat) : Int)))) (aBin_mul _ _) ?_
                    refine sim_let (v := iv (wr ((wr (w9 * (((b_.getD []).length : Nat) : Int))) + w20))) (aBin_add _ _) ?_
                    refine sim_get (Tab.enc h18 a_) (fun m216 a215 hi217 hm218 => ?_)
                    refine sim_let (v := AV.agg [iv a215.x, iv a215.y, iv a215.d]) ((Tab.enc h18 a_).ld hm218 true 3 0) ?_
                    refine sim_get (Tab.enc h18 b_) (fun m220 a219 hi221 hm222 => ?_)
                    refine sim_let (v := AV.agg [iv a219.x, iv a219.y, iv a219.d]) ((Tab.enc h18 b_).ld hm222 true 3 0) ?_
                    refine sim_callQ2 he_spec_l09Cost (snapD_nr _ a215 rfl) (snapD_nr _ a219 rfl) (fun c223 => ?_)
                    refine sim_let2 (hand_plain (by rfl) _ _) ?_
                    refine sim_let (v := iv (wr (c170 + c223))) (aBin_add _ _) ?_
                    refine sim_get (O19.tab (A := Int) (s := w17) 0 rfl) (fun m225 a224 hi226 hm227 => ?_)
                    refine sim_set (A := Int) O19 0 (wr (c170 + c223)) rfl hi226 hm227 rfl (by simp) (by first | rfl | simp) (by first | rfl | simp [splice]) (fun h228 O229 => ?_)
                    replace O229 : Hold B h228 [(x1, obS ((setS w17 (wr ((wr (w9 * (((b_.getD []).length : Nat) : Int))) + w20)) (wr (c170 + c223))) : Sl Int))] := O229
                    refine sim_let (v := iv (wr (w20 + 1))) (aBin_add _ _) ?_
                    exact sim_ret ⟨rfl, rfl, O229⟩
            · refine sim_let (v := bv (decide (0 < w20))) (aBin_gtr _ _) ?_
              refine sim_cond (fun c231 => ?_) (fun c231 => ?_)
              · refine sim_let (v := iv (wr (w9 * (((b_.getD []).length : Nat) : Int)))) (aBin_mul _ _) ?_
                refine sim_let (v := iv (wr ((wr (w9 * (((b_.getD []).length : Nat) : Int))) + w20))) (aBin_add _ _) ?_
                refine sim_let (v := iv (wr ((wr ((wr (w9 * (((b_.getD []).length : Nat) : Int))) + w20)) - 1))) (aBin_sub _ _) ?_
                refine sim_get (O19.tab (A := Int) (s := w17) 0 rfl) (fun m233 a232 hi234 hm235 => ?_)
                refine sim_let (v := iv a232) ((O19.tab (A := Int) (s := w17) 0 rfl).ld hm235 false 1 0) ?_
                refine sim_callV2 (t := (fun a b : Int => min a b)) he_spec_l00Min (snapD_int _ _) (snapD_int _ _) (fun c236 => ?_)
                refine sim_let (v := bv (decide (c236 = 1000000000))) (aCmp_eq _ _) ?_
                refine sim_guardF (e := bv) (fun hb237 => ?_) (fun c239 => ?_)
                · refine sim_let (v := iv (wr (w9 - w20))) (aBin_sub _ _) ?_
                  refine sim_call1 he_spec_l09Size (snapD_int _ _) (fun c238 => ?_)
                  refine sim_let2 (hand_plain (by rfl) _ _) ?_
                  refine sim_let (v := bv (decide (band_ < c238))) (aBin_gtr _ _) ?_
                  exact sim_ret rfl
                · refine sim_let (v := bv (bif decide (c236 = 1000000000) then true else c239)) (pick_b' _ _ _) ?_
                  refine sim_cond (fun c240 => ?_) (fun c240 => ?_)
                  · refine sim_let (v := iv (wr (w9 * (((b_.getD []).length : Nat) : Int)))) (aBin_mul _ _) ?_
                    refine sim_let (v := iv (wr ((wr (w9 * (((b_.getD []).length : Nat) : Int))) + w20))) (aBin_add _ _) ?_
                    refine sim_get (O19.tab (A := Int) (s := w17) 0 rfl) (fun m242 a241 hi243 hm244 => ?_)
                    refine sim_set (A := Int) O19 0 1000000000 rfl hi243 hm244 rfl (by simp) (by first | rfl | simp) (by first | rfl | simp [splice]) (fun h245 O246 => ?_)
                    replace O246 : Hold B h245 [(x1, obS ((setS w17 (wr ((wr (w9 * (((b_.getD []).length : Nat) : Int))) + w20)) 1000000000) : Sl Int))] := O246
                    refine sim_let (v := iv (wr (w20 + 1))) (aBin_add _ _) ?_
                    exact sim_ret ⟨rfl, rfl, O246⟩
                  · refine sim_let (v := iv (wr (w9 * (((b_.getD []).length : Nat) : Int)))) (aBin_mul _ _) ?_
                    refine sim_let (v := iv (wr ((wr (w9 * (((b_.getD []).length : Nat) : Int))) + w20))) (aBin_add _ _) ?_
                    refine sim_get (Tab.enc h18 a_) (fun m249 a248 hi250 hm251 => ?_)
                    refine sim_let (v := AV.agg [iv a248.x, iv a248.y, iv a248.d]) ((Tab.enc h18 a_).ld hm251 true 3 0) ?_
                    refine sim_get (Tab.enc h18 b_) (fun m253 a252 hi254 hm255 => ?_)
                    refine sim_let (v := AV.agg [iv a252.x, iv a252.y, iv a252.d]) ((Tab.enc h18 b_).ld hm255 true 3 0) ?_
                    refine sim_callQ2 he_spec_l09Cost (snapD_nr _ a248 rfl) (snapD_nr _ a252 rfl) (fun c256 => ?_)
                    refine sim_let2 (hand_plain (by rfl) _ _) ?_
                    refine sim_let (v := iv (wr (c236 + c256))) (aBin_add _ _) ?_
                    refine sim_get (O19.tab (A := Int) (s := w17) 0 rfl) (fun m258 a257 hi259 hm260 => ?_)
                    refine sim_set (A := Int) O19 0 (wr (c236 + c256)) rfl hi259 hm260 rfl (by simp) (by first | rfl | simp) (by first | rfl | simp [splice]) (fun h261 O262 => ?_)
                    replace O262 : Hold B h261 [(x1, obS ((setS w17 (wr ((wr (w9 * (((b_.getD []).length : Nat) : Int))) + w20)) (wr (c236 + c256))) : Sl Int))] := O262
                    refine sim_let (v := iv (wr (w20 + 1))) (aBin_add _ _) ?_
                    exact sim_ret ⟨rfl, rfl, O262⟩
              · refine sim_let (v := bv (decide (0 = 1000000000))) (aCmp_eq _ _) ?_
                refine sim_guardF (e := bv) (fun hb264 => ?_) (fun c266 => ?_)
                · refine sim_let (v := iv (wr (w9 - w20))) (aBin_sub _ _) ?_
                  refine sim_call1 he_spec_l09Size (snapD_int _ _) (fun c265 => ?_)
                  refine sim_let2 (hand_plain (by rfl) _ _) ?_
                  refine sim_let (v := bv (decide (band_ < c265))) (aBin_gtr _ _) ?_
                  exact sim_ret rfl
                · refine sim_let (v := bv (bif decide (0 = 1000000000) then true else c266)) (pick_b' _ _ _) ?_
                  refine sim_cond (fun c267 => ?_) (fun c267 => ?_)
                  · refine sim_let (v := iv (wr (w9 * (((b_.getD []).length : Nat) : Int)))) (aBin_mul _ _) ?_
                    refine sim_let (v := iv (wr ((wr (w9 * (((b_.getD []).length : Nat) : Int))) + w20))) (aBin_add _ _) ?_
                    refine sim_get (O19.tab (A := Int) (s := w17) 0 rfl) (fun m269 a268 hi270 hm271 => ?_)
                    refine sim_set (A := Int) O19 0 1000000000 rfl hi270 hm271 rfl (by simp) (by first | rfl | simp) (by first | rfl | simp [splice]) (fun h272 O273 => ?_)
                    replace O273 : Hold B h272 [(x1, obS ((setS w17 (wr ((wr (w9 * (((b_.getD []).length : Nat) : Int))) + w20)) 1000000000) : Sl Int))] := O273
                    refine sim_let (v := iv (wr (w20 + 1))) (aBin_add _ _) ?_
                    exact sim_ret ⟨rfl, rfl, O273⟩
                  · refine sim_let (v := iv (wr (w9 * (((b_.getD []).length : Nat) : Int)))) (aBin_mul _ _) ?_
                    refine sim_let (v := iv (wr ((wr (w9 * (((b_.getD []).length : Nat) : Int))) + w20))) (aBin_add _ _) ?_
                    refine sim_get (Tab.enc h18 a_) (fun m276 a275 hi277 hm278 => ?_)
                    refine sim_let (v := AV.agg [iv a275.x, iv a275.y, iv a275.d]) ((Tab.enc h18 a_).ld hm278 true 3 0) ?_
                    refine sim_get (Tab.enc h18 b_) (fun m280 a279 hi281 hm282 => ?_)
                    refine sim_let (v := AV.agg [iv a279.x, iv a279.y, iv a279.d]) ((Tab.enc h18 b_).ld hm282 true 3 0) ?_
                    refine sim_callQ2 he_spec_l09Cost (snapD_nr _ a275 rfl) (snapD_nr _ a279 rfl) (fun c283 => ?_)
                    refine sim_let2 (hand_plain (by rfl) _ _) ?_
                    refine sim_let (v := iv (wr (0 + c283))) (aBin_add _ _) ?_
                    refine sim_get (O19.tab (A := Int) (s := w17) 0 rfl) (fun m285 a284 hi286 hm287 => ?_)
                    refine sim_set (A := Int) O19 0 (wr (0 + c283)) rfl hi286 hm287 rfl (by simp) (by first | rfl | simp) (by first | rfl | simp [splice]) (fun h288 O289 => ?_)
                    replace O289 : Hold B h288 [(x1, obS ((setS w17 (wr ((wr (w9 * (((b_.getD []).length : Nat) : Int))) + w20)) (wr (0 + c283))) : Sl Int))] := O289
                    refine sim_let (v := iv (wr (w20 + 1))) (aBin_add _ _) ?_
                    exact sim_ret ⟨rfl, rfl, O289⟩
      · refine sim_let (v := bv (decide (0 < w9))) (aBin_gtr _ _) ?_
        refine sim_guardT (e := bv) (fun hb291 => ?_) (fun c292 => ?_)
        · refine sim_let (v := bv (decide (0 < w20))) (aBin_gtr _ _) ?_
          exact sim_ret rfl
        · refine sim_let (v := bv (bif decide (0 < w9) then c292 else false)) (pick_b _ _ _) ?_
          refine sim_cond (fun c293 => ?_) (fun c293 => ?_)
          · refine sim_let (v := iv (wr (w9 - 1))) (aBin_sub _ _) ?_
            refine sim_let (v := iv (wr ((wr (w9 - 1)) * (((b_.getD []).length : Nat) : Int)))) (aBin_mul _ _) ?_
            refine sim_let (v := iv (wr ((wr ((wr (w9 - 1)) * (((b_.getD []).length : Nat) : Int))) + w20))) (aBin_add _ _) ?_
            refine sim_let (v := iv (wr ((wr ((wr ((wr (w9 - 1)) * (((b_.getD []).length : Nat) : Int))) + w20)) - 1))) (aBin_sub _ _) ?_
            refine sim_get (O19.tab (A := Int) (s := w17) 0 rfl) (fun m295 a294 hi296 hm297 => ?_)
            refine sim_let (v := iv a294) ((O19.tab (A := Int) (s := w17) 0 rfl).ld hm297 false 1 0) ?_
            refine sim_callV2 (t := (fun a b : Int => min a b)) he_spec_l00Min (snapD_int _ _) (snapD_int _ _) (fun c298 => ?_)
            refine sim_let (v := bv (decide (0 < w9))) (aBin_gtr _ _) ?_
            refine sim_cond (fun c299 => ?_) (fun c299 => ?_)
            · refine sim_let (v := iv (wr (w9 - 1))) (aBin_sub _ _) ?_
              refine sim_let (v := iv (wr ((wr (w9 - 1)) * (((b_.getD []).length : Nat) : Int)))) (aBin_mul _ _) ?_
              refine sim_let (v := iv (wr ((wr ((wr (w9 - 1)) * (((b_.getD []).length : Nat) : Int))) + w20))) (aBin_add _ _) ?_
              refine sim_get (O19.tab (A := Int) (s := w17) 0 rfl) (fun m301 a300 hi302 hm303 => ?_)
              refine sim_let (v := iv a300) ((O19.tab (A := Int) (s := w17) 0 rfl).ld hm303 false 1 0) ?_
              refine sim_callV2 (t := (fun a b : Int => min a b)) he_spec_l00Min (snapD_int _ _) (snapD_int _ _) (fun c304 => ?_)
              refine sim_let (v := bv (decide (0 < w20))) (aBin_gtr _ _) ?_
              refine sim_cond (fun c305 => ?_) (fun c305 => ?_)
              · refine sim_let (v := iv (wr (w9 * (((b_.getD []).length : Nat) : Int)))) (aBin_mul _ _) ?_
                refine sim_let (v := iv (wr ((wr (w9 * (((b_.getD []).length : Nat) : Int))) + w20))) (aBin_add _ _) ?_
                refine sim_let (v := iv (wr ((wr ((wr (w9 * (((b_.getD []).length : Nat) : Int))) + w20)) - 1))) (aBin_sub _ _) ?_
                refine sim_get (O19.tab (A := Int) (s := w17) 0 rfl) (fun m307 a306 hi308 hm309 => ?_)
                refine sim_let (v := iv a306) ((O19.tab (A := Int) (s := w17) 0 rfl).ld hm309 false 1 0) ?_
                refine sim_callV2 (t := (fun a b : Int => min a b)) he_spec_l00Min (snapD_int _ _) (snapD_int _ _) (fun c310 => ?_)
                refine sim_let (v := bv (decide (c310 = 1000000000))) (aCmp_eq _ _) ?_
                refine sim_guardF (e := bv) (fun hb311 => ?_) (fun c313 => ?_)
                · refine sim_let (v := iv (wr (w9 - w20))) (aBin_sub _ _) ?_
                  refine sim_call1 he_spec_l09Size (snapD_int _ _) (fun c312 => ?_)
                  refine sim_let2 (hand_plain (by rfl) _ _) ?_
                  refine sim_let (v := bv (decide (band_ < c312))) (aBin_gtr _ _) ?_
                  exact sim_ret rfl
                · refine sim_let (v := bv (bif decide (c310 = 1000000000) then true else c313)) (pick_b' _ _ _) ?_
                  refine sim_cond (fun c314 => ?_) (fun c314 => ?_)
                  · refine sim_let (v := iv (wr (w9 * (((b_.getD []).length : Nat) : Int)))) (aBin_mul _ _) ?_
                    refine sim_let (v := iv (wr ((wr (w9 * (((b_.getD []).length : Nat) : Int))) + w20))) (aBin_add _ _) ?_
                    refine sim_get (O19.tab (A := Int) (s := w17) 0 rfl) (fun m316 a315 hi317 hm318 => ?_)
                    refine sim_set (A := Int) O19 0 1000000000 rfl hi317 hm318 rfl (by simp) (by first | rfl | simp) (by first | rfl | simp [splice]) (fun h319 O320 => ?_)
                    replace O320 : Hold B h319 [(x1, obS ((setS w17 (wr ((wr (w9 * (((b_.getD []).length : Nat) : Int))) + w20)) 1000000000) : Sl Int))] := O320
                    refine sim_let (v := iv (wr (w20 + 1))) (aBin_add _ _) ?_
                    exact sim_ret ⟨rfl, rfl, O320⟩
                  · refine sim_let (v := iv (wr (w9 * (((b_.getD []).length : Nat) : Int)))) (aBin_mul _ _) ?_
                    refine sim_let (v := iv (wr ((wr (w9 * (((b_.getD []).length : Nat) : Int))) + w20))) (aBin_add _ _) ?_
                    refine sim_get (Tab.enc h18 a_) (fun m323 a322 hi324 hm325 => ?_)
                    refine sim_let (v := AV.agg [iv a322.x, iv a322.y, iv a322.d]) ((Tab.enc h18 a_).ld hm325 true 3 0) ?_
                    refine sim_get (Tab.enc h18 b_) (fun m327 a326 hi328 hm329 => ?_)
                    refine sim_let (v := AV.agg [iv a326.x, iv a326.y, iv a326.d]) ((Tab.enc h18 b_).ld hm329 true 3 0) ?_
                    refine sim_callQ2 he_spec_l09Cost (snapD_nr _ a322 rfl) (snapD_nr _ a326 rfl) (fun c330 => ?_)
                    refine sim_let2 (hand_plain (by rfl) _ _) ?_
                    refine sim_let (v := iv (wr (c310 + c330))) (aBin_add _ _) ?_
                    refine sim_get (O19.tab (A := Int) (s := w17) 0 rfl) (fun m332 a331 hi333 hm334 => ?_)
                    refine sim_set (A := Int) O19 0 (wr (c310 + c330)) rfl hi333 hm334 rfl (by simp) (by first | rfl | simp) (by first | rfl | simp [splice]) (fun h335 O336 => ?_)
                    replace O336 : Hold B h335 [(x1, obS ((setS w17 (wr ((wr (w9 * (((b_.getD []).length : Nat) : Int))) + w20)) (wr (c310 + c330))) : Sl Int))] := O336
                    refine sim_let (v := iv (wr (w20 + 1))) (aBin_add _ _) ?_
                    exact sim_ret ⟨rfl, rfl, O336⟩
              · refine sim_let (v := bv (decide (c304 = 1000000000))) (aCmp_eq _ _) ?_
                refine sim_guardF (e := bv) (fun hb338 => ?_) (fun c340 => ?_)
                · refine sim_let (v := iv (wr (w9 - w20))) (aBin_sub _ _) ?_
                  refine sim_call1 he_spec_l09Size (snapD_int _ _) (fun c339 => ?_)
                  refine sim_let2 (hand_plain (by rfl) _ _) ?_
                  refine sim_let (v := bv (decide (band_ < c339))) (aBin_gtr _ _) ?_
                  exact sim_ret rfl
                · refine sim_let (v := bv (bif decide (c304 = 1000000000) then true else c340)) (pick_b' _ _ _) ?_
                  refine sim_cond (fun c341 => ?_) (fun c341 => ?_)
                  · refine sim_let (v := iv (wr (w9 * (((b_.getD []).length : Nat) : Int)))) (aBin_mul _ _) ?_
                    refine sim_let (v := iv (wr ((wr (w9 * (((b_.getD []).length : Nat) : Int))) + w20))) (aBin_add _ _) ?_
                    refine sim_get (O19.tab (A := Int) (s := w17) 0 rfl) (fun m343 a342 hi344 hm345 => ?_)
                    refine sim_set (A := Int) O19 0 1000000000 rfl hi344 hm345 rfl (by simp) (by first | rfl | simp) (by first | rfl | simp [splice]) (fun h346 O347 => ?_)
                    replace O347 : Hold B h346 [(x1, obS ((setS w17 (wr ((wr (w9 * (((b_.getD []).length : Nat) : Int))) + w20)) 1000000000) : Sl Int))] := O347
                    refine sim_let (v := iv (wr (w20 + 1))) (aBin_add _ _) ?_
                    exact sim_ret ⟨rfl, rfl, O347⟩
                  · refine sim_let (v := iv (wr (w9 * (((b_.getD []).length : Nat) : Int)))) (aBin_mul _ _) ?_
                    refine sim_let (v := iv (wr ((wr (w9 * (((b_.getD []).length : Nat) : Int))) + w20))) (aBin_add _ _) ?_
                    refine sim_get (Tab.enc h18 a_) (fun m350 a349 hi351 hm352 => ?_)
                    refine sim_let (v := AV.agg [iv a349.x, iv a349.y, iv a349.d]) ((Tab.enc h18 a_).ld hm352 true 3 0) ?_
                    refine sim_get (Tab.enc h18 b_) (fun m354 a353 hi355 hm356 => ?_)
                    refine sim_let (v := AV.agg [iv a353.x, iv a353.y, iv a353.d]) ((Tab.enc h18 b_).ld hm356 true 3 0) ?_
                    refine sim_callQ2 he_spec_l09Cost (snapD_nr _ a349 rfl) (snapD_nr _ a353 rfl) (fun c357 => ?_)
                    refine sim_let2 (hand_plain (by rfl) _ _) ?_
                    refine sim_let (v := iv (wr (c304 + c357))) (aBin_add _ _) ?_
                    refine sim_get (O19.tab (A := Int) (s := w17) 0 rfl) (fun m359 a358 hi360 hm361 => ?_)
                    refine sim_set (A := Int) O19 0 (wr (c304 + c357)) rfl hi360 hm361 rfl (by simp) (by first | rfl | simp) (by first | rfl | simp [splice]) (fun h362 O363 => ?_)
                    replace O363 : Hold B h362 [(x1, obS ((setS w17 (wr ((wr (w9 * (((b_.getD []).length : Nat) : Int))) + w20)) (wr (c304 + c357))) : Sl Int))] := O363
                    refine sim_let (v := iv (wr (w20 + 1))) (aBin_add _ _) ?_
                    exact sim_ret ⟨rfl, rfl, O363⟩
            · refine sim_let (v := bv (decide (0 < w20))) (aBin_gtr _ _) ?_
              refine sim_cond (fun c365 => ?_) (fun c365 => ?_)
              · refine sim_let (v := iv (wr (w9 * (((b_.getD []).length : Nat) : Int)))) (aBin_mul _ _) ?_
                refine sim_let (v := iv (wr ((wr (w9 * (((b_.getD []).length : Nat) : Int))) + w20))) (aBin_add _ _) ?_
                refine sim_let (v := iv (wr ((wr ((wr (w9 * (((b_.getD []).length : Nat) : Int))) + w20)) - 1))) (aBin_sub _ _) ?_
                refine sim_get (O19.tab (A := Int) (s := w17) 0 rfl) (fun m367 a366 hi368 hm369 => ?_)
                refine sim_let (v := iv a366) ((O19.tab (A := Int) (s := w17) 0 rfl).ld hm369 false 1 0) ?_
                refine sim_callV2 (t := (fun a b : Int => min a b)) he_spec_l00Min (snapD_int _ _) (snapD_int _ _) (fun c370 => ?_)
                refine sim_let (v := bv (decide (c370 = 1000000000))) (aCmp_eq _ _) ?_
                refine sim_guardF (e := bv) (fun hb371 => ?_) (fun c373 => ?_)
                · refine sim_let (v := iv (wr (w9 - w20))) (aBin_sub _ _) ?_
                  refine sim_call1 he_spec_l09Size (snapD_int _ _) (fun c372 => ?_)
                  refine sim_let2 (hand_plain (by rfl) _ _) ?_
                  refine sim_let (v := bv (decide (band_ < c372))) (aBin_gtr _ _) ?_
                  exact sim_ret rfl
                · refine sim_let (v := bv (bif decide (c370 = 1000000000) then true else c373)) (pick_b' _ _ _) ?_
                  refine sim_cond (fun c374 => ?_) (fun c374 => ?_)
                  · refine sim_let (v := iv (wr (w9 * (((b_.getD []).length : Nat) : Int)))) (aBin_mul _ _) ?_
                    refine sim_let (v := iv (wr ((wr (w9 * (((b_.getD []).length : Nat) : Int))) + w20))) (aBin_add _ _) ?_
                    refine sim_get (O19.tab (A := Int) (s := w17) 0 rfl) (fun m376 a375 hi377 hm378 => ?_)
                    refine sim_set (A := Int) O19 0 1000000000 rfl hi377 hm378 rfl (by simp) (by first | rfl | simp) (by first | rfl | simp [splice]) (fun h379 O380 => ?_)
                    replace O380 : Hold B h379 [(x1, obS ((setS w17 (wr ((wr (w9 * (((b_.getD []).length : Nat) : Int))) + w20)) 1000000000) : Sl Int))] := O380
                    refine sim_let (v := iv (wr (w20 + 1))) (aBin_add _ _) ?_
                    exact sim_ret ⟨rfl, rfl, O380⟩
                  · refine sim_let (v := iv (wr (w9 * (((b_.getD []).length : Nat) : Int)))) (aBin_mul _ _) ?_
                    refine sim_let (v := iv (wr ((wr (w9 * (((b_.getD []).length : Nat) : Int))) + w20))) (aBin_add _ _) ?_
                    refine sim_get (Tab.enc h18 a_) (fun m383 a382 hi384 hm385 => ?_)
                    refine sim_let (v := AV.agg [iv a382.x, iv a382.y, iv a382.d]) ((Tab.enc h18 a_).ld hm385 true 3 0) ?_
                    refine sim_get (Tab.enc h18 b_) (fun m387 a386 hi388 hm389 => ?_)
                    refine sim_let (v := AV.agg [iv a386.x, iv a386.y, iv a386.d]) ((Tab.enc h18 b_).ld hm389 true 3 0) ?_
                    refine sim_callQ2 he_spec_l09Cost (snapD_nr _ a382 rfl) (snapD_nr _ a386 rfl) (fun c390 => ?_)
                    refine sim_let2 (hand_plain (by rfl) _ _) ?_
                    refine sim_let (v := iv (wr (c370 + c390))) (aBin_add _ _) ?_
                    refine sim_get (O19.tab (A := Int) (s := w17) 0 rfl) (fun m392 a391 hi393 hm394 => ?_)
                    refine sim_set (A := Int) O19 0 (wr (c370 + c390)) rfl hi393 hm394 rfl (by simp) (by first | rfl | simp) (by first | rfl | simp [splice]) (fun h395 O396 => ?_)
                    replace O396 : Hold B h395 [(x1, obS ((setS w17 (wr ((wr (w9 * (((b_.getD []).length : Nat) : Int))) + w20)) (wr (c370 + c390))) : Sl Int))] := O396
                    refine sim_let (v := iv (wr (w20 + 1))) (aBin_add _ _) ?_
                    exact sim_ret ⟨rfl, rfl, O396⟩
              · refine sim_let (v := bv (decide (c298 = 1000000000))) (aCmp_eq _ _) ?_
                refine sim_guardF (e := bv) (fun hb398 => ?_) (fun c400 => ?_)
                · refine sim_let (v := iv (wr (w9 - w20))) (aBin_sub _ _) ?_
                  refine sim_call1 he_spec_l09Size (snapD_int _ _) (fun c399 => ?_)
                  refine sim_let2 (hand_plain (by rfl) _ _) ?_
                  refine sim_let (v := bv (decide (band_ < c399))) (aBin_gtr _ _) ?_
                  exact sim_ret rfl
                · refine sim_let (v := bv (bif decide (c298 = 1000000000) then true else c400)) (pick_b' _ _ _) ?_
                  refine sim_cond (fun c401 => ?_) (fun c401 => ?_)
                  · refine sim_let (v := iv (wr (w9 * (((b_.getD []).length : Nat) : Int)))) (aBin_mul _ _) ?_
                    refine sim_let (v := iv (wr ((wr (w9 * (((b_.getD []).length : Nat) : Int))) + w20))) (aBin_add _ _) ?_
                    refine sim_get (O19.tab (A := Int) (s := w17) 0 rfl) (fun m403 a402 hi404 hm405 => ?_)
                    refine sim_set (A := Int) O19 0 1000000000 rfl hi404 hm405 rfl (by simp) (by first | rfl | simp) (by first | rfl | simp [splice]) (fun h406 O407 => ?_)
                    replace O407 : Hold B h406 [(x1, obS ((setS w17 (wr ((wr (w9 * (((b_.getD []).length : Nat) : Int))) + w20)) 1000000000) : Sl Int))] := O407
                    refine sim_let (v := iv (wr (w20 + 1))) (aBin_add _ _) ?_
                    exact sim_ret ⟨rfl, rfl, O407⟩
                  · refine sim_let (v := iv (wr (w9 * (((b_.getD []).length : Nat) : Int)))) (aBin_mul _ _) ?_
                    refine sim_let (v := iv (wr ((wr (w9 * (((b_.getD []).length : Nat) : Int))) + w20))) (aBin_add _ _) ?_
                    refine sim_get (Tab.enc h18 a_) (fun m410 a409 hi411 hm412 => ?_)
                    refine sim_let (v := AV.agg [iv a409.x, iv a409.y, iv a409.d]) ((Tab.enc h18 a_).ld hm412 true 3 0) ?_
                    refine sim_get (Tab.enc h18 b_) (fun m414 a413 hi415 hm416 => ?_)
                    refine sim_let (v := AV.agg [iv a413.x, iv a413.y, iv a413.d]) ((Tab.enc h18 b_).ld hm416 true 3 0) ?_
                    refine sim_callQ2 he_spec_l09Cost (snapD_nr _ a409 rfl) (snapD_nr _ a413 rfl) (fun c417 => ?_)
                    refine sim_let2 (hand_plain (by rfl) _ _) ?_
                    refine sim_let (v := iv (wr (c298 + c417))) (aBin_add _ _) ?_
                    refine sim_get (O19.tab (A := Int) (s := w17) 0 rfl) (fun m419 a418 hi420 hm421 => ?_)
                    refine sim_set (A := Int) O19 0 (wr (c298 + c417)) rfl hi420 hm421 rfl (by simp) (by first | rfl | simp) (by first | rfl | simp [splice]) (fun h422 O423 => ?_)
                    replace O423 : Hold B h422 [(x1, obS ((setS w17 (wr ((wr (w9 * (((b_.getD []).length : Nat) : Int))) + w20)) (wr (c298 + c417))) : Sl Int))] := O423
                    refine sim_let (v := iv (wr (w20 + 1))) (aBin_add _ _) ?_
                    exact sim_ret ⟨rfl, rfl, O423⟩
          · refine sim_let (v := bv (decide (0 < w9))) (aBin_gtr _ _) ?_
            refine sim_cond (fun c425 => ?_) (fun c425 => ?_)
            · refine sim_let (v := iv (wr (w9 - 1))) (aBin_sub _ _) ?_
              refine sim_let (v := iv (wr ((wr (w9 - 1)) * (((b_.getD []).length : Nat) : Int)))) (aBin_mul _ _) ?_
              refine sim_let (v := iv (wr ((wr ((wr (w9 - 1)) * (((b_.getD []).length : Nat) : Int))) + w20))) (aBin_add _ _) ?_
              refine sim_get (O19.tab (A := Int) (s := w17) 0 rfl) (fun m427 a426 hi428 hm429 => ?_)
              refine sim_let (v := iv a426) ((O19.tab (A := Int) (s := w17) 0 rfl).ld hm429 false 1 0) ?_
              refine sim_callV2 (t := (fun a b : Int => min a b)) he_spec_l00Min (snapD_int _ _) (snapD_int _ _) (fun c430 => ?_)
              refine sim_let (v := bv (decide (0 < w20))) (aBin_gtr _ _) ?_
              refine sim_cond (fun c431 => ?_) (fun c431 => ?_)
              · refine sim_let (v := iv (wr (w9 * (((b_.getD []).length : Nat) : Int)))) (aBin_mul _ _) ?_
                refine sim_let (v := iv (wr ((wr (w9 * (((b_.getD []).length : Nat) : Int))) + w20))) (aBin_add _ _) ?_
                refine sim_let (v := iv (wr ((wr ((wr (w9 * (((b_.getD []).length : Nat) : Int))) + w20)) - 1))) (aBin_sub _ _) ?_
                refine sim_get (O19.tab (A := Int) (s := w17) 0 rfl) (fun m433 a432 hi434 hm435 => ?_)
                refine sim_let (v := iv a432) ((O19.tab (A := Int) (s := w17) 0 rfl).ld hm435 false 1 0) ?_
                refine sim_callV2 (t := (fun a b : Int => min a b)) he_spec_l00Min (snapD_int _ _) (snapD_int _ _) (fun c436 => ?_)
                refine sim_let (v := bv (decide (c436 = 1000000000))) (aCmp_eq _ _) ?_
                refine sim_guardF (e := bv) (fun hb437 => ?_) (fun c439 => ?_)
                · refine sim_let (v := iv (wr (w9 - w20))) (aBin_sub _ _) ?_
                  refine sim_call1 he_spec_l09Size (snapD_int _ _) (fun c438 => ?_)
                  refine sim_let2 (hand_plain (by rfl) _ _) ?_
                  refine sim_let (v := bv (decide (band_ < c438))) (aBin_gtr _ _) ?_
                  exact sim_ret rfl
                · refine sim_let (v := bv (bif decide (c436 = 1000000000) then true else c439)) (pick_b' _ _ _) ?_
                  refine sim_cond (fun c440 => ?_) (fun c440 => ?_)
                  · refine sim_let (v := iv (wr (w9 * (((b_.getD []).length : Nat) : Int)))) (aBin_mul _ _) ?_
                    refine sim_let (v := iv (wr ((wr (w9 * (((b_.getD []).length : Nat) : Int))) + w20))) (aBin_add _ _) ?_
                    refine sim_get (O19.tab (A := Int) (s := w17) 0 rfl) (fun m442 a441 hi443 hm444 => ?_)
                    refine sim_set (A := Int) O19 0 1000000000 rfl hi443 hm444 rfl (by simp) (by first | rfl | simp) (by first | rfl | simp [splice]) (fun h445 O446 => ?_)
                    replace O446 : Hold B h445 [(x1, obS ((setS w17 (wr ((wr (w9 * (((b_.getD []).length : Nat) : Int))) + w20)) 1000000000) : Sl Int))] := O446
                    refine sim_let (v := iv (wr (w20 + 1))) (aBin_add _ _) ?_
                    exact sim_ret ⟨rfl, rfl, O446⟩
                  · refine sim_let (v := iv (wr (w9 * (((b_.getD []).length : Nat) : Int)))) (aBin_mul _ _) ?_
                    refine sim_let (v := iv (wr ((wr (w9 * (((b_.getD []).length : Nat) : Int))) + w20))) (aBin_add _ _) ?_
                    refine sim_get (Tab.enc h18 a_) (fun m449 a448 hi450 hm451 => ?_)
                    refine sim_let (v := AV.agg [iv a448.x, iv a448.y, iv a448.d]) ((Tab.enc h18 a_).ld hm451 true 3 0) ?_
                    refine sim_get (Tab.enc h18 b_) (fun m453 a452 hi454 hm455 => ?_)
                    refine sim_let (v := AV.agg [iv a452.x, iv a452.y, iv a452.d]) ((Tab.enc h18 b_).ld hm455 true 3 0) ?_
                    refine sim_callQ2 he_spec_l09Cost (snapD_nr _ a448 rfl) (snapD_nr _ a452 rfl) (fun c456 => ?_)
                    refine sim_let2 (hand_plain (by rfl) _ _) ?_
                    refine sim_let (v := iv (wr (c436 + c456))) (aBin_add _ _) ?_
                    refine sim_get (O19.tab (A := Int) (s := w17) 0 rfl) (fun m458 a457 hi459 hm460 => ?_)
                    refine sim_set (A := Int) O19 0 (wr (c436 + c456)) rfl hi459 hm460 rfl (by simp) (by first | rfl | simp) (by first | rfl | simp [splice]) (fun h461 O462 => ?_)
                    replace O462 : Hold B h461 [(x1, obS ((setS w17 (wr ((wr (w9 * (((b_.getD []).length : Nat) : Int))) + w20)) (wr (c436 + c456))) : Sl Int))] := O462
                    refine sim_let (v := iv (wr (w20 + 1))) (aBin_add _ _) ?_
                    exact sim_ret ⟨rfl, rfl, O462⟩
              · refine sim_let (v := bv (decide (c430 = 1000000000))) (aCmp_eq _ _) ?_
                refine sim_guardF (e := bv) (fun hb464 => ?_) (fun c466 => ?_)
                · refine sim_let (v := iv (wr (w9 - w20))) (aBin_sub _ _) ?_
                  refine sim_call1 he_spec_l09Size (snapD_int _ _) (fun c465 => ?_)
                  refine sim_let2 (hand_plain (by rfl) _ _) ?_
                  refine sim_let (v := bv (decide (band_ < c465))) (aBin_gtr _ _) ?_
                  exact sim_ret rfl
                · refine sim_let (v := bv (bif decide (c430 = 1000000000) then true else c466)) (pick_b' _ _ _) ?_
                  refine sim_cond (fun c467 => ?_) (fun c467 => ?_)
                  · refine sim_let (v := iv (wr (w9 * (((b_.getD []).length : Nat) : Int)))) (aBin_mul _ _) ?_
                    refine sim_let (v := iv (wr ((wr (w9 * (((b_.getD []).length : Nat) : Int))) + w20))) (aBin_add _ _) ?_
                    refine sim_get (O19.tab (A := Int) (s := w17) 0 rfl) (fun m469 a468 hi470 hm471 => ?_)
                    refine sim_set (A := Int) O19 0 1000000000 rfl hi470 hm471 rfl (by simp) (by first | rfl | simp) (by first | rfl | simp [splice]) (fun h472 O473 => ?_)
                    replace O473 : Hold B h472 [(x1, obS ((setS w17 (wr ((wr (w9 * (((b_.getD []).length : Nat) : Int))) + w20)) 1000000000) : Sl Int))] := O473
                    refine sim_let (v := iv (wr (w20 + 1))) (aBin_add _ _) ?_
                    exact sim_ret ⟨rfl, rfl, O473⟩
                  · refine sim_let (v := iv (wr (w9 * (((b_.getD []).length : Nat) : Int)))) (aBin_mul _ _) ?_
                    refine sim_let (v := iv (wr ((wr (w9 * (((b_.getD []).length : Nat) : Int))) + w20))) (aBin_add _ _) ?_
                    refine sim_get (Tab.enc h18 a_) (fun m476 a475 hi477 hm478 => ?_)
                    refine sim_let (v := AV.agg [iv a475.x, iv a475.y, iv a475.d]) ((Tab.enc h18 a_).ld hm478 true 3 0) ?_
                    refine sim_get (Tab.enc h18 b_) (fun m480 a479 hi481 hm482 => ?_)
                    refine sim_let (v := AV.agg [iv a479.x, iv a479.y, iv a479.d]) ((Tab.enc h18 b_).ld hm482 true 3 0) ?_
                    refine sim_callQ2 he_spec_l09Cost (snapD_nr _ a475 rfl) (snapD_nr _ a479 rfl) (fun c483 => ?_)
                    refine sim_let2 (hand_plain (by rfl) _ _) ?_
                    refine sim_let (v := iv (wr (c430 + c483))) (aBin_add _ _) ?_
                    refine sim_get (O19.tab (A := Int) (s := w17) 0 rfl) (fun m485 a484 hi486 hm487 => ?_)
                    refine sim_set (A := Int) O19 0 (wr (c430 + c483)) rfl hi486 hm487 rfl (by simp) (by first | rfl | simp) (by first | rfl | simp [splice]) (fun h488 O489 => ?_)
                    replace O489 : Hold B h488 [(x1, obS ((setS w17 (wr ((wr (w9 * (((b_.getD []).length : Nat) : Int))) + w20)) (wr (c430 + c483))) : Sl Int))] := O489
                    refine sim_let (v := iv (wr (w20 + 1))) (aBin_add _ _) ?_
                    exact sim_ret ⟨rfl, rfl, O489⟩
            · refine sim_let (v := bv (decide (0 < w20))) (aBin_gtr _ _) ?_
              refine sim_cond (fun c491 => ?_) (fun c491 => ?_)
              · refine sim_let (v := iv (wr (w9 * (((b_.getD []).length : Nat) : Int)))) (aBin_mul _ _) ?_
                refine sim_let (v := iv (wr ((wr (w9 * (((b_.getD []).length : Nat) : Int))) + w20))) (aBin_add _ _) ?_
                refine sim_let (v := iv (wr ((wr ((wr (w9 * (((b_.getD []).length : Nat) : Int))) + w20)) - 1))) (aBin_sub _ _) ?_
                refine sim_get (O19.tab (A := Int) (s := w17) 0 rfl) (fun m493 a492 hi494 hm495 => ?_)
                refine sim_let (v := iv a492) ((O19.tab (A := Int) (s := w17) 0 rfl).ld hm495 false 1 0) ?_
                refine sim_callV2 (t := (fun a b : Int => min a b)) he_spec_l00Min (snapD_int _ _) (snapD_int _ _) (fun c496 => ?_)
                refine sim_let (v := bv (decide (c496 = 1000000000))) (aCmp_eq _ _) ?_
                refine sim_guardF (e := bv) (fun hb497 => ?_) (fun c499 => ?_)
                · refine sim_let (v := iv (wr (w9 - w20))) (aBin_sub _ _) ?_
                  refine sim_call1 he_spec_l09Size (snapD_int _ _) (fun c498 => ?_)
                  refine sim_let2 (hand_plain (by rfl) _ _) ?_
                  refine sim_let (v := bv (decide (band_ < c498))) (aBin_gtr _ _) ?_
                  exact sim_ret rfl
                · refine sim_let (v := bv (bif decide (c496 = 1000000000) then true else c499)) (pick_b' _ _ _) ?_
                  refine sim_cond (fun c500 => ?_) (fun c500 => ?_)
                  · refine sim_let (v := iv (wr (w9 * (((b_.getD []).length : Nat) : Int)))) (aBin_mul _ _) ?_
                    refine sim_let (v := iv (wr ((wr (w9 * (((b_.getD []).length : Nat) : Int))) + w20))) (aBin_add _ _) ?_
                    refine sim_get (O19.tab (A := Int) (s := w17) 0 rfl) (fun m502 a501 hi503 hm504 => ?_)
                    refine sim_set (A := Int) O19 0 1000000000 rfl hi503 hm504 rfl (by simp) (by first | rfl | simp) (by first | rfl | simp [splice]) (fun h505 O506 => ?_)
                    replace O506 : Hold B h505 [(x1, obS ((setS w17 (wr ((wr (w9 * (((b_.getD []).length : Nat) : Int))) + w20)) 1000000000) : Sl Int))] := O506
                    refine sim_let (v := iv (wr (w20 + 1))) (aBin_add _ _) ?_
                    exact sim_ret ⟨rfl, rfl, O506⟩
                  · refine sim_let (v := iv (wr (w9 * (((b_.getD []).length : Nat) : Int)))) (aBin_mul _ _) ?_
                    refine sim_let (v := iv (wr ((wr (w9 * (((b_.getD []).length : Nat) : Int))) + w20))) (aBin_add _ _) ?_
                    refine sim_get (Tab.enc h18 a_) (fun m509 a508 hi510 hm511 => ?_)
                    refine sim_let (v := AV.agg [iv a508.x, iv a508.y, iv a508.d]) ((Tab.enc h18 a_).ld hm511 true 3 0) ?_
                    refine sim_get (Tab.enc h18 b_) (fun m513 a512 hi514 hm515 => ?_)
                    refine sim_let (v := AV.agg [iv a512.x, iv a512.y, iv a512.d]) ((Tab.enc h18 b_).ld hm515 true 3 0) ?_
                    refine sim_callQ2 he_spec_l09Cost (snapD_nr _ a508 rfl) (snapD_nr _ a512 rfl) (fun c516 => ?_)
                    refine sim_let2 (hand_plain (by rfl) _ _) ?_
                    refine sim_let (v := iv (wr (c496 + c516))) (aBin_add _ _) ?_
                    refine sim_get (O19.tab (A := Int) (s := w17) 0 rfl) (fun m518 a517 hi519 hm520 => ?_)
                    refine sim_set (A := Int) O19 0 (wr (c496 + c516)) rfl hi519 hm520 rfl (by simp) (by first | rfl | simp) (by first | rfl | simp [splice]) (fun h521 O522 => ?_)
                    replace O522 : Hold B h521 [(x1, obS ((setS w17 (wr ((wr (w9 * (((b_.getD []).length : Nat) : Int))) + w20)) (wr (c496 + c516))) : Sl Int))] := O522
                    refine sim_let (v := iv (wr (w20 + 1))) (aBin_add _ _) ?_
                    exact sim_ret ⟨rfl, rfl, O522⟩
              · refine sim_let (v := bv (decide (1000000000 = 1000000000))) (aCmp_eq _ _) ?_
                refine sim_guardF (e := bv) (fun hb524 => ?_) (fun c526 => ?_)
                · refine sim_let (v := iv (wr (w9 - w20))) (aBin_sub _ _) ?_
                  refine sim_call1 he_spec_l09Size (snapD_int _ _) (fun c525 => ?_)
                  refine sim_let2 (hand_plain (by rfl) _ _) ?_
                  refine sim_let (v := bv (decide (band_ < c525))) (aBin_gtr _ _) ?_
                  exact sim_ret rfl
                · refine sim_let (v := bv (bif decide (1000000000 = 1000000000) then true else c526)) (pick_b' _ _ _) ?_
                  refine sim_cond (fun c527 => ?_) (fun c527 => ?_)
                  · refine sim_let (v := iv (wr (w9 * (((b_.getD []).length : Nat) : Int)))) (aBin_mul _ _) ?_
                    refine sim_let (v := iv (wr ((wr (w9 * (((b_.getD []).length : Nat) : Int))) + w20))) (aBin_add _ _) ?_
                    refine sim_get (O19.tab (A := Int) (s := w17) 0 rfl) (fun m529 a528 hi530 hm531 => ?_)
                    refine sim_set (A := Int) O19 0 1000000000 rfl hi530 hm531 rfl (by simp) (by first | rfl | simp) (by first | rfl | simp [splice]) (fun h532 O533 => ?_)
                    replace O533 : Hold B h532 [(x1, obS ((setS w17 (wr ((wr (w9 * (((b_.getD []).length : Nat) : Int))) + w20)) 1000000000) : Sl Int))] := O533
                    refine sim_let (v := iv (wr (w20 + 1))) (aBin_add _ _) ?_
                    exact sim_ret ⟨rfl, rfl, O533⟩
                  · refine sim_let (v := iv (wr (w9 * (((b_.getD []).length : Nat) : Int)))) (aBin_mul _ _) ?_
                    refine sim_let (v := iv (wr ((wr (w9 * (((b_.getD []).length : Nat) : Int))) + w20))) (aBin_add _ _) ?_
                    refine sim_get (Tab.enc h18 a_) (fun m536 a535 hi537 hm538 => ?_)
                    refine sim_let (v := AV.agg [iv a535.x, iv a535.y, iv a535.d]) ((Tab.enc h18 a_).ld hm538 true 3 0) ?_
                    refine sim_get (Tab.enc h18 b_) (fun m540 a539 hi541 hm542 => ?_)
                    refine sim_let (v := AV.agg [iv a539.x, iv a539.y, iv a539.d]) ((Tab.enc h18 b_).ld hm542 true 3 0) ?_
                    refine sim_callQ2 he_spec_l09Cost (snapD_nr _ a535 rfl) (snapD_nr _ a539 rfl) (fun c543 => ?_)
                    refine sim_let2 (hand_plain (by rfl) _ _) ?_
                    refine sim_let (v := iv (wr (1000000000 + c543))) (aBin_add _ _) ?_
                    refine sim_get (O19.tab (A := Int) (s := w17) 0 rfl) (fun m545 a544 hi546 hm547 => ?_)
                    refine sim_set (A := Int) O19 0 (wr (1000000000 + c543)) rfl hi546 hm547 rfl (by simp) (by first | rfl | simp) (by first | rfl | simp [splice]) (fun h548 O549 => ?_)
                    replace O549 : Hold B h548 [(x1, obS ((setS w17 (wr ((wr (w9 * (((b_.getD []).length : Nat) : Int))) + w20)) (wr (1000000000 + c543))) : Sl Int))] := O549
                    refine sim_let (v := iv (wr (w20 + 1))) (aBin_add _ _) ?_
                    exact sim_ret ⟨rfl, rfl, O549⟩
  · exact sim_ret ⟨nofun, _, _, _, rfl, O19⟩
theorem tl0_spec_l09Table (env : Nat → Contract) {B : Base} (he_spec_l00Min : env n_spec_l00Min = .pure (T2 (fun a b : Int => min a b))) (he_spec_l09Cost : env n_spec_l09Cost = .pure (C2 (fun c : Int => enc c) t_spec_l09Cost)) (he_spec_l09Size : env n_spec_l09Size = .pure (C1 (fun c : Int => enc c) t_spec_l09Size)) (a_ : Sl Feat) (b_ : Sl Feat) (band_ : Int) (x1 : AV)  {st : (Sl Int) × Int} {tm : TM} {h : Heap} (R : (fun (st : (Sl Int) × Int) tm h7 => match st with | (w6, w9) => tm = ((Sl.enc a_) :: (Sl.enc b_) :: (iv band_) :: und :: und :: und :: nilS :: (iv (((a_.getD []).length : Nat) : Int)) :: (iv (((b_.getD []).length : Nat) : Int)) :: x1 :: (iv w9) :: AV.top :: AV.top :: (Sl.enc a_) :: (iv (((a_.getD []).length : Nat) : Int)) :: (Sl.enc b_) :: (iv (((b_.getD []).length : Nat) : Int)) :: (iv (((a_.getD []).length : Nat) : Int)) :: (iv (((b_.getD []).length : Nat) : Int)) :: (iv (wr ((((a_.getD []).length : Nat) : Int) * (((b_.getD []).length : Nat) : Int)))) :: x1 :: AV.top :: AV.top :: AV.top :: AV.top :: AV.top :: AV.top :: AV.top :: AV.top :: AV.top :: AV.top :: AV.top :: AV.top :: AV.top :: AV.top :: AV.top :: AV.top :: AV.top :: AV.top :: AV.top :: AV.top :: AV.top :: AV.top :: AV.top :: AV.top :: AV.top :: AV.top :: AV.top :: AV.top :: AV.top :: AV.top :: AV.top :: AV.top :: AV.top :: AV.top :: AV.top :: AV.top :: AV.top :: AV.top :: AV.top :: AV.top :: AV.top :: AV.top :: AV.top :: AV.top :: AV.top :: AV.top :: AV.top :: AV.top :: AV.top :: AV.top :: AV.top :: AV.top :: AV.top :: AV.top :: AV.top :: AV.top :: AV.top :: AV.top :: AV.top :: AV.top :: AV.top :: AV.top :: AV.top :: AV.top :: AV.top :: AV.top :: AV.top :: AV.top :: AV.top :: AV.top :: AV.top :: AV.top :: AV.top :: AV.top :: AV.top :: AV.top :: AV.top :: AV.top :: AV.top :: AV.top :: AV.top :: AV.top :: AV.top :: AV.top :: AV.top :: AV.top :: AV.top :: AV.top :: AV.top :: AV.top :: AV.top :: AV.top :: AV.top :: AV.top :: AV.top :: und :: []) ∧ Hold B h7 [(x1, obS (w6 : Sl Int))]) st tm h) : Sim (loopP hm0_spec_l09Table xm0_spec_l09Table (lb0_spec_l09Table env) tm h) (loopT (s0_spec_l09Table a_ b_ band_) st) (fun (q : Sl Int) (r : Res) => match q with | q12 => ∃ (q13 : Int) (z14 : AV) (z15 : AV) (h10 : Heap), r = (.exit 0, ((Sl.enc a_) :: (Sl.enc b_) :: (iv band_) :: und :: und :: und :: nilS :: (iv (((a_.getD []).length : Nat) : Int)) :: (iv (((b_.getD []).length : Nat) : Int)) :: x1 :: (iv q13) :: z14 :: z15 :: (Sl.enc a_) :: (iv (((a_.getD []).length : Nat) : Int)) :: (Sl.enc b_) :: (iv (((b_.getD []).length : Nat) : Int)) :: (iv (((a_.getD []).length : Nat) : Int)) :: (iv (((b_.getD []).length : Nat) : Int)) :: (iv (wr ((((a_.getD []).length : Nat) : Int) * (((b_.getD []).length : Nat) : Int)))) :: x1 :: AV.top :: AV.top :: AV.top :: AV.top :: AV.top :: AV.top :: AV.top :: AV.top :: AV.top :: AV.top :: AV.top :: AV.top :: AV.top :: AV.top :: AV.top :: AV.top :: AV.top :: AV.top :: AV.top :: AV.top :: AV.top :: AV.top :: AV.top :: AV.top :: AV.top :: AV.top :: AV.top :: AV.top :: AV.top :: AV.top :: AV.top :: AV.top :: AV.top :: AV.top :: AV.top :: AV.top :: AV.top :: AV.top :: AV.top :: AV.top :: AV.top :: AV.top :: AV.top :: AV.top :: AV.top :: AV.top :: AV.top :: AV.top :: AV.top :: AV.top :: AV.top :: AV.top :: AV.top :: AV.top :: AV.top :: AV.top :: AV.top :: AV.top :: AV.top :: AV.top :: AV.top :: AV.top :: AV.top :: AV.top :: AV.top :: AV.top :: AV.top :: AV.top :: AV.top :: AV.top :: AV.top :: AV.top :: AV.top :: AV.top :: AV.top :: AV.top :: AV.top :: AV.top :: AV.top :: AV.top :: AV.top :: AV.top :: AV.top :: AV.top :: AV.top :: AV.top :: AV.top :: AV.top :: AV.top :: AV.top :: AV.top :: AV.top :: AV.top :: AV.top :: AV.top :: und :: []), h10) ∧ Hold B h10 [(x1, obS (q12 : Sl Int))]) := by
  refine loop_sim (Rel := fun (st : (Sl Int) × Int) tm h7 => match st with | (w6, w9) => tm = ((Sl.enc a_) :: (Sl.enc b_) :: (iv band_) :: und :: und :: und :: nilS :: (iv (((a_.getD []).length : Nat) : Int)) :: (iv (((b_.getD []).length : Nat) : Int)) :: x1 :: (iv w9) :: AV.top :: AV.top :: (Sl.enc a_) :: (iv (((a_.getD []).length : Nat) : Int)) :: (Sl.enc b_) :: (iv (((b_.getD []).length : Nat) : Int)) :: (iv (((a_.getD []).length : Nat) : Int)) :: (iv (((b_.getD []).length : Nat) : Int)) :: (iv (wr ((((a_.getD []).length : Nat) : Int) * (((b_.getD []).length : Nat) : Int)))) :: x1 :: AV.top :: AV.top :: AV.top :: AV.top :: AV.top :: AV.top :: AV.top :: AV.top :: AV.top :: AV.top :: AV.top :: AV.top :: AV.top :: AV.top :: AV.top :: AV.top :: AV.top :: AV.top :: AV.top :: AV.top :: AV.top :: AV.top :: AV.top :: AV.top :: AV.top :: AV.top :: AV.top :: AV.top :: AV.top :: AV.top :: AV.top :: AV.top :: AV.top :: AV.top :: AV.top :: AV.top :: AV.top :: AV.top :: AV.top :: AV.top :: AV.top :: AV.top :: AV.top :: AV.top :: AV.top :: AV.top :: AV.top :: AV.top :: AV.top :: AV.top :: AV.top :: AV.top :: AV.top :: AV.top :: AV.top :: AV.top :: AV.top :: AV.top :: AV.top :: AV.top :: AV.top :: AV.top :: AV.top :: AV.top :: AV.top :: AV.top :: AV.top :: AV.top :: AV.top :: AV.top :: AV.top :: AV.top :: AV.top :: AV.top :: AV.top :: AV.top :: AV.top :: AV.top :: AV.top :: AV.top :: AV.top :: AV.top :: AV.top :: AV.top :: AV.top :: AV.top :: AV.top :: AV.top :: AV.top :: AV.top :: AV.top :: AV.top :: AV.top :: AV.top :: AV.top :: und :: []) ∧ Hold B h7 [(x1, obS (w6 : Sl Int))]) (fun st tm h7 R => ?_) R
  obtain ⟨w6, w9⟩ := st
  obtain ⟨rfl, O8⟩ := R
  rw [e_lb0_spec_l09Table]
  unfold s0_spec_l09Table
  dsimp only
  refine sim_let (v := bv (decide (w9 < (((a_.getD []).length : Nat) : Int)))) (aBin_lss _ _) ?_
  refine sim_cond (fun c16 => ?_) (fun c16 => ?_)
  · refine sim_bind ((tl1_spec_l09Table env he_spec_l00Min he_spec_l09Cost he_spec_l09Size a_ b_ band_ x1 w9) ⟨rfl, O8⟩) (fun qq553 r hq => ?_)
    revert hq
    revert qq553
    intro q23 hq
    obtain ⟨q24, z25, h21, rfl, O22⟩ := hq
    rw [e_lk1x2_spec_l09Table]
    refine sim_let (v := iv (wr (w9 + 1))) (aBin_add _ _) ?_
    exact sim_ret ⟨rfl, rfl, O22⟩
  · exact sim_ret ⟨nofun, _, _, _, _, rfl, O8⟩
theorem ts_spec_l09Table (env : Nat → Contract) (he_spec_l00Min : env n_spec_l00Min = .pure (T2 (fun a b : Int => min a b))) (he_spec_l09Cost : env n_spec_l09Cost = .pure (C2 (fun c : Int => enc c) t_spec_l09Cost)) (he_spec_l09Size : env n_spec_l09Size = .pure (C1 (fun c : Int => enc c) t_spec_l09Size)) (a_ : Sl Feat) (b_ : Sl Feat) (band_ : Int) : Sim (denFn Try.prog env n_spec_l09Table [Sl.enc a_, Sl.enc b_, iv band_] []) (t_spec_l09Table a_ b_ band_) fun c p => release p.2 depth p.1 = some ((fun c : (Sl Int) => rS c) c) := by
  have O := Hold.nil []
  generalize hB : (⟨[], []⟩ : Base) = B at O
  clear hB
  rw [e_spec_l09Table]
  unfold t_spec_l09Table
  refine sim_let (v := iv (((a_.getD []).length : Nat) : Int)) (Tab.enc [] a_).len ?_
  refine sim_let (v := iv (((b_.getD []).length : Nat) : Int)) (Tab.enc [] b_).len ?_
  refine sim_let (v := iv (wr ((((a_.getD []).length : Nat) : Int) * (((b_.getD []).length : Nat) : Int)))) (aBin_mul _ _) ?_
  refine sim_make (A := Int) O 0 rfl (by decide) (fun l5 x1 h2 O3 => ?_)
  replace O3 : Hold B h2 [(x1, obS ((some l5) : Sl Int))] := O3
  refine sim_bind ((tl0_spec_l09Table env he_spec_l00Min he_spec_l09Cost he_spec_l09Size a_ b_ band_ x1) ⟨rfl, O3⟩) (fun qq556 r hq => ?_)
  revert hq
  revert qq556
  intro q12 hq
  obtain ⟨q13, z14, z15, h10, rfl, O11⟩ := hq
  rw [e_lk0x0_spec_l09Table]
  exact sim_ret (O11.rel (A := Int) (s := q12) 0 rfl)
theorem tt_spec_l09Table : PureOK Try.prog n_spec_l09Table (C3 (fun c : (Sl Int) => rS c) t_spec_l09Table) := pureC3 (Econs ok_spec_l00Min (Econs tt_spec_l09Cost (Econs tt_spec_l09Size E0))) mixed hb_spec_l09Table fun a_ b_ band_ => ts_spec_l09Table _ (by simp [envL]) (by simp [envL]) (by simp [envL]) a_ b_ band_

def t_spec_l09Least (a_ : Sl Feat) (b_ : Sl Feat) (band_ : Int) : Option Int :=
  obind (t_spec_l09Table a_ b_ band_) fun c1 =>
  obind (getI (c1.getD []) (wr ((((c1.getD []).length : Nat) : Int) - 1))) fun a6 =>
  some a6

theorem ts_spec_l09Least (env : Nat → Contract) (he_spec_l09Table : env n_spec_l09Table = .pure (C3 (fun c : (Sl Int) => rS c) t_spec_l09Table)) (a_ : Sl Feat) (b_ : Sl Feat) (band_ : Int) : Sim (denFn Try.prog env n_spec_l09Least [Sl.enc a_, Sl.enc b_, iv band_] []) (t_spec_l09Least a_ b_ band_) fun c p => release p.2 depth p.1 = some ((fun c : Int => enc c) c) := by
  have O := Hold.nil []
  generalize hB : (⟨[], []⟩ : Base) = B at O
  clear hB
  rw [e_spec_l09Least]
  unfold t_spec_l09Least
  refine sim_call3 he_spec_l09Table (snapD_enc _ _) (snapD_enc _ _) (snapD_int _ _) (fun c1 => ?_)
  refine sim_hand (A := Int) O (fun x3 h4 O5 => ?_)
  replace O5 : Hold B h4 [(x3, obS (c1 : Sl Int))] := O5
  refine sim_let (v := iv (((c1.getD []).length : Nat) : Int)) (O5.tab (A := Int) (s := c1) 0 rfl).len ?_
  refine sim_let (v := iv (wr ((((c1.getD []).length : Nat) : Int) - 1))) (aBin_sub _ _) ?_
  refine sim_get (O5.tab (A := Int) (s := c1) 0 rfl) (fun m7 a6 hi8 hm9 => ?_)
  refine sim_let (v := iv a6) ((O5.tab (A := Int) (s := c1) 0 rfl).ld hm9 false 1 0) ?_
  exact sim_ret (release_plain (by rfl) _)
theorem tt_spec_l09Least : PureOK Try.prog n_spec_l09Least (C3 (fun c : Int => enc c) t_spec_l09Least) := pureC3 (Econs tt_spec_l09Table E0) mixed hb_spec_l09Least fun a_ b_ band_ => ts_spec_l09Least _ (by simp [envL]) a_ b_ band_

def t_spec_Elastic (a_ : Sl Feat) (b_ : Sl Feat) (band_ : Int) : Option (Int × Int) :=
  obind (t_spec_l09Code a_ b_ band_) fun c1 =>
  bif !decide (c1 = 0) then
    some (0, c1)
  else
    obind (t_spec_l09Least a_ b_ band_) fun c3 =>
    some (c3, 0)

theorem ts_spec_Elastic (env : Nat → Contract) (he_spec_l09Code : env n_spec_l09Code = .pure (C3 (fun c : Int => enc c) t_spec_l09Code)) (he_spec_l09Least : env n_spec_l09Least = .pure (C3 (fun c : Int => enc c) t_spec_l09Least)) (a_ : Sl Feat) (b_ : Sl Feat) (band_ : Int) : Sim (denFn Try.prog env n_spec_Elastic [Sl.enc a_, Sl.enc b_, iv band_] []) (t_spec_Elastic a_ b_ band_) fun c p => release p.2 depth p.1 = some ((fun c : Int × Int => AV.tup [enc c.1, enc c.2]) c) := by
  have O := Hold.nil []
  generalize hB : (⟨[], []⟩ : Base) = B at O
  clear hB
  rw [e_spec_Elastic]
  unfold t_spec_Elastic
  refine sim_call3 he_spec_l09Code (snapD_enc _ _) (snapD_enc _ _) (snapD_int _ _) (fun c1 => ?_)
  refine sim_let2 (hand_plain (by rfl) _ _) ?_
  refine sim_let (v := bv (!decide (c1 = 0))) (aCmp_ne _ _) ?_
  refine sim_cond (fun c2 => ?_) (fun c2 => ?_)
  · exact sim_ret (release_plain (by rfl) _)
  · refine sim_call3 he_spec_l09Least (snapD_enc _ _) (snapD_enc _ _) (snapD_int _ _) (fun c3 => ?_)
    refine sim_let2 (hand_plain (by rfl) _ _) ?_
    exact sim_ret (release_plain (by rfl) _)
theorem tt_spec_Elastic : PureOK Try.prog n_spec_Elastic (C3 (fun c : Int × Int => AV.tup [enc c.1, enc c.2]) t_spec_Elastic) := pureC3 (Econs tt_spec_l09Code (Econs tt_spec_l09Least E0)) mixed hb_spec_Elastic fun a_ b_ band_ => ts_spec_Elastic _ (by simp [envL]) (by simp [envL]) a_ b_ band_

def t_laws_FnParts (code_ : Sl UInt8) (more_ : Sl UInt8) : Option Bool :=
  obind (t_laws_a2Long code_ more_) fun c1 =>
  bif c1 then
    some true
  else
    obind (t_spec_A2Feats code_) fun c3 =>
    obind (t_spec_A2Feats more_) fun c8 =>
    obind (t_impl_PartElastic c3 c8) fun c13 =>
    obind (bif !decide (c13.2.2.2 = 0) then some false else (some (decide (c13.2.1 < 0)))) fun c15 =>
    obind (bif (bif !decide (c13.2.2.2 = 0) then true else c15) then some false else (some (decide (c13.2.2.1 ≤ c13.2.1)))) fun c17 =>
    obind (bif (bif (bif !decide (c13.2.2.2 = 0) then true else c15) then true else c17) then some false else (some (decide ((((c8.getD []).length : Nat) : Int) < c13.2.2.1)))) fun c19 =>
    bif (bif (bif (bif !decide (c13.2.2.2 = 0) then true else c15) then true else c17) then true else c19) then
      some false
    else
      obind (subS c8 (some c13.2.1) (some c13.2.2.1)) fun s22 =>
      obind (t_spec_Elastic c3 s22 72) fun c24 =>
      obind (t_spec_Elastic c3 c8 72) fun c25 =>
      obind (appO (some ([] : List Feat)) (c8.getD [])) fun _ =>
      obind (appO (appS (some ([] : List Feat)) (c8.getD [])) (c3.getD [])) fun _ =>
      obind (t_impl_PartElastic c3 (appS (appS (some ([] : List Feat)) (c8.getD [])) (c3.getD []))) fun c40 =>
      obind (bif decide (c24.2 = 0) then (some (decide (c25.2 = 0))) else some false) fun c42 =>
      obind (bif (bif decide (c24.2 = 0) then c42 else false) then (some (decide (c13.1 = c24.1))) else some false) fun c44 =>
      obind (bif (bif (bif decide (c24.2 = 0) then c42 else false) then c44 else false) then (some (decide (c13.1 ≤ c25.1))) else some false) fun c46 =>
      obind (bif (bif (bif (bif decide (c24.2 = 0) then c42 else false) then c44 else false) then c46 else false) then (some (decide (c40.2.2.2 = 0))) else some false) fun c48 =>
      obind (bif (bif (bif (bif (bif decide (c24.2 = 0) then c42 else false) then c44 else false) then c46 else false) then c48 else false) then (some (decide (c40.1 = 0))) else some false) fun c50 =>
      some (bif (bif (bif (bif (bif decide (c24.2 = 0) then c42 else false) then c44 else false) then c46 else false) then c48 else false) then c50 else false)

end Go.Proofs.Ytdklppipegepdaa
