/-
  Functions that the law FnBounds reaches: their walks and contracts, part 1.
-/
import Derived.Test.YtpdkgjfefhiaiaaFnBoundsGen
namespace Go.Proofs.Ytpdkgjfefhiaiaa
open Go Go.Eng Go.Eng.Cod
set_option maxRecDepth 100000
set_option linter.unusedVariables false
set_option linter.unusedSimpArgs false

theorem nil_ok : EnvOK Try.prog (envL []) := E0

def within (a b c : Int) : Bool := decide (b ≤ a) && decide (a ≤ c)

theorem ok_impl_within : PureOK Try.prog n_impl_within (T3 within) := pureT3 nil_ok mixed hb_impl_within fun a b c => by
  simp [e_impl_within, within]

theorem ok_spec_l00In : PureOK Try.prog n_spec_l00In (T3 within) := pureT3 nil_ok mixed hb_spec_l00In fun a b c => by
  simp [e_spec_l00In, within]

def absI (a : Int) : Int := bif decide (a < 0) then wr (-a) else a

theorem ok_impl_abs : PureOK Try.prog n_impl_abs (T1 absI) := pureT1 nil_ok mixed hb_impl_abs fun a => by
  simp [e_impl_abs, absI]

theorem ok_spec_l00Min : PureOK Try.prog n_spec_l00Min (T2 fun a b : Int => min a b) := pureT2 nil_ok mixed hb_spec_l00Min fun a b => by
  simp [e_spec_l00Min, minI]

theorem ok_spec_l00Max : PureOK Try.prog n_spec_l00Max (T2 fun a b : Int => max a b) := pureT2 nil_ok mixed hb_spec_l00Max fun a b => by
  simp [e_spec_l00Max, maxI]

theorem ok_impl_beyond : PureOK Try.prog n_impl_beyond (T3 fun n lo hi : Int => max (wr (lo - n)) (max (wr (n - hi)) 0)) := pureT3 E0 mixed hb_impl_beyond fun n lo hi => by
  have f3 : ∀ a b c : Int, aFold aMax2 (iv a) [iv b, iv c] = some (iv (max a (max b c))) := by
    intro a b c
    have h1 : aFold aMax2 (iv a) [iv b, iv c] = aFold aMax2 (iv (if b > a then b else a)) [iv c] := rfl
    rw [h1, aFold_max]
    congr 2
    split <;> omega
  simp [e_impl_beyond, f3]

/-- The source of draws: how far it has read, its seed. -/
structure SS where
  at_ : Nat
  w : Int
def srow (q : Sl UInt8) (st : SS) : AObj := ⟨3, [[Sl.enc q, iv (st.at_ : Int), .sc (.int .u64 st.w)]]⟩
theorem store_head (s j k : Nat) (v : AV) (row : List AV) (t : Heap) (h1 : v.cells.length = s) (h2 : j + s ≤ row.length) (h3 : v.cells.all AV.flat = true) : aStore s (.ptr 0 1 0 j) v (⟨k, [row]⟩ :: t) = some (⟨k, [splice row j v.cells]⟩ :: t) := by
  simp only [aStore, List.getElem?_cons_zero, List.length_cons, List.length_nil, Nat.zero_add, if_true]
  rw [if_pos ⟨h1, h2, h3⟩]
  rfl
theorem v_mul (a b : Int) : aBin .mul (.sc (.int .u64 a)) (.sc (.int .u64 b)) = some (.sc (.int .u64 (IntKind.u64.wrap (a * b)))) := (rfl)
theorem v_add (a b : Int) : aBin .add (.sc (.int .u64 a)) (.sc (.int .u64 b)) = some (.sc (.int .u64 (IntKind.u64.wrap (a + b)))) := (rfl)
theorem v_shr40 (a : Int) : aBin .shr (.sc (.int .u64 a)) (.sc (.int .u64 40)) = some (.sc (.int .u64 (a.fdiv (2 ^ 40)))) := (rfl)
theorem v_conv (a : Int) : aConvInt .u64 (iv a) = some (.sc (.int .u64 (IntKind.u64.wrap a))) := (rfl)
theorem v_back (a : Int) : aConvInt .i64 (.sc (.int .u64 a)) = some (iv (wr a)) := (rfl)
theorem v_byte (b : UInt8) : aConvInt .i64 (bt b) = some (iv (b.toNat : Nat)) := by
  have h0 : aConvInt .i64 (bt b) = some (iv (wr (b.toNat : Int))) := rfl
  have := b.toNat_lt
  rw [h0, wr_id (by omega) (by omega)]
theorem v_and (a : Int) : ∃ r : Nat, r ≤ 255 ∧ aBin .and (.sc (.int .u64 a)) (.sc (.int .u64 255)) = some (.sc (.int .u64 (r : Int))) := by
  have h0 : aBin .and (.sc (.int .u64 a)) (.sc (.int .u64 255)) = some (.sc (.int .u64 (IntKind.u64.wrap ((BitVec.ofInt 64 a &&& BitVec.ofInt 64 255).toNat : Nat)))) := rfl
  have h1 : (BitVec.ofInt 64 a &&& BitVec.ofInt 64 255).toNat ≤ 255 := by
    rw [BitVec.toNat_and]
    have : (BitVec.ofInt 64 255).toNat = 255 := by decide
    rw [this]
    exact Nat.and_le_right
  refine ⟨(BitVec.ofInt 64 a &&& BitVec.ofInt 64 255).toNat, h1, ?_⟩
  rw [h0]
  generalize (BitVec.ofInt 64 a &&& BitVec.ofInt 64 255).toNat = r at h1
  congr 3
  simp only [IntKind.wrap, IntKind.bits, IntKind.signed]
  simp only [Bool.false_and, Bool.false_eq_true, if_false]
  omega

/-- What 'l00From' hands out. -/
def fromA (q : Sl UInt8) : AV := .np 3 [[Sl.enc q, iv 0, .sc (.int .u64 0)]] 0 0
theorem ok_spec_l00From : PureOK Try.prog n_spec_l00From (R1 fun q : Sl UInt8 => some (fromA q)) := pureR1 E0 mixed hb_spec_l00From fun q r h => by
  cases h
  apply pureG
  rw [e_spec_l00From]
  cases q <;> rfl
theorem hand_from (q : Sl UInt8) (h : Heap) : hand (fromA q) (noRef depth (Sl.enc q)) h = some (.ptr h.length 1 0 0, h ++ [srow q ⟨0, 0⟩]) := by
  cases q <;> rfl

theorem tt_spec_l00From : PureOK Try.prog n_spec_l00From (C1 fromA (fun q : Sl UInt8 => some q)) := pureR1 E0 mixed hb_spec_l00From fun q r h => by
  cases h
  apply pureG
  rw [e_spec_l00From]
  cases q <;> rfl

def t_laws_a2Long (code_ : Sl UInt8) (more_ : Sl UInt8) : Option Bool :=
  obind (bif decide (3000 < (((code_.getD []).length : Nat) : Int)) then some false else (some (decide (3000 < (((more_.getD []).length : Nat) : Int))))) fun c2 =>
  some (bif decide (3000 < (((code_.getD []).length : Nat) : Int)) then true else c2)

theorem ts_laws_a2Long (env : Nat → Contract)  (code_ : Sl UInt8) (more_ : Sl UInt8) : Sim (denFn Try.prog env n_laws_a2Long [Sl.enc code_, Sl.enc more_] []) (t_laws_a2Long code_ more_) fun c p => release p.2 depth p.1 = some ((fun c : Bool => enc c) c) := by
  have O := Hold.nil []
  generalize hB : (⟨[], []⟩ : Base) = B at O
  clear hB
  rw [e_laws_a2Long]
  unfold t_laws_a2Long
  refine sim_let (v := iv (((code_.getD []).length : Nat) : Int)) (Tab.enc [] code_).len ?_
  refine sim_let (v := bv (decide (3000 < (((code_.getD []).length : Nat) : Int)))) (aBin_gtr _ _) ?_
  refine sim_guardF (e := bv) (fun hb1 => ?_) (fun c2 => ?_)
  · refine sim_let (v := iv (((more_.getD []).length : Nat) : Int)) (Tab.enc [] more_).len ?_
    refine sim_let (v := bv (decide (3000 < (((more_.getD []).length : Nat) : Int)))) (aBin_gtr _ _) ?_
    exact sim_ret rfl
  · refine sim_let (v := bv (bif decide (3000 < (((code_.getD []).length : Nat) : Int)) then true else c2)) (pick_b' _ _ _) ?_
    exact sim_ret (release_plain (by rfl) _)
theorem tt_laws_a2Long : PureOK Try.prog n_laws_a2Long (C2 (fun c : Bool => enc c) t_laws_a2Long) := pureC2 E0 mixed hb_laws_a2Long fun code_ more_ => ts_laws_a2Long _  code_ more_

def t_spec_l00Src_next (s_ : l00Src) : Option (Int × l00Src) :=
  bif decide (s_.pos < (((s_.code.getD []).length : Nat) : Int)) then
    obind (getI (s_.code.getD []) s_.pos) fun a2 =>
    bif decide ((wr (s_.pos + 1)) ≤ (((s_.code.getD []).length : Nat) : Int)) then
      some ((a2.toNat : Int), (⟨s_.code, wr (s_.pos + 1), IntKind.u64.wrap ((IntKind.u64.wrap ((IntKind.u64.wrap (s_.seed * 6364136223846793005)) + (IntKind.u64.wrap (a2.toNat : Int)))) + 1442695040888963407)⟩ : l00Src))
    else
      some (wr (IntKind.u64.wrap ((BitVec.ofInt 64 (Int.fdiv (IntKind.u64.wrap ((IntKind.u64.wrap ((IntKind.u64.wrap (s_.seed * 6364136223846793005)) + (IntKind.u64.wrap (a2.toNat : Int)))) + 1442695040888963407)) (2 ^ 40)) &&& BitVec.ofInt 64 255).toNat : Nat)), (⟨s_.code, wr (s_.pos + 1), IntKind.u64.wrap ((IntKind.u64.wrap ((IntKind.u64.wrap (s_.seed * 6364136223846793005)) + (IntKind.u64.wrap (a2.toNat : Int)))) + 1442695040888963407)⟩ : l00Src))
  else
    bif decide ((wr (s_.pos + 1)) ≤ (((s_.code.getD []).length : Nat) : Int)) then
      some (0, (⟨s_.code, wr (s_.pos + 1), IntKind.u64.wrap ((IntKind.u64.wrap ((IntKind.u64.wrap (s_.seed * 6364136223846793005)) + (IntKind.u64.wrap 0))) + 1442695040888963407)⟩ : l00Src))
    else
      some (wr (IntKind.u64.wrap ((BitVec.ofInt 64 (Int.fdiv (IntKind.u64.wrap ((IntKind.u64.wrap ((IntKind.u64.wrap (s_.seed * 6364136223846793005)) + (IntKind.u64.wrap 0))) + 1442695040888963407)) (2 ^ 40)) &&& BitVec.ofInt 64 255).toNat : Nat)), (⟨s_.code, wr (s_.pos + 1), IntKind.u64.wrap ((IntKind.u64.wrap ((IntKind.u64.wrap (s_.seed * 6364136223846793005)) + (IntKind.u64.wrap 0))) + 1442695040888963407)⟩ : l00Src))

theorem ts_spec_l00Src_next (env : Nat → Contract)  {B : Base} {h : Heap} {o_ : Nat} (s_ : l00Src) (O : Hold B h [(AV.ptr o_ 1 0 0, .pt 3 [Sl.enc s_.code, iv s_.pos, AV.sc (.int .u64 s_.seed)])]) : Sim (denFn Try.prog env n_spec_l00Src_next [AV.ptr o_ 1 0 0] h) (t_spec_l00Src_next s_) (fun c p => p.1 = iv c.1 ∧ Hold B p.2 ([(AV.ptr o_ 1 0 0, .pt 3 [Sl.enc c.2.code, iv c.2.pos, AV.sc (.int .u64 c.2.seed)])])) := by
  rw [e_spec_l00Src_next]
  unfold t_spec_l00Src_next
  refine sim_let (v := AV.ptr o_ 1 0 0) rfl ?_
  refine sim_let (v := AV.ptr o_ 1 0 1) rfl ?_
  refine sim_let (v := iv s_.pos) (O.ld 0 rfl false 1 1) ?_
  refine sim_let (v := AV.ptr o_ 1 0 0) rfl ?_
  refine sim_let (v := AV.ptr o_ 1 0 0) rfl ?_
  refine sim_let (v := Sl.enc s_.code) (O.ld 0 rfl false 1 0) ?_
  refine sim_let (v := iv (((s_.code.getD []).length : Nat) : Int)) (Tab.enc h s_.code).len ?_
  refine sim_let (v := bv (decide (s_.pos < (((s_.code.getD []).length : Nat) : Int)))) (aBin_lss _ _) ?_
  refine sim_cond (fun c1 => ?_) (fun c1 => ?_)
  · refine sim_let (v := AV.ptr o_ 1 0 0) rfl ?_
    refine sim_let (v := AV.ptr o_ 1 0 0) rfl ?_
    refine sim_let (v := Sl.enc s_.code) (O.ld 0 rfl false 1 0) ?_
    refine sim_let (v := AV.ptr o_ 1 0 0) rfl ?_
    refine sim_let (v := AV.ptr o_ 1 0 1) rfl ?_
    refine sim_let (v := iv s_.pos) (O.ld 0 rfl false 1 1) ?_
    refine sim_get (Tab.enc h s_.code) (fun m3 a2 hi4 hm5 => ?_)
    refine sim_let (v := bt a2) ((Tab.enc h s_.code).ld hm5 false 1 0) ?_
    refine sim_let (v := iv (a2.toNat : Int)) (conv_byte _) ?_
    refine sim_let (v := AV.ptr o_ 1 0 0) rfl ?_
    refine sim_let (v := AV.ptr o_ 1 0 1) rfl ?_
    refine sim_let (v := iv s_.pos) (O.ld 0 rfl false 1 1) ?_
    refine sim_let (v := iv (wr (s_.pos + 1))) (aBin_add _ _) ?_
    refine sim_let (v := AV.ptr o_ 1 0 0) rfl ?_
    refine sim_let (v := AV.ptr o_ 1 0 1) rfl ?_
    refine sim_store O 0 (cs' := [Sl.enc s_.code, iv (wr (s_.pos + 1)), AV.sc (.int .u64 s_.seed)]) rfl (by first | rfl | simp) (by simp) (by first | rfl | simp) (by first | rfl | simp [splice]) (fun h6 O7 => ?_)
    replace O7 : Hold B h6 [(AV.ptr o_ 1 0 0, .pt 3 [Sl.enc s_.code, iv (wr (s_.pos + 1)), AV.sc (.int .u64 s_.seed)])] := O7
    refine sim_let (v := AV.ptr o_ 1 0 0) rfl ?_
    refine sim_let (v := AV.ptr o_ 1 0 2) rfl ?_
    refine sim_let (v := AV.sc (.int .u64 s_.seed)) (O7.ld 0 rfl false 1 2) ?_
    refine sim_let (v := AV.sc (.int .u64 (IntKind.u64.wrap (s_.seed * 6364136223846793005)))) rfl ?_
    refine sim_let (v := AV.sc (.int .u64 (IntKind.u64.wrap (a2.toNat : Int)))) rfl ?_
    refine sim_let (v := AV.sc (.int .u64 (IntKind.u64.wrap ((IntKind.u64.wrap (s_.seed * 6364136223846793005)) + (IntKind.u64.wrap (a2.toNat : Int)))))) rfl ?_
    refine sim_let (v := AV.sc (.int .u64 (IntKind.u64.wrap ((IntKind.u64.wrap ((IntKind.u64.wrap (s_.seed * 6364136223846793005)) + (IntKind.u64.wrap (a2.toNat : Int)))) + 1442695040888963407)))) rfl ?_
    refine sim_let (v := AV.ptr o_ 1 0 0) rfl ?_
    refine sim_let (v := AV.ptr o_ 1 0 2) rfl ?_
    refine sim_store O7 0 (cs' := [Sl.enc s_.code, iv (wr (s_.pos + 1)), AV.sc (.int .u64 (IntKind.u64.wrap ((IntKind.u64.wrap ((IntKind.u64.wrap (s_.seed * 6364136223846793005)) + (IntKind.u64.wrap (a2.toNat : Int)))) + 1442695040888963407)))]) rfl (by first | rfl | simp) (by simp) (by first | rfl | simp) (by first | rfl | simp [splice]) (fun h8 O9 => ?_)
    replace O9 : Hold B h8 [(AV.ptr o_ 1 0 0, .pt 3 [Sl.enc s_.code, iv (wr (s_.pos + 1)), AV.sc (.int .u64 (IntKind.u64.wrap ((IntKind.u64.wrap ((IntKind.u64.wrap (s_.seed * 6364136223846793005)) + (IntKind.u64.wrap (a2.toNat : Int)))) + 1442695040888963407)))])] := O9
    refine sim_let (v := AV.ptr o_ 1 0 0) rfl ?_
    refine sim_let (v := AV.ptr o_ 1 0 1) rfl ?_
    refine sim_let (v := iv (wr (s_.pos + 1))) (O9.ld 0 rfl false 1 1) ?_
    refine sim_let (v := AV.ptr o_ 1 0 0) rfl ?_
    refine sim_let (v := AV.ptr o_ 1 0 0) rfl ?_
    refine sim_let (v := Sl.enc s_.code) (O9.ld 0 rfl false 1 0) ?_
    refine sim_let (v := iv (((s_.code.getD []).length : Nat) : Int)) (Tab.enc h8 s_.code).len ?_
    refine sim_let (v := bv (decide ((wr (s_.pos + 1)) ≤ (((s_.code.getD []).length : Nat) : Int)))) (aBin_leq _ _) ?_
    refine sim_cond (fun c10 => ?_) (fun c10 => ?_)
    · exact sim_ret ⟨rfl, O9⟩
    · refine sim_let (v := AV.ptr o_ 1 0 0) rfl ?_
      refine sim_let (v := AV.ptr o_ 1 0 2) rfl ?_
      refine sim_let (v := AV.sc (.int .u64 (IntKind.u64.wrap ((IntKind.u64.wrap ((IntKind.u64.wrap (s_.seed * 6364136223846793005)) + (IntKind.u64.wrap (a2.toNat : Int)))) + 1442695040888963407)))) (O9.ld 0 rfl false 1 2) ?_
      refine sim_let (v := AV.sc (.int .u64 (Int.fdiv (IntKind.u64.wrap ((IntKind.u64.wrap ((IntKind.u64.wrap (s_.seed * 6364136223846793005)) + (IntKind.u64.wrap (a2.toNat : Int)))) + 1442695040888963407)) (2 ^ 40)))) rfl ?_
      refine sim_let (v := AV.sc (.int .u64 (IntKind.u64.wrap ((BitVec.ofInt 64 (Int.fdiv (IntKind.u64.wrap ((IntKind.u64.wrap ((IntKind.u64.wrap (s_.seed * 6364136223846793005)) + (IntKind.u64.wrap (a2.toNat : Int)))) + 1442695040888963407)) (2 ^ 40)) &&& BitVec.ofInt 64 255).toNat : Nat)))) rfl ?_
      refine sim_let (v := iv (wr (IntKind.u64.wrap ((BitVec.ofInt 64 (Int.fdiv (IntKind.u64.wrap ((IntKind.u64.wrap ((IntKind.u64.wrap (s_.seed * 6364136223846793005)) + (IntKind.u64.wrap (a2.toNat : Int)))) + 1442695040888963407)) (2 ^ 40)) &&& BitVec.ofInt 64 255).toNat : Nat)))) rfl ?_
      exact sim_ret ⟨rfl, O9⟩
  · refine sim_let (v := AV.ptr o_ 1 0 0) rfl ?_
    refine sim_let (v := AV.ptr o_ 1 0 1) rfl ?_
    refine sim_let (v := iv s_.pos) (O.ld 0 rfl false 1 1) ?_
    refine sim_let (v := iv (wr (s_.pos + 1))) (aBin_add _ _) ?_
    refine sim_let (v := AV.ptr o_ 1 0 0) rfl ?_
    refine sim_let (v := AV.ptr o_ 1 0 1) rfl ?_
    refine sim_store O 0 (cs' := [Sl.enc s_.code, iv (wr (s_.pos + 1)), AV.sc (.int .u64 s_.seed)]) rfl (by first | rfl | simp) (by simp) (by first | rfl | simp) (by first | rfl | simp [splice]) (fun h13 O14 => ?_)
    replace O14 : Hold B h13 [(AV.ptr o_ 1 0 0, .pt 3 [Sl.enc s_.code, iv (wr (s_.pos + 1)), AV.sc (.int .u64 s_.seed)])] := O14
    refine sim_let (v := AV.ptr o_ 1 0 0) rfl ?_
    refine sim_let (v := AV.ptr o_ 1 0 2) rfl ?_
    refine sim_let (v := AV.sc (.int .u64 s_.seed)) (O14.ld 0 rfl false 1 2) ?_
    refine sim_let (v := AV.sc (.int .u64 (IntKind.u64.wrap (s_.seed * 6364136223846793005)))) rfl ?_
    refine sim_let (v := AV.sc (.int .u64 (IntKind.u64.wrap 0))) rfl ?_
    refine sim_let (v := AV.sc (.int .u64 (IntKind.u64.wrap ((IntKind.u64.wrap (s_.seed * 6364136223846793005)) + (IntKind.u64.wrap 0))))) rfl ?_
    refine sim_let (v := AV.sc (.int .u64 (IntKind.u64.wrap ((IntKind.u64.wrap ((IntKind.u64.wrap (s_.seed * 6364136223846793005)) + (IntKind.u64.wrap 0))) + 1442695040888963407)))) rfl ?_
    refine sim_let (v := AV.ptr o_ 1 0 0) rfl ?_
    refine sim_let (v := AV.ptr o_ 1 0 2) rfl ?_
    refine sim_store O14 0 (cs' := [Sl.enc s_.code, iv (wr (s_.pos + 1)), AV.sc (.int .u64 (IntKind.u64.wrap ((IntKind.u64.wrap ((IntKind.u64.wrap (s_.seed * 6364136223846793005)) + (IntKind.u64.wrap 0))) + 1442695040888963407)))]) rfl (by first | rfl | simp) (by simp) (by first | rfl | simp) (by first | rfl | simp [splice]) (fun h15 O16 => ?_)
    replace O16 : Hold B h15 [(AV.ptr o_ 1 0 0, .pt 3 [Sl.enc s_.code, iv (wr (s_.pos + 1)), AV.sc (.int .u64 (IntKind.u64.wrap ((IntKind.u64.wrap ((IntKind.u64.wrap (s_.seed * 6364136223846793005)) + (IntKind.u64.wrap 0))) + 1442695040888963407)))])] := O16
    refine sim_let (v := AV.ptr o_ 1 0 0) rfl ?_
    refine sim_let (v := AV.ptr o_ 1 0 1) rfl ?_
    refine sim_let (v := iv (wr (s_.pos + 1))) (O16.ld 0 rfl false 1 1) ?_
    refine sim_let (v := AV.ptr o_ 1 0 0) rfl ?_
    refine sim_let (v := AV.ptr o_ 1 0 0) rfl ?_
    refine sim_let (v := Sl.enc s_.code) (O16.ld 0 rfl false 1 0) ?_
    refine sim_let (v := iv (((s_.code.getD []).length : Nat) : Int)) (Tab.enc h15 s_.code).len ?_
    refine sim_let (v := bv (decide ((wr (s_.pos + 1)) ≤ (((s_.code.getD []).length : Nat) : Int)))) (aBin_leq _ _) ?_
    refine sim_cond (fun c17 => ?_) (fun c17 => ?_)
    · exact sim_ret ⟨rfl, O16⟩
    · refine sim_let (v := AV.ptr o_ 1 0 0) rfl ?_
      refine sim_let (v := AV.ptr o_ 1 0 2) rfl ?_
      refine sim_let (v := AV.sc (.int .u64 (IntKind.u64.wrap ((IntKind.u64.wrap ((IntKind.u64.wrap (s_.seed * 6364136223846793005)) + (IntKind.u64.wrap 0))) + 1442695040888963407)))) (O16.ld 0 rfl false 1 2) ?_
      refine sim_let (v := AV.sc (.int .u64 (Int.fdiv (IntKind.u64.wrap ((IntKind.u64.wrap ((IntKind.u64.wrap (s_.seed * 6364136223846793005)) + (IntKind.u64.wrap 0))) + 1442695040888963407)) (2 ^ 40)))) rfl ?_
      refine sim_let (v := AV.sc (.int .u64 (IntKind.u64.wrap ((BitVec.ofInt 64 (Int.fdiv (IntKind.u64.wrap ((IntKind.u64.wrap ((IntKind.u64.wrap (s_.seed * 6364136223846793005)) + (IntKind.u64.wrap 0))) + 1442695040888963407)) (2 ^ 40)) &&& BitVec.ofInt 64 255).toNat : Nat)))) rfl ?_
      refine sim_let (v := iv (wr (IntKind.u64.wrap ((BitVec.ofInt 64 (Int.fdiv (IntKind.u64.wrap ((IntKind.u64.wrap ((IntKind.u64.wrap (s_.seed * 6364136223846793005)) + (IntKind.u64.wrap 0))) + 1442695040888963407)) (2 ^ 40)) &&& BitVec.ofInt 64 255).toNat : Nat)))) rfl ?_
      exact sim_ret ⟨rfl, O16⟩
noncomputable def ev_spec_l00Src_next : Nat → Contract := envL []
theorem eo_spec_l00Src_next : EnvOK Try.prog ev_spec_l00Src_next := E0
theorem tg_spec_l00Src_next {B : Base} {h : Heap} {o_ : Nat} (s_ : l00Src) (O : Hold B h [(AV.ptr o_ 1 0 0, .pt 3 [Sl.enc s_.code, iv s_.pos, AV.sc (.int .u64 s_.seed)])]) : Sim (denFn Try.prog ev_spec_l00Src_next n_spec_l00Src_next [AV.ptr o_ 1 0 0] h) (t_spec_l00Src_next s_) (fun c p => p.1 = iv c.1 ∧ Hold B p.2 ([(AV.ptr o_ 1 0 0, .pt 3 [Sl.enc c.2.code, iv c.2.pos, AV.sc (.int .u64 c.2.seed)])])) := ts_spec_l00Src_next ev_spec_l00Src_next  s_  O

def t_spec_l00Src_pick (s_ : l00Src) (n_ : Int) : Option (Int × l00Src) :=
  bif decide (n_ ≤ 1) then
    some (0, (⟨s_.code, s_.pos, s_.seed⟩ : l00Src))
  else
    obind (t_spec_l00Src_next s_) fun c3 =>
    bif decide (200 < n_) then
      obind (t_spec_l00Src_next c3.2) fun c10 =>
      obind (remI (wr ((wr (c3.1 * 256)) + c10.1)) n_) fun q16 =>
      some (q16, (⟨c10.2.code, c10.2.pos, c10.2.seed⟩ : l00Src))
    else
      obind (remI c3.1 n_) fun q18 =>
      some (q18, (⟨c3.2.code, c3.2.pos, c3.2.seed⟩ : l00Src))

theorem ts_spec_l00Src_pick (env : Nat → Contract) (he_spec_l00Src_next : env n_spec_l00Src_next = .gen (denFn Try.prog ev_spec_l00Src_next n_spec_l00Src_next)) {B : Base} {h : Heap} {o_ : Nat} (s_ : l00Src) (n_ : Int) (O : Hold B h [(AV.ptr o_ 1 0 0, .pt 3 [Sl.enc s_.code, iv s_.pos, AV.sc (.int .u64 s_.seed)])]) : Sim (denFn Try.prog env n_spec_l00Src_pick [AV.ptr o_ 1 0 0, iv n_] h) (t_spec_l00Src_pick s_ n_) (fun c p => p.1 = iv c.1 ∧ Hold B p.2 ([(AV.ptr o_ 1 0 0, .pt 3 [Sl.enc c.2.code, iv c.2.pos, AV.sc (.int .u64 c.2.seed)])])) := by
  rw [e_spec_l00Src_pick]
  unfold t_spec_l00Src_pick
  refine sim_let (v := bv (decide (n_ ≤ 1))) (aBin_leq _ _) ?_
  refine sim_cond (fun c1 => ?_) (fun c1 => ?_)
  · exact sim_ret ⟨rfl, O⟩
  · refine sim_gen he_spec_l00Src_next (tg_spec_l00Src_next s_ (O.start (i := 0) rfl rfl)) (fun c3 v4 h5 hq6 => ?_)
    obtain ⟨e_v4, O7⟩ := hq6
    dsimp only at e_v4
    subst v4
    have O8 : Hold B h5 [(AV.ptr o_ 1 0 0, .pt 3 [Sl.enc c3.2.code, iv c3.2.pos, AV.sc (.int .u64 c3.2.seed)])] := O.merge (i := 0) rfl rfl O7
    refine sim_let (v := bv (decide (200 < n_))) (aBin_gtr _ _) ?_
    refine sim_cond (fun c9 => ?_) (fun c9 => ?_)
    · refine sim_let (v := iv (wr (c3.1 * 256))) (aBin_mul _ _) ?_
      refine sim_gen he_spec_l00Src_next (tg_spec_l00Src_next c3.2 (O8.start (i := 0) rfl rfl)) (fun c10 v11 h12 hq13 => ?_)
      obtain ⟨e_v11, O14⟩ := hq13
      dsimp only at e_v11
      subst v11
      have O15 : Hold B h12 [(AV.ptr o_ 1 0 0, .pt 3 [Sl.enc c10.2.code, iv c10.2.pos, AV.sc (.int .u64 c10.2.seed)])] := O8.merge (i := 0) rfl rfl O14
      refine sim_let (v := iv (wr ((wr (c3.1 * 256)) + c10.1))) (aBin_add _ _) ?_
      refine sim_rem (fun q16 => ?_)
      exact sim_ret ⟨rfl, O15⟩
    · refine sim_rem (fun q18 => ?_)
      exact sim_ret ⟨rfl, O8⟩
noncomputable def ev_spec_l00Src_pick : Nat → Contract := envL [(n_spec_l00Src_next, .gen (denFn Try.prog ev_spec_l00Src_next n_spec_l00Src_next))]
theorem eo_spec_l00Src_pick : EnvOK Try.prog ev_spec_l00Src_pick := (EconsG (gen_of_den eo_spec_l00Src_next mixed hb_spec_l00Src_next) E0)
theorem tg_spec_l00Src_pick {B : Base} {h : Heap} {o_ : Nat} (s_ : l00Src) (n_ : Int) (O : Hold B h [(AV.ptr o_ 1 0 0, .pt 3 [Sl.enc s_.code, iv s_.pos, AV.sc (.int .u64 s_.seed)])]) : Sim (denFn Try.prog ev_spec_l00Src_pick n_spec_l00Src_pick [AV.ptr o_ 1 0 0, iv n_] h) (t_spec_l00Src_pick s_ n_) (fun c p => p.1 = iv c.1 ∧ Hold B p.2 ([(AV.ptr o_ 1 0 0, .pt 3 [Sl.enc c.2.code, iv c.2.pos, AV.sc (.int .u64 c.2.seed)])])) := ts_spec_l00Src_pick ev_spec_l00Src_pick (by simp [ev_spec_l00Src_pick, envL]) s_ n_  O

def s0_spec_l09Draw : ((Sl UInt8) × Int × Int × (Sl Feat) × Int × Int × Int) → Option (Sum ((Sl UInt8) × Int × Int × (Sl Feat) × Int × Int × Int) ((Sl UInt8) × Int × Int × (Sl Feat))) := fun (w23, w24, w25, w27, w30, w31, w32) =>
  bif decide (0 < w32) then
    obind (t_spec_l00Src_pick (⟨w23, w24, w25⟩ : l00Src) 8) fun c45 =>
    obind (appO w27 ([(⟨w30, w31, c45.1⟩ : Feat)] : List Feat)) fun _ =>
    obind (t_spec_l00Src_pick c45.2 61) fun c61 =>
    obind (some ((fun a b : Int => min a b) 255 (wr ((wr (w30 + c61.1)) - 30)))) fun c67 =>
    obind (some ((fun a b : Int => max a b) 0 c67)) fun c68 =>
    obind (t_spec_l00Src_pick c61.2 61) fun c69 =>
    obind (some ((fun a b : Int => min a b) 255 (wr ((wr (w31 + c69.1)) - 30)))) fun c75 =>
    obind (some ((fun a b : Int => max a b) 0 c75)) fun c76 =>
    some (.inl (c69.2.code, c69.2.pos, c69.2.seed, (appS w27 ([(⟨w30, w31, c45.1⟩ : Feat)] : List Feat)), c68, c76, wr (w32 - 1)))
  else
    some (.inr (w23, w24, w25, w27))
def t_spec_l09Draw (s_ : l00Src) (most_ : Int) : Option ((Sl Feat) × l00Src) :=
  obind (t_spec_l00Src_pick s_ 256) fun c5 =>
  obind (t_spec_l00Src_pick c5.2 256) fun c11 =>
  obind (t_spec_l00Src_pick c11.2 most_) fun c17 =>
  obind (loopT s0_spec_l09Draw (c17.2.code, c17.2.pos, c17.2.seed, (some ([] : List Feat)), c5.1, c11.1, wr (1 + c17.1))) fun (q35, q36, q37, q39) =>
  some (q39, (⟨q35, q36, q37⟩ : l00Src))

theorem tl0_spec_l09Draw (env : Nat → Contract) {B : Base} (he_spec_l00Max : env n_spec_l00Max = .pure (T2 (fun a b : Int => max a b))) (he_spec_l00Min : env n_spec_l00Min = .pure (T2 (fun a b : Int => min a b))) (he_spec_l00Src_pick : env n_spec_l00Src_pick = .gen (denFn Try.prog ev_spec_l00Src_pick n_spec_l00Src_pick)) (o_ : Nat) (most_ : Int) (x1 : AV) (c5 : Int × l00Src) (c11 : Int × l00Src) (c17 : Int × l00Src)  {st : (Sl UInt8) × Int × Int × (Sl Feat) × Int × Int × Int} {tm : TM} {h : Heap} (R : (fun (st : (Sl UInt8) × Int × Int × (Sl Feat) × Int × Int × Int) tm h28 => match st with | (w23, w24, w25, w27, w30, w31, w32) => ∃ z26, tm = [AV.ptr o_ 1 0 0, iv most_, und, und, nilS, z26, iv w30, iv w31, iv w32, x1, AV.ptr o_ 1 0 0, iv c5.1, AV.ptr o_ 1 0 0, iv c11.1, AV.ptr o_ 1 0 0, iv most_, iv c17.1, iv (wr (1 + c17.1)), AV.top, AV.top, AV.top, AV.top, AV.top, AV.top, AV.top, AV.top, AV.top, AV.top, AV.top, AV.top, AV.top, AV.top, AV.top, AV.top, AV.top, AV.top, AV.top, AV.top, AV.top, AV.top, AV.top, AV.top, AV.top, AV.top, und] ∧ Hold B h28 [(AV.ptr o_ 1 0 0, .pt 3 [Sl.enc w23, iv w24, AV.sc (.int .u64 w25)]), (z26, obS (w27 : Sl Feat))]) st tm h) : Sim (loopP hm0_spec_l09Draw xm0_spec_l09Draw (lb0_spec_l09Draw env) tm h) (loopT s0_spec_l09Draw st) (fun (q : (Sl UInt8) × Int × Int × (Sl Feat)) (r : Res) => match q with | (q35, q36, q37, q39) => ∃ (q40 : Int) (q41 : Int) (q42 : Int) (z38 : AV) (h33 : Heap), r = (.exit 0, [AV.ptr o_ 1 0 0, iv most_, und, und, nilS, z38, iv q40, iv q41, iv q42, x1, AV.ptr o_ 1 0 0, iv c5.1, AV.ptr o_ 1 0 0, iv c11.1, AV.ptr o_ 1 0 0, iv most_, iv c17.1, iv (wr (1 + c17.1)), AV.top, AV.top, AV.top, AV.top, AV.top, AV.top, AV.top, AV.top, AV.top, AV.top, AV.top, AV.top, AV.top, AV.top, AV.top, AV.top, AV.top, AV.top, AV.top, AV.top, AV.top, AV.top, AV.top, AV.top, AV.top, AV.top, und], h33) ∧ Hold B h33 [(AV.ptr o_ 1 0 0, .pt 3 [Sl.enc q35, iv q36, AV.sc (.int .u64 q37)]), (z38, obS (q39 : Sl Feat))]) := by
  refine loop_sim (Rel := fun (st : (Sl UInt8) × Int × Int × (Sl Feat) × Int × Int × Int) tm h28 => match st with | (w23, w24, w25, w27, w30, w31, w32) => ∃ z26, tm = [AV.ptr o_ 1 0 0, iv most_, und, und, nilS, z26, iv w30, iv w31, iv w32, x1, AV.ptr o_ 1 0 0, iv c5.1, AV.ptr o_ 1 0 0, iv c11.1, AV.ptr o_ 1 0 0, iv most_, iv c17.1, iv (wr (1 + c17.1)), AV.top, AV.top, AV.top, AV.top, AV.top, AV.top, AV.top, AV.top, AV.top, AV.top, AV.top, AV.top, AV.top, AV.top, AV.top, AV.top, AV.top, AV.top, AV.top, AV.top, AV.top, AV.top, AV.top, AV.top, AV.top, AV.top, und] ∧ Hold B h28 [(AV.ptr o_ 1 0 0, .pt 3 [Sl.enc w23, iv w24, AV.sc (.int .u64 w25)]), (z26, obS (w27 : Sl Feat))]) (fun st tm h28 R => ?_) R
  obtain ⟨w23, w24, w25, w27, w30, w31, w32⟩ := st
  obtain ⟨z26, rfl, O29⟩ := R
  rw [e_lb0_spec_l09Draw]
  unfold s0_spec_l09Draw
  dsimp only
  refine sim_let (v := bv (decide (0 < w32))) (aBin_gtr _ _) ?_
  refine sim_cond (fun c44 => ?_) (fun c44 => ?_)
  · refine sim_gen he_spec_l00Src_pick (tg_spec_l00Src_pick (⟨w23, w24, w25⟩ : l00Src) 8 (O29.start (i := 0) rfl rfl)) (fun c45 v46 h47 hq48 => ?_)
    obtain ⟨e_v46, O49⟩ := hq48
    dsimp only at e_v46
    subst v46
    have O50 : Hold B h47 [(AV.ptr o_ 1 0 0, .pt 3 [Sl.enc c45.2.code, iv c45.2.pos, AV.sc (.int .u64 c45.2.seed)]), (z26, obS (w27 : Sl Feat))] := O29.merge (i := 0) rfl rfl O49
    refine sim_let (v := AV.agg [iv w30, iv w31, iv c45.1]) (by first | rfl | simp [aBuild, aFill, splice]) ?_
    refine sim_build (A := Feat) O50 ([(⟨w30, w31, c45.1⟩ : Feat)] : List Feat) rfl (by first | rfl | simp [aFillRows, zrows]) rfl (fun x51 h52 O53 => ?_)
    replace O53 : Hold B h52 [(AV.ptr o_ 1 0 0, .pt 3 [Sl.enc c45.2.code, iv c45.2.pos, AV.sc (.int .u64 c45.2.seed)]), (z26, obS (w27 : Sl Feat)), (x51, obS ((some ([(⟨w30, w31, c45.1⟩ : Feat)] : List Feat)) : Sl Feat))] := O53
    refine sim_append (A := Feat) (s := w27) O53 1 ([(⟨w30, w31, c45.1⟩ : Feat)] : List Feat) rfl (O53.src (A := Feat) (s := (some ([(⟨w30, w31, c45.1⟩ : Feat)] : List Feat))) 2 rfl) (by decide) (fun x56 h57 O58 => ?_)
    replace O58 : Hold B h57 [(AV.ptr o_ 1 0 0, .pt 3 [Sl.enc c45.2.code, iv c45.2.pos, AV.sc (.int .u64 c45.2.seed)]), (x56, obS ((appS w27 ([(⟨w30, w31, c45.1⟩ : Feat)] : List Feat)) : Sl Feat)), (x51, obS ((some ([(⟨w30, w31, c45.1⟩ : Feat)] : List Feat)) : Sl Feat))] := O58
    have O60 : Hold B h57 [(AV.ptr o_ 1 0 0, .pt 3 [Sl.enc c45.2.code, iv c45.2.pos, AV.sc (.int .u64 c45.2.seed)]), (x56, obS ((appS w27 ([(⟨w30, w31, c45.1⟩ : Feat)] : List Feat)) : Sl Feat))] := O58.sel [0, 1] (by decide) rfl
    refine sim_gen he_spec_l00Src_pick (tg_spec_l00Src_pick c45.2 61 (O60.start (i := 0) rfl rfl)) (fun c61 v62 h63 hq64 => ?_)
    obtain ⟨e_v62, O65⟩ := hq64
    dsimp only at e_v62
    subst v62
    have O66 : Hold B h63 [(AV.ptr o_ 1 0 0, .pt 3 [Sl.enc c61.2.code, iv c61.2.pos, AV.sc (.int .u64 c61.2.seed)]), (x56, obS ((appS w27 ([(⟨w30, w31, c45.1⟩ : Feat)] : List Feat)) : Sl Feat))] := O60.merge (i := 0) rfl rfl O65
    refine sim_let (v := iv (wr (w30 + c61.1))) (aBin_add _ _) ?_
    refine sim_let (v := iv (wr ((wr (w30 + c61.1)) - 30))) (aBin_sub _ _) ?_
    refine sim_callV2 (t := (fun a b : Int => min a b)) he_spec_l00Min (snapD_int _ _) (snapD_int _ _) (fun c67 => ?_)
    refine sim_callV2 (t := (fun a b : Int => max a b)) he_spec_l00Max (snapD_int _ _) (snapD_int _ _) (fun c68 => ?_)
    refine sim_gen he_spec_l00Src_pick (tg_spec_l00Src_pick c61.2 61 (O66.start (i := 0) rfl rfl)) (fun c69 v70 h71 hq72 => ?_)
    obtain ⟨e_v70, O73⟩ := hq72
    dsimp only at e_v70
    subst v70
    have O74 : Hold B h71 [(AV.ptr o_ 1 0 0, .pt 3 [Sl.enc c69.2.code, iv c69.2.pos, AV.sc (.int .u64 c69.2.seed)]), (x56, obS ((appS w27 ([(⟨w30, w31, c45.1⟩ : Feat)] : List Feat)) : Sl Feat))] := O66.merge (i := 0) rfl rfl O73
    refine sim_let (v := iv (wr (w31 + c69.1))) (aBin_add _ _) ?_
    refine sim_let (v := iv (wr ((wr (w31 + c69.1)) - 30))) (aBin_sub _ _) ?_
    refine sim_callV2 (t := (fun a b : Int => min a b)) he_spec_l00Min (snapD_int _ _) (snapD_int _ _) (fun c75 => ?_)
    refine sim_callV2 (t := (fun a b : Int => max a b)) he_spec_l00Max (snapD_int _ _) (snapD_int _ _) (fun c76 => ?_)
    refine sim_let (v := iv (wr (w32 - 1))) (aBin_sub _ _) ?_
    exact sim_ret ⟨rfl, _, rfl, O74⟩
  · exact sim_ret ⟨nofun, _, _, _, _, _, rfl, O29⟩
theorem ts_spec_l09Draw (env : Nat → Contract) (he_spec_l00Max : env n_spec_l00Max = .pure (T2 (fun a b : Int => max a b))) (he_spec_l00Min : env n_spec_l00Min = .pure (T2 (fun a b : Int => min a b))) (he_spec_l00Src_pick : env n_spec_l00Src_pick = .gen (denFn Try.prog ev_spec_l00Src_pick n_spec_l00Src_pick)) {B : Base} {h : Heap} {o_ : Nat} (s_ : l00Src) (most_ : Int) (O : Hold B h [(AV.ptr o_ 1 0 0, .pt 3 [Sl.enc s_.code, iv s_.pos, AV.sc (.int .u64 s_.seed)])]) : Sim (denFn Try.prog env n_spec_l09Draw [AV.ptr o_ 1 0 0, iv most_] h) (t_spec_l09Draw s_ most_) (fun c p => ∃ x1, p.1 = x1 ∧ Hold B p.2 ([(AV.ptr o_ 1 0 0, .pt 3 [Sl.enc c.2.code, iv c.2.pos, AV.sc (.int .u64 c.2.seed)]), (x1, obS (c.1 : Sl Feat))])) := by
  rw [e_spec_l09Draw]
  unfold t_spec_l09Draw
  refine sim_build (A := Feat) O ([] : List Feat) rfl (by first | rfl | simp [aFillRows, zrows]) rfl (fun x1 h2 O3 => ?_)
  replace O3 : Hold B h2 [(AV.ptr o_ 1 0 0, .pt 3 [Sl.enc s_.code, iv s_.pos, AV.sc (.int .u64 s_.seed)]), (x1, obS ((some ([] : List Feat)) : Sl Feat))] := O3
  refine sim_gen he_spec_l00Src_pick (tg_spec_l00Src_pick s_ 256 (O3.start (i := 0) rfl rfl)) (fun c5 v6 h7 hq8 => ?_)
  obtain ⟨e_v6, O9⟩ := hq8
  dsimp only at e_v6
  subst v6
  have O10 : Hold B h7 [(AV.ptr o_ 1 0 0, .pt 3 [Sl.enc c5.2.code, iv c5.2.pos, AV.sc (.int .u64 c5.2.seed)]), (x1, obS ((some ([] : List Feat)) : Sl Feat))] := O3.merge (i := 0) rfl rfl O9
  refine sim_gen he_spec_l00Src_pick (tg_spec_l00Src_pick c5.2 256 (O10.start (i := 0) rfl rfl)) (fun c11 v12 h13 hq14 => ?_)
  obtain ⟨e_v12, O15⟩ := hq14
  dsimp only at e_v12
  subst v12
  have O16 : Hold B h13 [(AV.ptr o_ 1 0 0, .pt 3 [Sl.enc c11.2.code, iv c11.2.pos, AV.sc (.int .u64 c11.2.seed)]), (x1, obS ((some ([] : List Feat)) : Sl Feat))] := O10.merge (i := 0) rfl rfl O15
  refine sim_gen he_spec_l00Src_pick (tg_spec_l00Src_pick c11.2 most_ (O16.start (i := 0) rfl rfl)) (fun c17 v18 h19 hq20 => ?_)
  obtain ⟨e_v18, O21⟩ := hq20
  dsimp only at e_v18
  subst v18
  have O22 : Hold B h19 [(AV.ptr o_ 1 0 0, .pt 3 [Sl.enc c17.2.code, iv c17.2.pos, AV.sc (.int .u64 c17.2.seed)]), (x1, obS ((some ([] : List Feat)) : Sl Feat))] := O16.merge (i := 0) rfl rfl O21
  refine sim_let (v := iv (wr (1 + c17.1))) (aBin_add _ _) ?_
  refine sim_bind ((tl0_spec_l09Draw env he_spec_l00Max he_spec_l00Min he_spec_l00Src_pick o_ most_ x1 c5 c11 c17) ⟨_, rfl, O22⟩) (fun qq80 r hq => ?_)
  obtain ⟨q35, q36, q37, q39⟩ := qq80
  obtain ⟨q40, q41, q42, z38, h33, rfl, O34⟩ := hq
  rw [e_lk0x0_spec_l09Draw]
  exact sim_ret ⟨_, rfl, O34⟩
noncomputable def ev_spec_l09Draw : Nat → Contract := envL [(n_spec_l00Max, .pure (T2 (fun a b : Int => max a b))), (n_spec_l00Min, .pure (T2 (fun a b : Int => min a b))), (n_spec_l00Src_pick, .gen (denFn Try.prog ev_spec_l00Src_pick n_spec_l00Src_pick))]
theorem eo_spec_l09Draw : EnvOK Try.prog ev_spec_l09Draw := (Econs ok_spec_l00Max (Econs ok_spec_l00Min (EconsG (gen_of_den eo_spec_l00Src_pick mixed hb_spec_l00Src_pick) E0)))
theorem tg_spec_l09Draw {B : Base} {h : Heap} {o_ : Nat} (s_ : l00Src) (most_ : Int) (O : Hold B h [(AV.ptr o_ 1 0 0, .pt 3 [Sl.enc s_.code, iv s_.pos, AV.sc (.int .u64 s_.seed)])]) : Sim (denFn Try.prog ev_spec_l09Draw n_spec_l09Draw [AV.ptr o_ 1 0 0, iv most_] h) (t_spec_l09Draw s_ most_) (fun c p => ∃ x1, p.1 = x1 ∧ Hold B p.2 ([(AV.ptr o_ 1 0 0, .pt 3 [Sl.enc c.2.code, iv c.2.pos, AV.sc (.int .u64 c.2.seed)]), (x1, obS (c.1 : Sl Feat))])) := ts_spec_l09Draw ev_spec_l09Draw (by simp [ev_spec_l09Draw, envL]) (by simp [ev_spec_l09Draw, envL]) (by simp [ev_spec_l09Draw, envL]) s_ most_  O

def t_spec_l00Src_one (s_ : l00Src) (n_ : Int) : Option (Bool × l00Src) :=
  obind (t_spec_l00Src_pick s_ n_) fun c1 =>
  some (decide (c1.1 = 0), (⟨c1.2.code, c1.2.pos, c1.2.seed⟩ : l00Src))

theorem ts_spec_l00Src_one (env : Nat → Contract) (he_spec_l00Src_pick : env n_spec_l00Src_pick = .gen (denFn Try.prog ev_spec_l00Src_pick n_spec_l00Src_pick)) {B : Base} {h : Heap} {o_ : Nat} (s_ : l00Src) (n_ : Int) (O : Hold B h [(AV.ptr o_ 1 0 0, .pt 3 [Sl.enc s_.code, iv s_.pos, AV.sc (.int .u64 s_.seed)])]) : Sim (denFn Try.prog env n_spec_l00Src_one [AV.ptr o_ 1 0 0, iv n_] h) (t_spec_l00Src_one s_ n_) (fun c p => p.1 = bv c.1 ∧ Hold B p.2 ([(AV.ptr o_ 1 0 0, .pt 3 [Sl.enc c.2.code, iv c.2.pos, AV.sc (.int .u64 c.2.seed)])])) := by
  rw [e_spec_l00Src_one]
  unfold t_spec_l00Src_one
  refine sim_gen he_spec_l00Src_pick (tg_spec_l00Src_pick s_ n_ (O.start (i := 0) rfl rfl)) (fun c1 v2 h3 hq4 => ?_)
  obtain ⟨e_v2, O5⟩ := hq4
  dsimp only at e_v2
  subst v2
  have O6 : Hold B h3 [(AV.ptr o_ 1 0 0, .pt 3 [Sl.enc c1.2.code, iv c1.2.pos, AV.sc (.int .u64 c1.2.seed)])] := O.merge (i := 0) rfl rfl O5
  refine sim_let (v := bv (decide (c1.1 = 0))) (aCmp_eq _ _) ?_
  exact sim_ret ⟨rfl, O6⟩
noncomputable def ev_spec_l00Src_one : Nat → Contract := envL [(n_spec_l00Src_pick, .gen (denFn Try.prog ev_spec_l00Src_pick n_spec_l00Src_pick))]
theorem eo_spec_l00Src_one : EnvOK Try.prog ev_spec_l00Src_one := (EconsG (gen_of_den eo_spec_l00Src_pick mixed hb_spec_l00Src_pick) E0)
theorem tg_spec_l00Src_one {B : Base} {h : Heap} {o_ : Nat} (s_ : l00Src) (n_ : Int) (O : Hold B h [(AV.ptr o_ 1 0 0, .pt 3 [Sl.enc s_.code, iv s_.pos, AV.sc (.int .u64 s_.seed)])]) : Sim (denFn Try.prog ev_spec_l00Src_one n_spec_l00Src_one [AV.ptr o_ 1 0 0, iv n_] h) (t_spec_l00Src_one s_ n_) (fun c p => p.1 = bv c.1 ∧ Hold B p.2 ([(AV.ptr o_ 1 0 0, .pt 3 [Sl.enc c.2.code, iv c.2.pos, AV.sc (.int .u64 c.2.seed)])])) := ts_spec_l00Src_one ev_spec_l00Src_one (by simp [ev_spec_l00Src_one, envL]) s_ n_  O

def t_spec_l09Size (n_ : Int) : Option Int :=
  bif decide (n_ < 0) then
    some (wr (0 - n_))
  else
    some n_

theorem ts_spec_l09Size (env : Nat → Contract)  (n_ : Int) : Sim (denFn Try.prog env n_spec_l09Size [iv n_] []) (t_spec_l09Size n_) fun c p => release p.2 depth p.1 = some ((fun c : Int => enc c) c) := by
  have O := Hold.nil []
  generalize hB : (⟨[], []⟩ : Base) = B at O
  clear hB
  rw [e_spec_l09Size]
  unfold t_spec_l09Size
  refine sim_let (v := bv (decide (n_ < 0))) (aBin_lss _ _) ?_
  refine sim_cond (fun c1 => ?_) (fun c1 => ?_)
  · refine sim_let (v := iv (wr (0 - n_))) (aUn_neg _) ?_
    exact sim_ret (release_plain (by rfl) _)
  · exact sim_ret (release_plain (by rfl) _)
theorem tt_spec_l09Size : PureOK Try.prog n_spec_l09Size (C1 (fun c : Int => enc c) t_spec_l09Size) := pureC1 E0 mixed hb_spec_l09Size fun n_ => ts_spec_l09Size _  n_

def t_spec_A2Two (code_ : Sl UInt8) : Option ((Sl Feat) × (Sl Feat) × Int) :=
  obind (t_spec_l09Draw (⟨code_, 0, 0⟩ : l00Src) 8) fun c5 =>
  obind (t_spec_l09Draw c5.2 8) fun c13 =>
  obind (t_spec_l00Src_one c13.2 2) fun c21 =>
  bif c21.1 then
    obind (appO (some ([] : List Feat)) (c5.1.getD [])) fun _ =>
    obind (t_spec_l00Src_pick c21.2 256) fun c37 =>
    obind (getI ((appS (some ([] : List Feat)) (c5.1.getD [])).getD []) 0) fun a43 =>
    obind (t_spec_l09Size (wr ((((c5.1.getD []).length : Nat) : Int) - ((((setS (appS (some ([] : List Feat)) (c5.1.getD [])) 0 (⟨c37.1, a43.y, a43.d⟩ : Feat)).getD []).length : Nat) : Int)))) fun c49 =>
    obind (t_spec_l00Src_pick c37.2 4) fun c50 =>
    some (c5.1, (setS (appS (some ([] : List Feat)) (c5.1.getD [])) 0 (⟨c37.1, a43.y, a43.d⟩ : Feat)), wr (c49 + c50.1))
  else
    obind (t_spec_l09Size (wr ((((c5.1.getD []).length : Nat) : Int) - (((c13.1.getD []).length : Nat) : Int)))) fun c57 =>
    obind (t_spec_l00Src_pick c21.2 4) fun c58 =>
    some (c5.1, c13.1, wr (c57 + c58.1))

theorem ts_spec_A2Two (env : Nat → Contract) (he_spec_l00From : env n_spec_l00From = .pure (C1 fromA (fun q : Sl UInt8 => some q))) (he_spec_l00Src_one : env n_spec_l00Src_one = .gen (denFn Try.prog ev_spec_l00Src_one n_spec_l00Src_one)) (he_spec_l00Src_pick : env n_spec_l00Src_pick = .gen (denFn Try.prog ev_spec_l00Src_pick n_spec_l00Src_pick)) (he_spec_l09Draw : env n_spec_l09Draw = .gen (denFn Try.prog ev_spec_l09Draw n_spec_l09Draw)) (he_spec_l09Size : env n_spec_l09Size = .pure (C1 (fun c : Int => enc c) t_spec_l09Size)) (code_ : Sl UInt8) : Sim (denFn Try.prog env n_spec_A2Two [Sl.enc code_] []) (t_spec_A2Two code_) fun c p => release p.2 depth p.1 = some ((fun c : (Sl Feat) × (Sl Feat) × Int => AV.tup [rS c.1, rS c.2.1, enc c.2.2]) c) := by
  have O := Hold.nil []
  generalize hB : (⟨[], []⟩ : Base) = B at O
  clear hB
  rw [e_spec_A2Two]
  unfold t_spec_A2Two
  refine sim_src O he_spec_l00From (snapD_enc _ _) (by first | rfl | exact noRef_enc _) (fun o1 h2 O3 => ?_)
  replace O3 : Hold B h2 [(AV.ptr o1 1 0 0, .pt 3 [Sl.enc code_, iv 0, AV.sc (.int .u64 0)])] := O3
  refine sim_gen he_spec_l09Draw (tg_spec_l09Draw (⟨code_, 0, 0⟩ : l00Src) 8 (O3.start (i := 0) rfl rfl)) (fun c5 v6 h7 hq8 => ?_)
  obtain ⟨x11, e_v6, O9⟩ := hq8
  dsimp only at e_v6
  subst v6
  have O10 : Hold B h7 [(AV.ptr o1 1 0 0, .pt 3 [Sl.enc c5.2.code, iv c5.2.pos, AV.sc (.int .u64 c5.2.seed)]), (x11, obS (c5.1 : Sl Feat))] := O3.merge (i := 0) rfl rfl O9
  refine sim_gen he_spec_l09Draw (tg_spec_l09Draw c5.2 8 (O10.start (i := 0) rfl rfl)) (fun c13 v14 h15 hq16 => ?_)
  obtain ⟨x19, e_v14, O17⟩ := hq16
  dsimp only at e_v14
  subst v14
  have O18 : Hold B h15 [(AV.ptr o1 1 0 0, .pt 3 [Sl.enc c13.2.code, iv c13.2.pos, AV.sc (.int .u64 c13.2.seed)]), (x11, obS (c5.1 : Sl Feat)), (x19, obS (c13.1 : Sl Feat))] := O10.merge (i := 0) rfl rfl O17
  refine sim_gen he_spec_l00Src_one (tg_spec_l00Src_one c13.2 2 (O18.start (i := 0) rfl rfl)) (fun c21 v22 h23 hq24 => ?_)
  obtain ⟨e_v22, O25⟩ := hq24
  dsimp only at e_v22
  subst v22
  have O26 : Hold B h23 [(AV.ptr o1 1 0 0, .pt 3 [Sl.enc c21.2.code, iv c21.2.pos, AV.sc (.int .u64 c21.2.seed)]), (x11, obS (c5.1 : Sl Feat)), (x19, obS (c13.1 : Sl Feat))] := O18.merge (i := 0) rfl rfl O25
  refine sim_cond (fun c27 => ?_) (fun c27 => ?_)
  · refine sim_build (A := Feat) O26 ([] : List Feat) rfl (by first | rfl | simp [aFillRows, zrows]) rfl (fun x28 h29 O30 => ?_)
    replace O30 : Hold B h29 [(AV.ptr o1 1 0 0, .pt 3 [Sl.enc c21.2.code, iv c21.2.pos, AV.sc (.int .u64 c21.2.seed)]), (x11, obS (c5.1 : Sl Feat)), (x19, obS (c13.1 : Sl Feat)), (x28, obS ((some ([] : List Feat)) : Sl Feat))] := O30
    refine sim_append (A := Feat) (s := (some ([] : List Feat))) O30 3 (c5.1.getD []) rfl (O30.src (A := Feat) (s := c5.1) 1 rfl) (by decide) (fun x33 h34 O35 => ?_)
    replace O35 : Hold B h34 [(AV.ptr o1 1 0 0, .pt 3 [Sl.enc c21.2.code, iv c21.2.pos, AV.sc (.int .u64 c21.2.seed)]), (x11, obS (c5.1 : Sl Feat)), (x19, obS (c13.1 : Sl Feat)), (x33, obS ((appS (some ([] : List Feat)) (c5.1.getD [])) : Sl Feat))] := O35
    refine sim_gen he_spec_l00Src_pick (tg_spec_l00Src_pick c21.2 256 (O35.start (i := 0) rfl rfl)) (fun c37 v38 h39 hq40 => ?_)
    obtain ⟨e_v38, O41⟩ := hq40
    dsimp only at e_v38
    subst v38
    have O42 : Hold B h39 [(AV.ptr o1 1 0 0, .pt 3 [Sl.enc c37.2.code, iv c37.2.pos, AV.sc (.int .u64 c37.2.seed)]), (x11, obS (c5.1 : Sl Feat)), (x19, obS (c13.1 : Sl Feat)), (x33, obS ((appS (some ([] : List Feat)) (c5.1.getD [])) : Sl Feat))] := O35.merge (i := 0) rfl rfl O41
    refine sim_get (O42.tab (A := Feat) (s := (appS (some ([] : List Feat)) (c5.1.getD []))) 3 rfl) (fun m44 a43 hi45 hm46 => ?_)
    refine sim_let (v := elp x33 m44 0) ((O42.tab (A := Feat) (s := (appS (some ([] : List Feat)) (c5.1.getD []))) 3 rfl).fld _ _ _) ?_
    refine sim_set (A := Feat) O42 3 (⟨c37.1, a43.y, a43.d⟩ : Feat) rfl hi45 hm46 rfl (by simp) (by first | rfl | simp) (by first | rfl | simp [splice]) (fun h47 O48 => ?_)
    replace O48 : Hold B h47 [(AV.ptr o1 1 0 0, .pt 3 [Sl.enc c37.2.code, iv c37.2.pos, AV.sc (.int .u64 c37.2.seed)]), (x11, obS (c5.1 : Sl Feat)), (x19, obS (c13.1 : Sl Feat)), (x33, obS ((setS (appS (some ([] : List Feat)) (c5.1.getD [])) 0 (⟨c37.1, a43.y, a43.d⟩ : Feat)) : Sl Feat))] := O48
    refine sim_let (v := iv (((c5.1.getD []).length : Nat) : Int)) (O48.tab (A := Feat) (s := c5.1) 1 rfl).len ?_
    refine sim_let (v := iv ((((setS (appS (some ([] : List Feat)) (c5.1.getD [])) 0 (⟨c37.1, a43.y, a43.d⟩ : Feat)).getD []).length : Nat) : Int)) (O48.tab (A := Feat) (s := (setS (appS (some ([] : List Feat)) (c5.1.getD [])) 0 (⟨c37.1, a43.y, a43.d⟩ : Feat))) 3 rfl).len ?_
    refine sim_let (v := iv (wr ((((c5.1.getD []).length : Nat) : Int) - ((((setS (appS (some ([] : List Feat)) (c5.1.getD [])) 0 (⟨c37.1, a43.y, a43.d⟩ : Feat)).getD []).length : Nat) : Int)))) (aBin_sub _ _) ?_
    refine sim_call1 he_spec_l09Size (snapD_int _ _) (fun c49 => ?_)
    refine sim_let2 (hand_plain (by rfl) _ _) ?_
    refine sim_gen he_spec_l00Src_pick (tg_spec_l00Src_pick c37.2 4 (O48.start (i := 0) rfl rfl)) (fun c50 v51 h52 hq53 => ?_)
    obtain ⟨e_v51, O54⟩ := hq53
    dsimp only at e_v51
    subst v51
    have O55 : Hold B h52 [(AV.ptr o1 1 0 0, .pt 3 [Sl.enc c50.2.code, iv c50.2.pos, AV.sc (.int .u64 c50.2.seed)]), (x11, obS (c5.1 : Sl Feat)), (x19, obS (c13.1 : Sl Feat)), (x33, obS ((setS (appS (some ([] : List Feat)) (c5.1.getD [])) 0 (⟨c37.1, a43.y, a43.d⟩ : Feat)) : Sl Feat))] := O48.merge (i := 0) rfl rfl O54
    refine sim_let (v := iv (wr (c49 + c50.1))) (aBin_add _ _) ?_
    have O56 : Hold B h52 [(x11, obS (c5.1 : Sl Feat)), (x33, obS ((setS (appS (some ([] : List Feat)) (c5.1.getD [])) 0 (⟨c37.1, a43.y, a43.d⟩ : Feat)) : Sl Feat))] := O55.sel [1, 3] (by decide) rfl
    exact sim_ret (release_of (by simp only [ids_tup, ids_aggD, ids_agg, ids_iv, ids_bv, ids_sv, ids_bt, ids_nilS, ids_enc, O56.idsD (A := Feat) (s := c5.1) 0 rfl, O56.idsD (A := Feat) (s := (setS (appS (some ([] : List Feat)) (c5.1.getD [])) 0 (⟨c37.1, a43.y, a43.d⟩ : Feat))) 1 rfl, List.map_append, List.map_nil, List.flatMap_cons, List.flatMap_nil, List.append_nil, List.nil_append]; simpa only [List.flatMap_cons, List.flatMap_nil, List.append_nil, List.nil_append] using O56.nd2) (by simp only [rel_tup, rel_aggD, rel_agg, rel_iv, rel_bv, rel_sv, rel_bt, rel_nilS, rel_enc, O56.relD (A := Feat) (s := c5.1) 0 rfl, O56.relD (A := Feat) (s := (setS (appS (some ([] : List Feat)) (c5.1.getD [])) 0 (⟨c37.1, a43.y, a43.d⟩ : Feat))) 1 rfl, omapc, omapn, obind_sm] <;> rfl))
  · refine sim_let (v := iv (((c5.1.getD []).length : Nat) : Int)) (O26.tab (A := Feat) (s := c5.1) 1 rfl).len ?_
    refine sim_let (v := iv (((c13.1.getD []).length : Nat) : Int)) (O26.tab (A := Feat) (s := c13.1) 2 rfl).len ?_
    refine sim_let (v := iv (wr ((((c5.1.getD []).length : Nat) : Int) - (((c13.1.getD []).length : Nat) : Int)))) (aBin_sub _ _) ?_
    refine sim_call1 he_spec_l09Size (snapD_int _ _) (fun c57 => ?_)
    refine sim_let2 (hand_plain (by rfl) _ _) ?_
    refine sim_gen he_spec_l00Src_pick (tg_spec_l00Src_pick c21.2 4 (O26.start (i := 0) rfl rfl)) (fun c58 v59 h60 hq61 => ?_)
    obtain ⟨e_v59, O62⟩ := hq61
    dsimp only at e_v59
    subst v59
    have O63 : Hold B h60 [(AV.ptr o1 1 0 0, .pt 3 [Sl.enc c58.2.code, iv c58.2.pos, AV.sc (.int .u64 c58.2.seed)]), (x11, obS (c5.1 : Sl Feat)), (x19, obS (c13.1 : Sl Feat))] := O26.merge (i := 0) rfl rfl O62
    refine sim_let (v := iv (wr (c57 + c58.1))) (aBin_add _ _) ?_
    have O64 : Hold B h60 [(x11, obS (c5.1 : Sl Feat)), (x19, obS (c13.1 : Sl Feat))] := O63.sel [1, 2] (by decide) rfl
    exact sim_ret (release_of (by simp only [ids_tup, ids_aggD, ids_agg, ids_iv, ids_bv, ids_sv, ids_bt, ids_nilS, ids_enc, O64.idsD (A := Feat) (s := c5.1) 0 rfl, O64.idsD (A := Feat) (s := c13.1) 1 rfl, List.map_append, List.map_nil, List.flatMap_cons, List.flatMap_nil, List.append_nil, List.nil_append]; simpa only [List.flatMap_cons, List.flatMap_nil, List.append_nil, List.nil_append] using O64.nd2) (by simp only [rel_tup, rel_aggD, rel_agg, rel_iv, rel_bv, rel_sv, rel_bt, rel_nilS, rel_enc, O64.relD (A := Feat) (s := c5.1) 0 rfl, O64.relD (A := Feat) (s := c13.1) 1 rfl, omapc, omapn, obind_sm] <;> rfl))
theorem tt_spec_A2Two : PureOK Try.prog n_spec_A2Two (C1 (fun c : (Sl Feat) × (Sl Feat) × Int => AV.tup [rS c.1, rS c.2.1, enc c.2.2]) t_spec_A2Two) := pureC1 (Econs tt_spec_l00From (EconsG (gen_of_den eo_spec_l00Src_one mixed hb_spec_l00Src_one) (EconsG (gen_of_den eo_spec_l00Src_pick mixed hb_spec_l00Src_pick) (EconsG (gen_of_den eo_spec_l09Draw mixed hb_spec_l09Draw) (Econs tt_spec_l09Size E0))))) mixed hb_spec_A2Two fun code_ => ts_spec_A2Two _ (by simp [envL]) (by simp [envL]) (by simp [envL]) (by simp [envL]) (by simp [envL]) code_

def s0_slices_IndexFunc_impl_Feat_impl_Feat (p_ : Feat → Option Bool) (s_ : Sl Feat) : Int → Option (Sum Int (Sum Unit Int)) := fun w3 =>
  bif decide (w3 < (((s_.getD []).length : Nat) : Int)) then
    obind (getI (s_.getD []) w3) fun a13 =>
    obind (p_ a13) fun c17 =>
    bif c17 then
      some (.inr (.inr w3))
    else
      some (.inl (wr (w3 + 1)))
  else
    some (.inr (.inl ()))
def t_slices_IndexFunc_impl_Feat_impl_Feat (p_ : Feat → Option Bool) (s_ : Sl Feat) : Option Int :=
  obind (loopT (s0_slices_IndexFunc_impl_Feat_impl_Feat p_ s_) 0) fun qq26 => match qq26 with
  | (.inl _) =>
      some (-1)
  | (.inr q10) =>
      some q10

theorem tl0_slices_IndexFunc_impl_Feat_impl_Feat (env : Nat → Contract) {B : Base} {K : Type} [Cod K] {g : Nat} {caps : K → List AV} {P : K → Feat → Option Bool} (hp : ∀ k (a : Feat) h, Sim (aCall (env g) (AV.agg (Row.cells a) :: caps k) h) (P k a) fun b r => r = (bv b, h))  (s_ : Sl Feat) (f_ : K)  {st : Int} {tm : TM} {h : Heap} (R : (fun (st : Int) tm h1 => match st with | w3 => tm = [Sl.enc s_, AV.fn g (caps f_), und, und, AV.top, AV.top, Sl.enc s_, iv (((s_.getD []).length : Nat) : Int), iv w3, AV.top, AV.top, AV.top, AV.top, AV.top, AV.top, AV.top, AV.top, AV.top, AV.top] ∧ Hold B h1 []) st tm h) : Sim (loopP hm0_slices_IndexFunc_impl_Feat_impl_Feat xm0_slices_IndexFunc_impl_Feat_impl_Feat (lb0_slices_IndexFunc_impl_Feat_impl_Feat env) tm h) (loopT (s0_slices_IndexFunc_impl_Feat_impl_Feat (P f_) s_) st) (fun (q : Sum Unit Int) (r : Res) => match q with | .inl _ => ∃ (z6 : AV) (z7 : AV) (h4 : Heap), r = (.exit 0, [Sl.enc s_, AV.fn g (caps f_), und, und, z6, z7, Sl.enc s_, iv (((s_.getD []).length : Nat) : Int), AV.top, AV.top, AV.top, AV.top, AV.top, AV.top, AV.top, AV.top, AV.top, AV.top, AV.top], h4) ∧ Hold B h4 [] | .inr q10 => ∃ (q11 : Int) (h8 : Heap), r = (.ret, [Sl.enc s_, AV.fn g (caps f_), und, und, iv q10, iv q11, Sl.enc s_, iv (((s_.getD []).length : Nat) : Int), AV.top, AV.top, AV.top, AV.top, AV.top, AV.top, AV.top, AV.top, AV.top, AV.top, AV.top], h8) ∧ Hold B h8 []) := by
  refine loop_sim (Rel := fun (st : Int) tm h1 => match st with | w3 => tm = [Sl.enc s_, AV.fn g (caps f_), und, und, AV.top, AV.top, Sl.enc s_, iv (((s_.getD []).length : Nat) : Int), iv w3, AV.top, AV.top, AV.top, AV.top, AV.top, AV.top, AV.top, AV.top, AV.top, AV.top] ∧ Hold B h1 []) (fun w3 tm h1 R => ?_) R
  obtain ⟨rfl, O2⟩ := R
  rw [e_lb0_slices_IndexFunc_impl_Feat_impl_Feat]
  unfold s0_slices_IndexFunc_impl_Feat_impl_Feat
  dsimp only
  refine sim_let (v := bv (decide (w3 < (((s_.getD []).length : Nat) : Int)))) (aBin_lss _ _) ?_
  refine sim_cond (fun c12 => ?_) (fun c12 => ?_)
  · refine sim_get (Tab.enc h1 s_) (fun m14 a13 hi15 hm16 => ?_)
    refine sim_let (v := AV.agg [iv a13.x, iv a13.y, iv a13.d]) ((Tab.enc h1 s_).ld hm16 true 3 0) ?_
    refine sim_bind2 (hp f_ a13 _) (fun c17 v18 hh19 hq20 => ?_)
    cases hq20
    refine sim_cond (fun c21 => ?_) (fun c21 => ?_)
    · exact sim_ret ⟨nofun, _, _, rfl, O2⟩
    · refine sim_let (v := iv (wr (w3 + 1))) (aBin_add _ _) ?_
      exact sim_ret ⟨rfl, rfl, O2⟩
  · exact sim_ret ⟨nofun, _, _, _, rfl, O2⟩
theorem ts_slices_IndexFunc_impl_Feat_impl_Feat (env : Nat → Contract) {K : Type} [Cod K] {g : Nat} {caps : K → List AV} {P : K → Feat → Option Bool} (hp : ∀ k (a : Feat) h, Sim (aCall (env g) (AV.agg (Row.cells a) :: caps k) h) (P k a) fun b r => r = (bv b, h))  (s_ : Sl Feat) (f_ : K) : Sim (denFn Try.prog env n_slices_IndexFunc_impl_Feat_impl_Feat [Sl.enc s_, AV.fn g (caps f_)] []) (t_slices_IndexFunc_impl_Feat_impl_Feat (P f_) s_) fun c p => release p.2 depth p.1 = some ((fun c : Int => enc c) c) := by
  have O := Hold.nil []
  generalize hB : (⟨[], []⟩ : Base) = B at O
  clear hB
  rw [e_slices_IndexFunc_impl_Feat_impl_Feat]
  unfold t_slices_IndexFunc_impl_Feat_impl_Feat
  refine sim_let (v := iv (((s_.getD []).length : Nat) : Int)) (Tab.enc [] s_).len ?_
  refine sim_bind ((tl0_slices_IndexFunc_impl_Feat_impl_Feat env hp s_ f_) ⟨rfl, O⟩) (fun qq26 r hq => ?_)
  rcases qq26 with _ | q10
  · obtain ⟨z6, z7, h4, rfl, O5⟩ := hq
    rw [e_lk0x0_slices_IndexFunc_impl_Feat_impl_Feat]
    exact sim_ret (release_plain (by rfl) _)
  · obtain ⟨q11, h8, rfl, O9⟩ := hq
    rw [e_lk0r_slices_IndexFunc_impl_Feat_impl_Feat]
    exact sim_ret (release_plain (by rfl) _)
theorem tt0_slices_IndexFunc_impl_Feat_impl_Feat {g : Nat} {t : Feat → Option Bool} (hg : PureOK Try.prog g (C1 (fun c : Bool => enc c) t)) : PureOK Try.prog n_slices_IndexFunc_impl_Feat_impl_Feat (C2 (fun c : Int => enc c) (fun (q : Sl Feat) (k : Clo0 g) => t_slices_IndexFunc_impl_Feat_impl_Feat ((fun _ : Clo0 g => t) k) q)) := pureC2 (Econs hg E0) mixed hb_slices_IndexFunc_impl_Feat_impl_Feat fun q k => ts_slices_IndexFunc_impl_Feat_impl_Feat _ (caps := fun _ => []) (P := (fun _ : Clo0 g => t)) (fun k a h => callP0 (by simp [envL]) (snapD_nr _ a rfl)) q k
theorem tt1_slices_IndexFunc_impl_Feat_impl_Feat {g : Nat} {X : Type} [Row X] {tp : Feat → Pt X → Option Bool} (hg : PureOK Try.prog g (C2 (fun c : Bool => enc c) tp)) : PureOK Try.prog n_slices_IndexFunc_impl_Feat_impl_Feat (C2 (fun c : Int => enc c) (fun (q : Sl Feat) (k : Clo g (Pt X)) => t_slices_IndexFunc_impl_Feat_impl_Feat ((fun (k : Clo g (Pt X)) a => tp a k.val) k) q)) := pureC2 (Econs hg E0) mixed hb_slices_IndexFunc_impl_Feat_impl_Feat fun q k => ts_slices_IndexFunc_impl_Feat_impl_Feat _ (caps := fun k : Clo g (Pt X) => [enc k.val]) (P := (fun (k : Clo g (Pt X)) a => tp a k.val)) (fun k a h => callP1 (by simp [envL]) (snapD_nr _ a rfl) (snapD_fptr _ _ _ _ rfl)) q k

def t_slices_ContainsFunc_impl_Feat_impl_Feat (p_ : Feat → Option Bool) (s_ : Sl Feat) : Option Bool :=
  obind (t_slices_IndexFunc_impl_Feat_impl_Feat p_ s_) fun c1 =>
  some (decide (0 ≤ c1))

theorem ts_slices_ContainsFunc_impl_Feat_impl_Feat (env : Nat → Contract) {K : Type} [Cod K] {g : Nat} {caps : K → List AV} {P : K → Feat → Option Bool} (hs : ∀ k h, snapD h (AV.fn g (caps k)) = some k) (he_slices_IndexFunc_impl_Feat_impl_Feat : env n_slices_IndexFunc_impl_Feat_impl_Feat = .pure (C2 (fun c : Int => enc c) (fun (q : Sl Feat) (k : K) => t_slices_IndexFunc_impl_Feat_impl_Feat (P k) q))) (s_ : Sl Feat) (f_ : K) : Sim (denFn Try.prog env n_slices_ContainsFunc_impl_Feat_impl_Feat [Sl.enc s_, AV.fn g (caps f_)] []) (t_slices_ContainsFunc_impl_Feat_impl_Feat (P f_) s_) fun c p => release p.2 depth p.1 = some ((fun c : Bool => enc c) c) := by
  have O := Hold.nil []
  generalize hB : (⟨[], []⟩ : Base) = B at O
  clear hB
  rw [e_slices_ContainsFunc_impl_Feat_impl_Feat]
  unfold t_slices_ContainsFunc_impl_Feat_impl_Feat
  refine sim_call2 (t := fun (q : Sl Feat) (k : K) => t_slices_IndexFunc_impl_Feat_impl_Feat (P k) q) he_slices_IndexFunc_impl_Feat_impl_Feat (snapD_enc _ _) (hs f_ _) (fun c1 => ?_)
  refine sim_let2 (hand_plain (by rfl) _ _) ?_
  refine sim_let (v := bv (decide (0 ≤ c1))) (aBin_geq _ _) ?_
  exact sim_ret (release_plain (by rfl) _)
theorem tt0_slices_ContainsFunc_impl_Feat_impl_Feat {g : Nat} {t : Feat → Option Bool} (hg : PureOK Try.prog g (C1 (fun c : Bool => enc c) t)) : PureOK Try.prog n_slices_ContainsFunc_impl_Feat_impl_Feat (C2 (fun c : Bool => enc c) (fun (q : Sl Feat) (k : Clo0 g) => t_slices_ContainsFunc_impl_Feat_impl_Feat ((fun _ : Clo0 g => t) k) q)) := pureC2 (Econs (tt0_slices_IndexFunc_impl_Feat_impl_Feat hg) E0) mixed hb_slices_ContainsFunc_impl_Feat_impl_Feat fun q k => ts_slices_ContainsFunc_impl_Feat_impl_Feat _ (caps := fun _ => []) (P := (fun _ : Clo0 g => t)) (fun k h => snapD_clo0 h g) (by simp [envL]) q k
theorem tt1_slices_ContainsFunc_impl_Feat_impl_Feat {g : Nat} {X : Type} [Row X] {tp : Feat → Pt X → Option Bool} (hg : PureOK Try.prog g (C2 (fun c : Bool => enc c) tp)) : PureOK Try.prog n_slices_ContainsFunc_impl_Feat_impl_Feat (C2 (fun c : Bool => enc c) (fun (q : Sl Feat) (k : Clo g (Pt X)) => t_slices_ContainsFunc_impl_Feat_impl_Feat ((fun (k : Clo g (Pt X)) a => tp a k.val) k) q)) := pureC2 (Econs (tt1_slices_IndexFunc_impl_Feat_impl_Feat hg) E0) mixed hb_slices_ContainsFunc_impl_Feat_impl_Feat fun q k => ts_slices_ContainsFunc_impl_Feat_impl_Feat _ (caps := fun k : Clo g (Pt X) => [enc k.val]) (P := (fun (k : Clo g (Pt X)) a => tp a k.val)) (fun k h => snapD_cloE h k) (by simp [envL]) q k

def t_impl_ValidFeat (f_ : Feat) : Option Bool :=
  obind (some (within f_.x 0 255)) fun c5 =>
  obind (bif c5 then (obind (some (within f_.y 0 255)) fun c7 => some c7) else some false) fun c8 =>
  obind (bif (bif c5 then c8 else false) then (obind (some (within f_.d 0 7)) fun c10 => some c10) else some false) fun c11 =>
  some (bif (bif c5 then c8 else false) then c11 else false)

theorem ts_impl_ValidFeat (env : Nat → Contract) (he_impl_within : env n_impl_within = .pure (T3 within)) (f_ : Feat) : Sim (denFn Try.prog env n_impl_ValidFeat [AV.agg [iv f_.x, iv f_.y, iv f_.d]] []) (t_impl_ValidFeat f_) fun c p => release p.2 depth p.1 = some ((fun c : Bool => enc c) c) := by
  have O := Hold.nil []
  generalize hB : (⟨[], []⟩ : Base) = B at O
  clear hB
  rw [e_impl_ValidFeat]
  unfold t_impl_ValidFeat
  refine sim_box O (cs := [iv f_.x, iv f_.y, iv f_.d]) (by first | rfl | simp) (fun o1 h2 O3 => ?_)
  replace O3 : Hold B h2 [(AV.ptr o1 1 0 0, .pt 3 [iv f_.x, iv f_.y, iv f_.d])] := O3
  refine sim_let (v := AV.ptr o1 1 0 0) rfl ?_
  refine sim_let (v := iv f_.x) (O3.ld 0 rfl false 1 0) ?_
  refine sim_callV3 (t := within) he_impl_within (snapD_int _ _) (snapD_int _ _) (snapD_int _ _) (fun c5 => ?_)
  refine sim_guardT (e := bv) (fun hb6 => ?_) (fun c8 => ?_)
  · refine sim_let (v := AV.ptr o1 1 0 1) rfl ?_
    refine sim_let (v := iv f_.y) (O3.ld 0 rfl false 1 1) ?_
    refine sim_callV3 (t := within) he_impl_within (snapD_int _ _) (snapD_int _ _) (snapD_int _ _) (fun c7 => ?_)
    exact sim_ret rfl
  · refine sim_let (v := bv (bif c5 then c8 else false)) (pick_b _ _ _) ?_
    refine sim_guardT (e := bv) (fun hb9 => ?_) (fun c11 => ?_)
    · refine sim_let (v := AV.ptr o1 1 0 2) rfl ?_
      refine sim_let (v := iv f_.d) (O3.ld 0 rfl false 1 2) ?_
      refine sim_callV3 (t := within) he_impl_within (snapD_int _ _) (snapD_int _ _) (snapD_int _ _) (fun c10 => ?_)
      exact sim_ret rfl
    · refine sim_let (v := bv (bif (bif c5 then c8 else false) then c11 else false)) (pick_b _ _ _) ?_
      exact sim_ret (release_plain (by rfl) _)
theorem tt_impl_ValidFeat : PureOK Try.prog n_impl_ValidFeat (C1 (fun c : Bool => enc c) t_impl_ValidFeat) := pureC1 (Econs ok_impl_within E0) mixed hb_impl_ValidFeat fun f_ => ts_impl_ValidFeat _ (by simp [envL]) f_

def t_impl_areFeats_1 (f_ : Feat) : Option Bool :=
  obind (t_impl_ValidFeat f_) fun c5 =>
  some (!c5)

theorem ts_impl_areFeats_1 (env : Nat → Contract) (he_impl_ValidFeat : env n_impl_ValidFeat = .pure (C1 (fun c : Bool => enc c) t_impl_ValidFeat)) (f_ : Feat) : Sim (denFn Try.prog env n_impl_areFeats_1 [AV.agg [iv f_.x, iv f_.y, iv f_.d]] []) (t_impl_areFeats_1 f_) fun c p => release p.2 depth p.1 = some ((fun c : Bool => enc c) c) := by
  have O := Hold.nil []
  generalize hB : (⟨[], []⟩ : Base) = B at O
  clear hB
  rw [e_impl_areFeats_1]
  unfold t_impl_areFeats_1
  refine sim_box O (cs := [iv f_.x, iv f_.y, iv f_.d]) (by first | rfl | simp) (fun o1 h2 O3 => ?_)
  replace O3 : Hold B h2 [(AV.ptr o1 1 0 0, .pt 3 [iv f_.x, iv f_.y, iv f_.d])] := O3
  refine sim_let (v := AV.agg [iv f_.x, iv f_.y, iv f_.d]) (O3.ld 0 rfl true 3 0) ?_
  refine sim_call1 he_impl_ValidFeat (snapD_nr _ f_ rfl) (fun c5 => ?_)
  refine sim_let2 (hand_plain (by rfl) _ _) ?_
  refine sim_let (v := bv (!c5)) (aUn_not _) ?_
  exact sim_ret (release_plain (by rfl) _)
theorem tt_impl_areFeats_1 : PureOK Try.prog n_impl_areFeats_1 (C1 (fun c : Bool => enc c) t_impl_areFeats_1) := pureC1 (Econs tt_impl_ValidFeat E0) mixed hb_impl_areFeats_1 fun f_ => ts_impl_areFeats_1 _ (by simp [envL]) f_

def t_impl_areFeats (list_ : Sl Feat) (most_ : Int) : Option Bool :=
  obind (bif decide (1 ≤ (((list_.getD []).length : Nat) : Int)) then (some (decide ((((list_.getD []).length : Nat) : Int) ≤ most_))) else some false) fun c2 =>
  obind (bif (bif decide (1 ≤ (((list_.getD []).length : Nat) : Int)) then c2 else false) then (obind (t_slices_ContainsFunc_impl_Feat_impl_Feat t_impl_areFeats_1 list_) fun c4 => some (!c4)) else some false) fun c5 =>
  some (bif (bif decide (1 ≤ (((list_.getD []).length : Nat) : Int)) then c2 else false) then c5 else false)

theorem ts_impl_areFeats (env : Nat → Contract) (he_slices_ContainsFunc_impl_Feat_impl_Feat : env n_slices_ContainsFunc_impl_Feat_impl_Feat = .pure (C2 (fun c : Bool => enc c) (fun (q : Sl Feat) (k : Clo0 n_impl_areFeats_1) => t_slices_ContainsFunc_impl_Feat_impl_Feat ((fun _ : Clo0 n_impl_areFeats_1 => t_impl_areFeats_1) k) q))) (list_ : Sl Feat) (most_ : Int) : Sim (denFn Try.prog env n_impl_areFeats [Sl.enc list_, iv most_] []) (t_impl_areFeats list_ most_) fun c p => release p.2 depth p.1 = some ((fun c : Bool => enc c) c) := by
  have O := Hold.nil []
  generalize hB : (⟨[], []⟩ : Base) = B at O
  clear hB
  rw [e_impl_areFeats]
  unfold t_impl_areFeats
  refine sim_let (v := iv (((list_.getD []).length : Nat) : Int)) (Tab.enc [] list_).len ?_
  refine sim_let (v := bv (decide (1 ≤ (((list_.getD []).length : Nat) : Int)))) (aBin_geq _ _) ?_
  refine sim_guardT (e := bv) (fun hb1 => ?_) (fun c2 => ?_)
  · refine sim_let (v := iv (((list_.getD []).length : Nat) : Int)) (Tab.enc [] list_).len ?_
    refine sim_let (v := bv (decide ((((list_.getD []).length : Nat) : Int) ≤ most_))) (aBin_leq _ _) ?_
    exact sim_ret rfl
  · refine sim_let (v := bv (bif decide (1 ≤ (((list_.getD []).length : Nat) : Int)) then c2 else false)) (pick_b _ _ _) ?_
    refine sim_guardT (e := bv) (fun hb3 => ?_) (fun c5 => ?_)
    · refine sim_call2 (t := fun (q : Sl Feat) (k : Clo0 n_impl_areFeats_1) => t_slices_ContainsFunc_impl_Feat_impl_Feat ((fun _ : Clo0 n_impl_areFeats_1 => t_impl_areFeats_1) k) q) he_slices_ContainsFunc_impl_Feat_impl_Feat (snapD_enc _ _) (snapD_clo0 _ _) (fun c4 => ?_)
      refine sim_let2 (hand_plain (by rfl) _ _) ?_
      refine sim_let (v := bv (!c4)) (aUn_not _) ?_
      exact sim_ret rfl
    · refine sim_let (v := bv (bif (bif decide (1 ≤ (((list_.getD []).length : Nat) : Int)) then c2 else false) then c5 else false)) (pick_b _ _ _) ?_
      exact sim_ret (release_plain (by rfl) _)
theorem tt_impl_areFeats : PureOK Try.prog n_impl_areFeats (C2 (fun c : Bool => enc c) t_impl_areFeats) := pureC2 (Econs (tt0_slices_ContainsFunc_impl_Feat_impl_Feat tt_impl_areFeats_1) E0) mixed hb_impl_areFeats fun list_ most_ => ts_impl_areFeats _ (by simp [envL]) list_ most_

def t_impl_ValidSeq (list_ : Sl Feat) : Option Bool :=
  obind (t_impl_areFeats list_ 72) fun c1 =>
  some c1

theorem ts_impl_ValidSeq (env : Nat → Contract) (he_impl_areFeats : env n_impl_areFeats = .pure (C2 (fun c : Bool => enc c) t_impl_areFeats)) (list_ : Sl Feat) : Sim (denFn Try.prog env n_impl_ValidSeq [Sl.enc list_] []) (t_impl_ValidSeq list_) fun c p => release p.2 depth p.1 = some ((fun c : Bool => enc c) c) := by
  have O := Hold.nil []
  generalize hB : (⟨[], []⟩ : Base) = B at O
  clear hB
  rw [e_impl_ValidSeq]
  unfold t_impl_ValidSeq
  refine sim_call2 he_impl_areFeats (snapD_enc _ _) (snapD_int _ _) (fun c1 => ?_)
  refine sim_let2 (hand_plain (by rfl) _ _) ?_
  exact sim_ret (release_plain (by rfl) _)
theorem tt_impl_ValidSeq : PureOK Try.prog n_impl_ValidSeq (C1 (fun c : Bool => enc c) t_impl_ValidSeq) := pureC1 (Econs tt_impl_areFeats E0) mixed hb_impl_ValidSeq fun list_ => ts_impl_ValidSeq _ (by simp [envL]) list_

def t_impl_isBand (band_ : Int) (n_ : Int) (m_ : Int) : Option Bool :=
  obind (some (within band_ 0 72)) fun c1 =>
  obind (bif c1 then (obind (some (absI (wr (n_ - m_)))) fun c3 => some (decide (c3 ≤ band_))) else some false) fun c4 =>
  some (bif c1 then c4 else false)

theorem ts_impl_isBand (env : Nat → Contract) (he_impl_abs : env n_impl_abs = .pure (T1 absI)) (he_impl_within : env n_impl_within = .pure (T3 within)) (band_ : Int) (n_ : Int) (m_ : Int) : Sim (denFn Try.prog env n_impl_isBand [iv band_, iv n_, iv m_] []) (t_impl_isBand band_ n_ m_) fun c p => release p.2 depth p.1 = some ((fun c : Bool => enc c) c) := by
  have O := Hold.nil []
  generalize hB : (⟨[], []⟩ : Base) = B at O
  clear hB
  rw [e_impl_isBand]
  unfold t_impl_isBand
  refine sim_callV3 (t := within) he_impl_within (snapD_int _ _) (snapD_int _ _) (snapD_int _ _) (fun c1 => ?_)
  refine sim_guardT (e := bv) (fun hb2 => ?_) (fun c4 => ?_)
  · refine sim_let (v := iv (wr (n_ - m_))) (aBin_sub _ _) ?_
    refine sim_callV1 (t := absI) he_impl_abs (snapD_int _ _) (fun c3 => ?_)
    refine sim_let (v := bv (decide (c3 ≤ band_))) (aBin_leq _ _) ?_
    exact sim_ret rfl
  · refine sim_let (v := bv (bif c1 then c4 else false)) (pick_b _ _ _) ?_
    exact sim_ret (release_plain (by rfl) _)
theorem tt_impl_isBand : PureOK Try.prog n_impl_isBand (C3 (fun c : Bool => enc c) t_impl_isBand) := pureC3 (Econs ok_impl_abs (Econs ok_impl_within E0)) mixed hb_impl_isBand fun band_ n_ m_ => ts_impl_isBand _ (by simp [envL]) (by simp [envL]) band_ n_ m_

def t_impl_matchable (a_ : Sl Feat) (b_ : Sl Feat) (band_ : Int) : Option Int :=
  obind (t_impl_ValidSeq a_) fun c1 =>
  obind (bif !c1 then some false else (obind (t_impl_ValidSeq b_) fun c3 => some (!c3))) fun c4 =>
  bif (bif !c1 then true else c4) then
    some 1
  else
    obind (t_impl_isBand band_ (((a_.getD []).length : Nat) : Int) (((b_.getD []).length : Nat) : Int)) fun c6 =>
    bif !c6 then
      some 2
    else
      some 0

theorem ts_impl_matchable (env : Nat → Contract) (he_impl_ValidSeq : env n_impl_ValidSeq = .pure (C1 (fun c : Bool => enc c) t_impl_ValidSeq)) (he_impl_isBand : env n_impl_isBand = .pure (C3 (fun c : Bool => enc c) t_impl_isBand)) (a_ : Sl Feat) (b_ : Sl Feat) (band_ : Int) : Sim (denFn Try.prog env n_impl_matchable [Sl.enc a_, Sl.enc b_, iv band_] []) (t_impl_matchable a_ b_ band_) fun c p => release p.2 depth p.1 = some ((fun c : Int => enc c) c) := by
  have O := Hold.nil []
  generalize hB : (⟨[], []⟩ : Base) = B at O
  clear hB
  rw [e_impl_matchable]
  unfold t_impl_matchable
  refine sim_call1 he_impl_ValidSeq (snapD_enc _ _) (fun c1 => ?_)
  refine sim_let2 (hand_plain (by rfl) _ _) ?_
  refine sim_let (v := bv (!c1)) (aUn_not _) ?_
  refine sim_guardF (e := bv) (fun hb2 => ?_) (fun c4 => ?_)
  · refine sim_call1 he_impl_ValidSeq (snapD_enc _ _) (fun c3 => ?_)
    refine sim_let2 (hand_plain (by rfl) _ _) ?_
    refine sim_let (v := bv (!c3)) (aUn_not _) ?_
    exact sim_ret rfl
  · refine sim_let (v := bv (bif !c1 then true else c4)) (pick_b' _ _ _) ?_
    refine sim_cond (fun c5 => ?_) (fun c5 => ?_)
    · exact sim_ret (release_plain (by rfl) _)
    · refine sim_let (v := iv (((a_.getD []).length : Nat) : Int)) (Tab.enc [] a_).len ?_
      refine sim_let (v := iv (((b_.getD []).length : Nat) : Int)) (Tab.enc [] b_).len ?_
      refine sim_call3 he_impl_isBand (snapD_int _ _) (snapD_int _ _) (snapD_int _ _) (fun c6 => ?_)
      refine sim_let2 (hand_plain (by rfl) _ _) ?_
      refine sim_let (v := bv (!c6)) (aUn_not _) ?_
      refine sim_cond (fun c7 => ?_) (fun c7 => ?_)
      · exact sim_ret (release_plain (by rfl) _)
      · exact sim_ret (release_plain (by rfl) _)
theorem tt_impl_matchable : PureOK Try.prog n_impl_matchable (C3 (fun c : Int => enc c) t_impl_matchable) := pureC3 (Econs tt_impl_ValidSeq (Econs tt_impl_isBand E0)) mixed hb_impl_matchable fun a_ b_ band_ => ts_impl_matchable _ (by simp [envL]) (by simp [envL]) a_ b_ band_

def s1_impl_envelopeOf (s69 : Sl Feat) : (Int × Int × Int × Int × Int × Int × Int) → Option (Sum (Int × Int × Int × Int × Int × Int × Int) (Int × Int × Int × Int)) := fun (w70, w71, w72, w73, w74, w75, w78) =>
  bif decide (w78 < (((s69.getD []).length : Nat) : Int)) then
    obind (getI (s69.getD []) w78) fun a138 =>
    some (.inl (min w70 a138.x, min w71 a138.y, w72, max w73 a138.x, max w74 a138.y, w75, wr (w78 + 1)))
  else
    some (.inr (w70, w71, w73, w74))
def s0_impl_envelopeOf (b_ : Sl Feat) (n_ : Int) (band_ : Int) : ((Sl Int) × (Sl Int) × (Sl Int) × (Sl Int) × Int) → Option (Sum ((Sl Int) × (Sl Int) × (Sl Int) × (Sl Int) × Int) ((Sl Int) × (Sl Int) × (Sl Int) × (Sl Int))) := fun (w18, w20, w22, w24, w28) =>
  bif decide (w28 < n_) then
    obind (getI (b_.getD []) (max 0 (wr (w28 - band_)))) fun a49 =>
    obind (getI (b_.getD []) (max 0 (wr (w28 - band_)))) fun a53 =>
    obind (subS b_ (some (max 0 (wr (w28 - band_)))) (some (min (((b_.getD []).length : Nat) : Int) (wr ((wr (w28 + band_)) + 1))))) fun s69 =>
    obind (loopT (s1_impl_envelopeOf s69) (a49.x, a49.y, a49.d, a53.x, a53.y, a53.d, 0)) fun (q81, q82, q84, q85) =>
    obind (appO w18 ([q81] : List Int)) fun _ =>
    obind (appO w20 ([q84] : List Int)) fun _ =>
    obind (appO w22 ([q82] : List Int)) fun _ =>
    obind (appO w24 ([q85] : List Int)) fun _ =>
    some (.inl ((appS w18 ([q81] : List Int)), (appS w20 ([q84] : List Int)), (appS w22 ([q82] : List Int)), (appS w24 ([q85] : List Int)), wr (w28 + 1)))
  else
    some (.inr (w18, w20, w22, w24))
def t_impl_envelopeOf (b_ : Sl Feat) (n_ : Int) (band_ : Int) : Option Envelope :=
  obind (loopT (s0_impl_envelopeOf b_ n_ band_) ((none : Sl Int), (none : Sl Int), (none : Sl Int), (none : Sl Int), 0)) fun (q32, q34, q36, q38) =>
  some (⟨q32, q34, q36, q38⟩ : Envelope)

theorem tl1_impl_envelopeOf (env : Nat → Contract) {B : Base}  (b_ : Sl Feat) (n_ : Int) (band_ : Int) (o1 : Nat) (o5 : Nat) (z17 : AV) (w18 : Sl Int) (z19 : AV) (w20 : Sl Int) (z21 : AV) (w22 : Sl Int) (z23 : AV) (w24 : Sl Int) (w28 : Int) (a49 : Feat) (m50 : Nat) (a53 : Feat) (m54 : Nat) (o57 : Nat) (o61 : Nat) (s69 : Sl Feat)  {st : Int × Int × Int × Int × Int × Int × Int} {tm : TM} {h : Heap} (R : (fun (st : Int × Int × Int × Int × Int × Int × Int) tm h76 => match st with | (w70, w71, w72, w73, w74, w75, w78) => tm = ((Sl.enc b_) :: (iv n_) :: (iv band_) :: und :: und :: und :: (AV.ptr o1 1 0 0) :: (AV.ptr o5 1 0 0) :: (iv w28) :: (iv (max 0 (wr (w28 - band_)))) :: (iv (min (((b_.getD []).length : Nat) : Int) (wr ((wr (w28 + band_)) + 1)))) :: (AV.ptr o57 1 0 0) :: (AV.ptr o61 1 0 0) :: und :: AV.top :: (iv n_) :: (iv w28) :: (bv (decide (w28 < n_))) :: (iv w28) :: (iv w28) :: (iv band_) :: (iv (wr (w28 - band_))) :: (iv (max 0 (wr (w28 - band_)))) :: (Sl.enc b_) :: (iv (((b_.getD []).length : Nat) : Int)) :: (iv w28) :: (iv band_) :: (iv (wr (w28 + band_))) :: (iv (wr ((wr (w28 + band_)) + 1))) :: (iv (min (((b_.getD []).length : Nat) : Int) (wr ((wr (w28 + band_)) + 1)))) :: (Sl.enc b_) :: (iv (max 0 (wr (w28 - band_)))) :: (elp (Sl.enc b_) m50 0) :: (AV.agg [iv a49.x, iv a49.y, iv a49.d]) :: (Sl.enc b_) :: (iv (max 0 (wr (w28 - band_)))) :: (elp (Sl.enc b_) m54 0) :: (AV.agg [iv a53.x, iv a53.y, iv a53.d]) :: (Sl.enc b_) :: (iv (max 0 (wr (w28 - band_)))) :: (iv (min (((b_.getD []).length : Nat) : Int) (wr ((wr (w28 + band_)) + 1)))) :: (Sl.enc s69) :: (iv (((s69.getD []).length : Nat) : Int)) :: (iv w78) :: AV.top :: AV.top :: AV.top :: AV.top :: AV.top :: AV.top :: AV.top :: AV.top :: AV.top :: AV.top :: AV.top :: AV.top :: AV.top :: AV.top :: AV.top :: AV.top :: AV.top :: AV.top :: AV.top :: AV.top :: AV.top :: AV.top :: AV.top :: AV.top :: AV.top :: AV.top :: AV.top :: AV.top :: AV.top :: AV.top :: AV.top :: AV.top :: AV.top :: AV.top :: AV.top :: AV.top :: AV.top :: AV.top :: AV.top :: AV.top :: AV.top :: AV.top :: AV.top :: AV.top :: AV.top :: AV.top :: AV.top :: AV.top :: AV.top :: AV.top :: AV.top :: AV.top :: AV.top :: AV.top :: AV.top :: AV.top :: AV.top :: und :: []) ∧ Hold B h76 [(AV.ptr o1 1 0 0, .pt 4 [nilS, nilS, nilS, nilS]), (AV.ptr o5 1 0 0, .pt 4 [z17, z19, z21, z23]), (z17, obS (w18 : Sl Int)), (z19, obS (w20 : Sl Int)), (z21, obS (w22 : Sl Int)), (z23, obS (w24 : Sl Int)), (AV.ptr o57 1 0 0, .pt 3 [iv w70, iv w71, iv w72]), (AV.ptr o61 1 0 0, .pt 3 [iv w73, iv w74, iv w75])]) st tm h) : Sim (loopP hm1_impl_envelopeOf xm1_impl_envelopeOf (lb1_impl_envelopeOf env) tm h) (loopT (s1_impl_envelopeOf s69) st) (fun (q : Int × Int × Int × Int) (r : Res) => match q with | (q81, q82, q84, q85) => ∃ (q83 : Int) (q86 : Int) (z87 : AV) (h79 : Heap), r = (.exit 2, ((Sl.enc b_) :: (iv n_) :: (iv band_) :: und :: und :: und :: (AV.ptr o1 1 0 0) :: (AV.ptr o5 1 0 0) :: (iv w28) :: (iv (max 0 (wr (w28 - band_)))) :: (iv (min (((b_.getD []).length : Nat) : Int) (wr ((wr (w28 + band_)) + 1)))) :: (AV.ptr o57 1 0 0) :: (AV.ptr o61 1 0 0) :: und :: z87 :: (iv n_) :: (iv w28) :: (bv (decide (w28 < n_))) :: (iv w28) :: (iv w28) :: (iv band_) :: (iv (wr (w28 - band_))) :: (iv (max 0 (wr (w28 - band_)))) :: (Sl.enc b_) :: (iv (((b_.getD []).length : Nat) : Int)) :: (iv w28) :: (iv band_) :: (iv (wr (w28 + band_))) :: (iv (wr ((wr (w28 + band_)) + 1))) :: (iv (min (((b_.getD []).length : Nat) : Int) (wr ((wr (w28 + band_)) + 1)))) :: (Sl.enc b_) :: (iv (max 0 (wr (w28 - band_)))) :: (elp (Sl.enc b_) m50 0) :: (AV.agg [iv a49.x, iv a49.y, iv a49.d]) :: (Sl.enc b_) :: (iv (max 0 (wr (w28 - band_)))) :: (elp (Sl.enc b_) m54 0) :: (AV.agg [iv a53.x, iv a53.y, iv a53.d]) :: (Sl.enc b_) :: (iv (max 0 (wr (w28 - band_)))) :: (iv (min (((b_.getD []).length : Nat) : Int) (wr ((wr (w28 + band_)) + 1)))) :: (Sl.enc s69) :: (iv (((s69.getD []).length : Nat) : Int)) :: AV.top :: AV.top :: AV.top :: AV.top :: AV.top :: AV.top :: AV.top :: AV.top :: AV.top :: AV.top :: AV.top :: AV.top :: AV.top :: AV.top :: AV.top :: AV.top :: AV.top :: AV.top :: AV.top :: AV.top :: AV.top :: AV.top :: AV.top :: AV.top :: AV.top :: AV.top :: AV.top :: AV.top :: AV.top :: AV.top :: AV.top :: AV.top :: AV.top :: AV.top :: AV.top :: AV.top :: AV.top :: AV.top :: AV.top :: AV.top :: AV.top :: AV.top :: AV.top :: AV.top :: AV.top :: AV.top :: AV.top :: AV.top :: AV.top :: AV.top :: AV.top :: AV.top :: AV.top :: AV.top :: AV.top :: AV.top :: AV.top :: AV.top :: und :: []), h79) ∧ Hold B h79 [(AV.ptr o1 1 0 0, .pt 4 [nilS, nilS, nilS, nilS]), (AV.ptr o5 1 0 0, .pt 4 [z17, z19, z21, z23]), (z17, obS (w18 : Sl Int)), (z19, obS (w20 : Sl Int)), (z21, obS (w22 : Sl Int)), (z23, obS (w24 : Sl Int)), (AV.ptr o57 1 0 0, .pt 3 [iv q81, iv q82, iv q83]), (AV.ptr o61 1 0 0, .pt 3 [iv q84, iv q85, iv q86])]) := by
  refine loop_sim (Rel := fun (st : Int × Int × Int × Int × Int × Int × Int) tm h76 => match st with | (w70, w71, w72, w73, w74, w75, w78) => tm = ((Sl.enc b_) :: (iv n_) :: (iv band_) :: und :: und :: und :: (AV.ptr o1 1 0 0) :: (AV.ptr o5 1 0 0) :: (iv w28) :: (iv (max 0 (wr (w28 - band_)))) :: (iv (min (((b_.getD []).length : Nat) : Int) (wr ((wr (w28 + band_)) + 1)))) :: (AV.ptr o57 1 0 0) :: (AV.ptr o61 1 0 0) :: und :: AV.top :: (iv n_) :: (iv w28) :: (bv (decide (w28 < n_))) :: (iv w28) :: (iv w28) :: (iv band_) :: (iv (wr (w28 - band_))) :: (iv (max 0 (wr (w28 - band_)))) :: (Sl.enc b_) :: (iv (((b_.getD []).length : Nat) : Int)) :: (iv w28) :: (iv band_) :: (iv (wr (w28 + band_))) :: (iv (wr ((wr (w28 + band_)) + 1))) :: (iv (min (((b_.getD []).length : Nat) : Int) (wr ((wr (w28 + band_)) + 1)))) :: (Sl.enc b_) :: (iv (max 0 (wr (w28 - band_)))) :: (elp (Sl.enc b_) m50 0) :: (AV.agg [iv a49.x, iv a49.y, iv a49.d]) :: (Sl.enc b_) :: (iv (max 0 (wr (w28 - band_)))) :: (elp (Sl.enc b_) m54 0) :: (AV.agg [iv a53.x, iv a53.y, iv a53.d]) :: (Sl.enc b_) :: (iv (max 0 (wr (w28 - band_)))) :: (iv (min (((b_.getD []).length : Nat) : Int) (wr ((wr (w28 + band_)) + 1)))) :: (Sl.enc s69) :: (iv (((s69.getD []).length : Nat) : Int)) :: (iv w78) :: AV.top :: AV.top :: AV.top :: AV.top :: AV.top :: AV.top :: AV.top :: AV.top :: AV.top :: AV.top :: AV.top :: AV.top :: AV.top :: AV.top :: AV.top :: AV.top :: AV.top :: AV.top :: AV.top :: AV.top :: AV.top :: AV.top :: AV.top :: AV.top :: AV.top :: AV.top :: AV.top :: AV.top :: AV.top :: AV.top :: AV.top :: AV.top :: AV.top :: AV.top :: AV.top :: AV.top :: AV.top :: AV.top :: AV.top :: AV.top :: AV.top :: AV.top :: AV.top :: AV.top :: AV.top :: AV.top :: AV.top :: AV.top :: AV.top :: AV.top :: AV.top :: AV.top :: AV.top :: AV.top :: AV.top :: AV.top :: AV.top :: und :: []) ∧ Hold B h76 [(AV.ptr o1 1 0 0, .pt 4 [nilS, nilS, nilS, nilS]), (AV.ptr o5 1 0 0, .pt 4 [z17, z19, z21, z23]), (z17, obS (w18 : Sl Int)), (z19, obS (w20 : Sl Int)), (z21, obS (w22 : Sl Int)), (z23, obS (w24 : Sl Int)), (AV.ptr o57 1 0 0, .pt 3 [iv w70, iv w71, iv w72]), (AV.ptr o61 1 0 0, .pt 3 [iv w73, iv w74, iv w75])]) (fun st tm h76 R => ?_) R
  obtain ⟨w70, w71, w72, w73, w74, w75, w78⟩ := st
  obtain ⟨rfl, O77⟩ := R
  rw [e_lb1_impl_envelopeOf]
  unfold s1_impl_envelopeOf
  dsimp only
  refine sim_let (v := bv (decide (w78 < (((s69.getD []).length : Nat) : Int)))) (aBin_lss _ _) ?_
  refine sim_cond (fun c137 => ?_) (fun c137 => ?_)
  · refine sim_get (Tab.enc h76 s69) (fun m139 a138 hi140 hm141 => ?_)
    refine sim_let (v := AV.agg [iv a138.x, iv a138.y, iv a138.d]) ((Tab.enc h76 s69).ld hm141 true 3 0) ?_
    refine sim_box O77 (cs := [iv 0, iv 0, iv 0]) (by first | rfl | simp) (fun o142 h143 O144 => ?_)
    replace O144 : Hold B h143 [(AV.ptr o1 1 0 0, .pt 4 [nilS, nilS, nilS, nilS]), (AV.ptr o5 1 0 0, .pt 4 [z17, z19, z21, z23]), (z17, obS (w18 : Sl Int)), (z19, obS (w20 : Sl Int)), (z21, obS (w22 : Sl Int)), (z23, obS (w24 : Sl Int)), (AV.ptr o57 1 0 0, .pt 3 [iv w70, iv w71, iv w72]), (AV.ptr o61 1 0 0, .pt 3 [iv w73, iv w74, iv w75]), (AV.ptr o142 1 0 0, .pt 3 [iv 0, iv 0, iv 0])] := O144
    refine sim_store O144 8 (cs' := [iv a138.x, iv a138.y, iv a138.d]) rfl (by first | rfl | simp) (by simp) (by first | rfl | simp) (by first | rfl | simp [splice]) (fun h146 O147 => ?_)
    replace O147 : Hold B h146 [(AV.ptr o1 1 0 0, .pt 4 [nilS, nilS, nilS, nilS]), (AV.ptr o5 1 0 0, .pt 4 [z17, z19, z21, z23]), (z17, obS (w18 : Sl Int)), (z19, obS (w20 : Sl Int)), (z21, obS (w22 : Sl Int)), (z23, obS (w24 : Sl Int)), (AV.ptr o57 1 0 0, .pt 3 [iv w70, iv w71, iv w72]), (AV.ptr o61 1 0 0, .pt 3 [iv w73, iv w74, iv w75]), (AV.ptr o142 1 0 0, .pt 3 [iv a138.x, iv a138.y, iv a138.d])] := O147
    refine sim_let (v := AV.ptr o57 1 0 0) rfl ?_
    refine sim_let (v := iv w70) (O147.ld 6 rfl false 1 0) ?_
    refine sim_let (v := AV.ptr o142 1 0 0) rfl ?_
    refine sim_let (v := iv a138.x) (O147.ld 8 rfl false 1 0) ?_
    refine sim_let (v := iv (min w70 a138.x)) (aFold_min _ _) ?_
    refine sim_let (v := AV.ptr o61 1 0 0) rfl ?_
    refine sim_let (v := iv w73) (O147.ld 7 rfl false 1 0) ?_
    refine sim_let (v := AV.ptr o142 1 0 0) rfl ?_
    refine sim_let (v := iv a138.x) (O147.ld 8 rfl false 1 0) ?_
    refine sim_let (v := iv (max w73 a138.x)) (aFold_max _ _) ?_
    refine sim_let (v := AV.ptr o57 1 0 0) rfl ?_
    refine sim_guardP ⟨⟨(at_of (v := iv w70) (O147.ld 6 rfl false 1 0)), trivial⟩, ⟨⟨(at_of (v := iv a138.x) (O147.ld 8 rfl false 1 0)), trivial⟩, trivial⟩⟩ ?_
    refine sim_store O147 6 (cs' := [iv (min w70 a138.x), iv w71, iv w72]) rfl (by first | rfl | simp) (by simp) (by first | rfl | simp) (by first | rfl | simp [splice]) (fun h148 O149 => ?_)
    replace O149 : Hold B h148 [(AV.ptr o1 1 0 0, .pt 4 [nilS, nilS, nilS, nilS]), (AV.ptr o5 1 0 0, .pt 4 [z17, z19, z21, z23]), (z17, obS (w18 : Sl Int)), (z19, obS (w20 : Sl Int)), (z21, obS (w22 : Sl Int)), (z23, obS (w24 : Sl Int)), (AV.ptr o57 1 0 0, .pt 3 [iv (min w70 a138.x), iv w71, iv w72]), (AV.ptr o61 1 0 0, .pt 3 [iv w73, iv w74, iv w75]), (AV.ptr o142 1 0 0, .pt 3 [iv a138.x, iv a138.y, iv a138.d])] := O149
    refine sim_let (v := AV.ptr o61 1 0 0) rfl ?_
    refine sim_guardP ⟨⟨(at_of (v := iv w73) (O147.ld 7 rfl false 1 0)), ⟨(at_of (v := iv w73) (O149.ld 7 rfl false 1 0)), trivial⟩⟩, ⟨⟨(at_of (v := iv a138.x) (O147.ld 8 rfl false 1 0)), ⟨(at_of (v := iv a138.x) (O149.ld 8 rfl false 1 0)), trivial⟩⟩, trivial⟩⟩ ?_
    refine sim_store O149 7 (cs' := [iv (max w73 a138.x), iv w74, iv w75]) rfl (by first | rfl | simp) (by simp) (by first | rfl | simp) (by first | rfl | simp [splice]) (fun h150 O151 => ?_)
    replace O151 : Hold B h150 [(AV.ptr o1 1 0 0, .pt 4 [nilS, nilS, nilS, nilS]), (AV.ptr o5 1 0 0, .pt 4 [z17, z19, z21, z23]), (z17, obS (w18 : Sl Int)), (z19, obS (w20 : Sl Int)), (z21, obS (w22 : Sl Int)), (z23, obS (w24 : Sl Int)), (AV.ptr o57 1 0 0, .pt 3 [iv (min w70 a138.x), iv w71, iv w72]), (AV.ptr o61 1 0 0, .pt 3 [iv (max w73 a138.x), iv w74, iv w75]), (AV.ptr o142 1 0 0, .pt 3 [iv a138.x, iv a138.y, iv a138.d])] := O151
    refine sim_guardP trivial ?_
    refine sim_let (v := AV.ptr o57 1 0 1) rfl ?_
    refine sim_let (v := iv w71) (O151.ld 6 rfl false 1 1) ?_
    refine sim_let (v := AV.ptr o142 1 0 1) rfl ?_
    refine sim_let (v := iv a138.y) (O151.ld 8 rfl false 1 1) ?_
    refine sim_let (v := iv (min w71 a138.y)) (aFold_min _ _) ?_
    refine sim_let (v := AV.ptr o61 1 0 1) rfl ?_
    refine sim_let (v := iv w74) (O151.ld 7 rfl false 1 1) ?_
    refine sim_let (v := AV.ptr o142 1 0 1) rfl ?_
    refine sim_let (v := iv a138.y) (O151.ld 8 rfl false 1 1) ?_
    refine sim_let (v := iv (max w74 a138.y)) (aFold_max _ _) ?_
    refine sim_let (v := AV.ptr o57 1 0 1) rfl ?_
    refine sim_guardP ⟨⟨(at_of (v := iv w71) (O151.ld 6 rfl false 1 1)), trivial⟩, ⟨⟨(at_of (v := iv a138.y) (O151.ld 8 rfl false 1 1)), trivial⟩, trivial⟩⟩ ?_
    refine sim_store O151 6 (cs' := [iv (min w70 a138.x), iv (min w71 a138.y), iv w72]) rfl (by first | rfl | simp) (by simp) (by first | rfl | simp) (by first | rfl | simp [splice]) (fun h152 O153 => ?_)
    replace O153 : Hold B h152 [(AV.ptr o1 1 0 0, .pt 4 [nilS, nilS, nilS, nilS]), (AV.ptr o5 1 0 0, .pt 4 [z17, z19, z21, z23]), (z17, obS (w18 : Sl Int)), (z19, obS (w20 : Sl Int)), (z21, obS (w22 : Sl Int)), (z23, obS (w24 : Sl Int)), (AV.ptr o57 1 0 0, .pt 3 [iv (min w70 a138.x), iv (min w71 a138.y), iv w72]), (AV.ptr o61 1 0 0, .pt 3 [iv (max w73 a138.x), iv w74, iv w75]), (AV.ptr o142 1 0 0, .pt 3 [iv a138.x, iv a138.y, iv a138.d])] := O153
    refine sim_let (v := AV.ptr o61 1 0 1) rfl ?_
    refine sim_guardP ⟨⟨(at_of (v := iv w74) (O151.ld 7 rfl false 1 1)), ⟨(at_of (v := iv w74) (O153.ld 7 rfl false 1 1)), trivial⟩⟩, ⟨⟨(at_of (v := iv a138.y) (O151.ld 8 rfl false 1 1)), ⟨(at_of (v := iv a138.y) (O153.ld 8 rfl false 1 1)), trivial⟩⟩, trivial⟩⟩ ?_
    refine sim_store O153 7 (cs' := [iv (max w73 a138.x), iv (max w74 a138.y), iv w75]) rfl (by first | rfl | simp) (by simp) (by first | rfl | simp) (by first | rfl | simp [splice]) (fun h154 O155 => ?_)
    replace O155 : Hold B h154 [(AV.ptr o1 1 0 0, .pt 4 [nilS, nilS, nilS, nilS]), (AV.ptr o5 1 0 0, .pt 4 [z17, z19, z21, z23]), (z17, obS (w18 : Sl Int)), (z19, obS (w20 : Sl Int)), (z21, obS (w22 : Sl Int)), (z23, obS (w24 : Sl Int)), (AV.ptr o57 1 0 0, .pt 3 [iv (min w70 a138.x), iv (min w71 a138.y), iv w72]), (AV.ptr o61 1 0 0, .pt 3 [iv (max w73 a138.x), iv (max w74 a138.y), iv w75]), (AV.ptr o142 1 0 0, .pt 3 [iv a138.x, iv a138.y, iv a138.d])] := O155
    refine sim_guardP trivial ?_
    refine sim_let (v := iv (wr (w78 + 1))) (aBin_add _ _) ?_
    have O156 : Hold B h154 [(AV.ptr o1 1 0 0, .pt 4 [nilS, nilS, nilS, nilS]), (AV.ptr o5 1 0 0, .pt 4 [z17, z19, z21, z23]), (z17, obS (w18 : Sl Int)), (z19, obS (w20 : Sl Int)), (z21, obS (w22 : Sl Int)), (z23, obS (w24 : Sl Int)), (AV.ptr o57 1 0 0, .pt 3 [iv (min w70 a138.x), iv (min w71 a138.y), iv w72]), (AV.ptr o61 1 0 0, .pt 3 [iv (max w73 a138.x), iv (max w74 a138.y), iv w75])] := O155.sel [0, 1, 2, 3, 4, 5, 6, 7] (by decide) rfl
    exact sim_ret ⟨rfl, rfl, O156⟩
  · exact sim_ret ⟨nofun, _, _, _, _, rfl, O77⟩
theorem tl0_impl_envelopeOf (env : Nat → Contract) {B : Base}  (b_ : Sl Feat) (n_ : Int) (band_ : Int) (o1 : Nat) (o5 : Nat)  {st : (Sl Int) × (Sl Int) × (Sl Int) × (Sl Int) × Int} {tm : TM} {h : Heap} (R : (fun (st : (Sl Int) × (Sl Int) × (Sl Int) × (Sl Int) × Int) tm h25 => match st with | (w18, w20, w22, w24, w28) => ∃ y27 z17 z19 z21 z23, tm = ((Sl.enc b_) :: (iv n_) :: (iv band_) :: und :: und :: und :: (AV.ptr o1 1 0 0) :: (AV.ptr o5 1 0 0) :: AV.top :: AV.top :: AV.top :: AV.top :: AV.top :: und :: y27 :: (iv n_) :: (iv w28) :: AV.top :: AV.top :: AV.top :: AV.top :: AV.top :: AV.top :: AV.top :: AV.top :: AV.top :: AV.top :: AV.top :: AV.top :: AV.top :: AV.top :: AV.top :: AV.top :: AV.top :: AV.top :: AV.top :: AV.top :: AV.top :: AV.top :: AV.top :: AV.top :: AV.top :: AV.top :: AV.top :: AV.top :: AV.top :: AV.top :: AV.top :: AV.top :: AV.top :: AV.top :: AV.top :: AV.top :: AV.top :: AV.top :: AV.top :: AV.top :: AV.top :: AV.top :: AV.top :: AV.top :: AV.top :: AV.top :: AV.top :: AV.top :: AV.top :: AV.top :: AV.top :: AV.top :: AV.top :: AV.top :: AV.top :: AV.top :: AV.top :: AV.top :: AV.top :: AV.top :: AV.top :: AV.top :: AV.top :: AV.top :: AV.top :: AV.top :: AV.top :: AV.top :: AV.top :: AV.top :: AV.top :: AV.top :: AV.top :: AV.top :: AV.top :: AV.top :: AV.top :: AV.top :: AV.top :: AV.top :: AV.top :: AV.top :: AV.top :: AV.top :: und :: []) ∧ Hold B h25 [(AV.ptr o1 1 0 0, .pt 4 [nilS, nilS, nilS, nilS]), (AV.ptr o5 1 0 0, .pt 4 [z17, z19, z21, z23]), (z17, obS (w18 : Sl Int)), (z19, obS (w20 : Sl Int)), (z21, obS (w22 : Sl Int)), (z23, obS (w24 : Sl Int))]) st tm h) : Sim (loopP hm0_impl_envelopeOf xm0_impl_envelopeOf (lb0_impl_envelopeOf env) tm h) (loopT (s0_impl_envelopeOf b_ n_ band_) st) (fun (q : (Sl Int) × (Sl Int) × (Sl Int) × (Sl Int)) (r : Res) => match q with | (q32, q34, q36, q38) => ∃ (z31 : AV) (z33 : AV) (z35 : AV) (z37 : AV) (z39 : AV) (z40 : AV) (z41 : AV) (z42 : AV) (z43 : AV) (z44 : AV) (h29 : Heap), r = (.exit 0, ((Sl.enc b_) :: (iv n_) :: (iv band_) :: und :: und :: und :: (AV.ptr o1 1 0 0) :: (AV.ptr o5 1 0 0) :: z39 :: z40 :: z41 :: z42 :: z43 :: und :: z44 :: (iv n_) :: AV.top :: AV.top :: AV.top :: AV.top :: AV.top :: AV.top :: AV.top :: AV.top :: AV.top :: AV.top :: AV.top :: AV.top :: AV.top :: AV.top :: AV.top :: AV.top :: AV.top :: AV.top :: AV.top :: AV.top :: AV.top :: AV.top :: AV.top :: AV.top :: AV.top :: AV.top :: AV.top :: AV.top :: AV.top :: AV.top :: AV.top :: AV.top :: AV.top :: AV.top :: AV.top :: AV.top :: AV.top :: AV.top :: AV.top :: AV.top :: AV.top :: AV.top :: AV.top :: AV.top :: AV.top :: AV.top :: AV.top :: AV.top :: AV.top :: AV.top :: AV.top :: AV.top :: AV.top :: AV.top :: AV.top :: AV.top :: AV.top :: AV.top :: AV.top :: AV.top :: AV.top :: AV.top :: AV.top :: AV.top :: AV.top :: AV.top :: AV.top :: AV.top :: AV.top :: AV.top :: AV.top :: AV.top :: AV.top :: AV.top :: AV.top :: AV.top :: AV.top :: AV.top :: AV.top :: AV.top :: AV.top :: AV.top :: AV.top :: AV.top :: AV.top :: und :: []), h29) ∧ Hold B h29 [(AV.ptr o1 1 0 0, .pt 4 [nilS, nilS, nilS, nilS]), (AV.ptr o5 1 0 0, .pt 4 [z31, z33, z35, z37]), (z31, obS (q32 : Sl Int)), (z33, obS (q34 : Sl Int)), (z35, obS (q36 : Sl Int)), (z37, obS (q38 : Sl Int))]) := by
  refine loop_sim (Rel := fun (st : (Sl Int) × (Sl Int) × (Sl Int) × (Sl Int) × Int) tm h25 => match st with | (w18, w20, w22, w24, w28) => ∃ y27 z17 z19 z21 z23, tm = ((Sl.enc b_) :: (iv n_) :: (iv band_) :: und :: und :: und :: (AV.ptr o1 1 0 0) :: (AV.ptr o5 1 0 0) :: AV.top :: AV.top :: AV.top :: AV.top :: AV.top :: und :: y27 :: (iv n_) :: (iv w28) :: AV.top :: AV.top :: AV.top :: AV.top :: AV.top :: AV.top :: AV.top :: AV.top :: AV.top :: AV.top :: AV.top :: AV.top :: AV.top :: AV.top :: AV.top :: AV.top :: AV.top :: AV.top :: AV.top :: AV.top :: AV.top :: AV.top :: AV.top :: AV.top :: AV.top :: AV.top :: AV.top :: AV.top :: AV.top :: AV.top :: AV.top :: AV.top :: AV.top :: AV.top :: AV.top :: AV.top :: AV.top :: AV.top :: AV.top :: AV.top :: AV.top :: AV.top :: AV.top :: AV.top :: AV.top :: AV.top :: AV.top :: AV.top :: AV.top :: AV.top :: AV.top :: AV.top :: AV.top :: AV.top :: AV.top :: AV.top :: AV.top :: AV.top :: AV.top :: AV.top :: AV.top :: AV.top :: AV.top :: AV.top :: AV.top :: AV.top :: AV.top :: AV.top :: AV.top :: AV.top :: AV.top :: AV.top :: AV.top :: AV.top :: AV.top :: AV.top :: AV.top :: AV.top :: AV.top :: AV.top :: AV.top :: AV.top :: AV.top :: AV.top :: und :: []) ∧ Hold B h25 [(AV.ptr o1 1 0 0, .pt 4 [nilS, nilS, nilS, nilS]), (AV.ptr o5 1 0 0, .pt 4 [z17, z19, z21, z23]), (z17, obS (w18 : Sl Int)), (z19, obS (w20 : Sl Int)), (z21, obS (w22 : Sl Int)), (z23, obS (w24 : Sl Int))]) (fun st tm h25 R => ?_) R
  obtain ⟨w18, w20, w22, w24, w28⟩ := st
  obtain ⟨y27, z17, z19, z21, z23, rfl, O26⟩ := R
  rw [e_lb0_impl_envelopeOf]
  unfold s0_impl_envelopeOf
  dsimp only
  refine sim_let (v := bv (decide (w28 < n_))) (aBin_lss _ _) ?_
  refine sim_cond (fun c48 => ?_) (fun c48 => ?_)
  · refine sim_let (v := iv (wr (w28 - band_))) (aBin_sub _ _) ?_
    refine sim_let (v := iv (max 0 (wr (w28 - band_)))) (aFold_max _ _) ?_
    refine sim_let (v := iv (((b_.getD []).length : Nat) : Int)) (Tab.enc h25 b_).len ?_
    refine sim_let (v := iv (wr (w28 + band_))) (aBin_add _ _) ?_
    refine sim_let (v := iv (wr ((wr (w28 + band_)) + 1))) (aBin_add _ _) ?_
    refine sim_let (v := iv (min (((b_.getD []).length : Nat) : Int) (wr ((wr (w28 + band_)) + 1)))) (aFold_min _ _) ?_
    refine sim_get (Tab.enc h25 b_) (fun m50 a49 hi51 hm52 => ?_)
    refine sim_let (v := AV.agg [iv a49.x, iv a49.y, iv a49.d]) ((Tab.enc h25 b_).ld hm52 true 3 0) ?_
    refine sim_get (Tab.enc h25 b_) (fun m54 a53 hi55 hm56 => ?_)
    refine sim_let (v := AV.agg [iv a53.x, iv a53.y, iv a53.d]) ((Tab.enc h25 b_).ld hm56 true 3 0) ?_
    refine sim_box O26 (cs := [iv 0, iv 0, iv 0]) (by first | rfl | simp) (fun o57 h58 O59 => ?_)
    replace O59 : Hold B h58 [(AV.ptr o1 1 0 0, .pt 4 [nilS, nilS, nilS, nilS]), (AV.ptr o5 1 0 0, .pt 4 [z17, z19, z21, z23]), (z17, obS (w18 : Sl Int)), (z19, obS (w20 : Sl Int)), (z21, obS (w22 : Sl Int)), (z23, obS (w24 : Sl Int)), (AV.ptr o57 1 0 0, .pt 3 [iv 0, iv 0, iv 0])] := O59
    refine sim_box O59 (cs := [iv 0, iv 0, iv 0]) (by first | rfl | simp) (fun o61 h62 O63 => ?_)
    replace O63 : Hold B h62 [(AV.ptr o1 1 0 0, .pt 4 [nilS, nilS, nilS, nilS]), (AV.ptr o5 1 0 0, .pt 4 [z17, z19, z21, z23]), (z17, obS (w18 : Sl Int)), (z19, obS (w20 : Sl Int)), (z21, obS (w22 : Sl Int)), (z23, obS (w24 : Sl Int)), (AV.ptr o57 1 0 0, .pt 3 [iv 0, iv 0, iv 0]), (AV.ptr o61 1 0 0, .pt 3 [iv 0, iv 0, iv 0])] := O63
    refine sim_guardP ⟨⟨(at_of (((Tab.enc h25 b_)).ixm hi51 hm52)), ⟨(at_of (((Tab.enc h58 b_)).ixm hi51 hm52)), ⟨(at_of (((Tab.enc h62 b_)).ixm hi51 hm52)), trivial⟩⟩⟩, ⟨⟨(at_of (v := AV.agg [iv a49.x, iv a49.y, iv a49.d]) ((Tab.enc h25 b_).ld hm52 true 3 0)), ⟨(at_of (v := AV.agg [iv a49.x, iv a49.y, iv a49.d]) ((Tab.enc h58 b_).ld hm52 true 3 0)), ⟨(at_of (v := AV.agg [iv a49.x, iv a49.y, iv a49.d]) ((Tab.enc h62 b_).ld hm52 true 3 0)), trivial⟩⟩⟩, trivial⟩⟩ ?_
    refine sim_store O63 6 (cs' := [iv a49.x, iv a49.y, iv a49.d]) rfl (by first | rfl | simp) (by simp) (by first | rfl | simp) (by first | rfl | simp [splice]) (fun h65 O66 => ?_)
    replace O66 : Hold B h65 [(AV.ptr o1 1 0 0, .pt 4 [nilS, nilS, nilS, nilS]), (AV.ptr o5 1 0 0, .pt 4 [z17, z19, z21, z23]), (z17, obS (w18 : Sl Int)), (z19, obS (w20 : Sl Int)), (z21, obS (w22 : Sl Int)), (z23, obS (w24 : Sl Int)), (AV.ptr o57 1 0 0, .pt 3 [iv a49.x, iv a49.y, iv a49.d]), (AV.ptr o61 1 0 0, .pt 3 [iv 0, iv 0, iv 0])] := O66
    refine sim_guardP ⟨⟨(at_of (((Tab.enc h25 b_)).ixm hi55 hm56)), ⟨(at_of (((Tab.enc h58 b_)).ixm hi55 hm56)), ⟨(at_of (((Tab.enc h62 b_)).ixm hi55 hm56)), ⟨(at_of (((Tab.enc h65 b_)).ixm hi55 hm56)), trivial⟩⟩⟩⟩, ⟨⟨(at_of (v := AV.agg [iv a53.x, iv a53.y, iv a53.d]) ((Tab.enc h25 b_).ld hm56 true 3 0)), ⟨(at_of (v := AV.agg [iv a53.x, iv a53.y, iv a53.d]) ((Tab.enc h58 b_).ld hm56 true 3 0)), ⟨(at_of (v := AV.agg [iv a53.x, iv a53.y, iv a53.d]) ((Tab.enc h62 b_).ld hm56 true 3 0)), ⟨(at_of (v := AV.agg [iv a53.x, iv a53.y, iv a53.d]) ((Tab.enc h65 b_).ld hm56 true 3 0)), trivial⟩⟩⟩⟩, trivial⟩⟩ ?_
    refine sim_store O66 7 (cs' := [iv a53.x, iv a53.y, iv a53.d]) rfl (by first | rfl | simp) (by simp) (by first | rfl | simp) (by first | rfl | simp [splice]) (fun h67 O68 => ?_)
    replace O68 : Hold B h67 [(AV.ptr o1 1 0 0, .pt 4 [nilS, nilS, nilS, nilS]), (AV.ptr o5 1 0 0, .pt 4 [z17, z19, z21, z23]), (z17, obS (w18 : Sl Int)), (z19, obS (w20 : Sl Int)), (z21, obS (w22 : Sl Int)), (z23, obS (w24 : Sl Int)), (AV.ptr o57 1 0 0, .pt 3 [iv a49.x, iv a49.y, iv a49.d]), (AV.ptr o61 1 0 0, .pt 3 [iv a53.x, iv a53.y, iv a53.d])] := O68
    refine sim_guardP trivial ?_
    refine sim_sub11 (fun s69 => ?_)
    refine sim_let (v := iv (((s69.getD []).length : Nat) : Int)) (Tab.enc h67 s69).len ?_
    refine sim_bind ((tl1_impl_envelopeOf env b_ n_ band_ o1 o5 z17 w18 z19 w20 z21 w22 z23 w24 w28 a49 m50 a53 m54 o57 o61 s69) ⟨rfl, O68⟩) (fun qq159 r hq => ?_)
    obtain ⟨q81, q82, q84, q85⟩ := qq159
    obtain ⟨q83, q86, z87, h79, rfl, O80⟩ := hq
    rw [e_lk1x2_impl_envelopeOf]
    refine sim_let (v := AV.ptr o5 1 0 0) rfl ?_
    refine sim_let (v := z17) (O80.ld 1 rfl false 1 0) ?_
    refine sim_let (v := AV.ptr o57 1 0 0) rfl ?_
    refine sim_let (v := iv q81) (O80.ld 6 rfl false 1 0) ?_
    refine sim_build (A := Int) O80 ([q81] : List Int) rfl (by first | rfl | simp [aFillRows, zrows]) rfl (fun x88 h89 O90 => ?_)
    replace O90 : Hold B h89 [(AV.ptr o1 1 0 0, .pt 4 [nilS, nilS, nilS, nilS]), (AV.ptr o5 1 0 0, .pt 4 [z17, z19, z21, z23]), (z17, obS (w18 : Sl Int)), (z19, obS (w20 : Sl Int)), (z21, obS (w22 : Sl Int)), (z23, obS (w24 : Sl Int)), (AV.ptr o57 1 0 0, .pt 3 [iv q81, iv q82, iv q83]), (AV.ptr o61 1 0 0, .pt 3 [iv q84, iv q85, iv q86]), (x88, obS ((some ([q81] : List Int)) : Sl Int))] := O90
    refine sim_guardP ⟨⟨(at_of (v := z17) (O80.ld 1 rfl false 1 0)), ⟨(at_of (v := z17) (O90.ld 1 rfl false 1 0)), trivial⟩⟩, ⟨⟨(at_of (v := iv q81) (O80.ld 6 rfl false 1 0)), ⟨(at_of (v := iv q81) (O90.ld 6 rfl false 1 0)), trivial⟩⟩, trivial⟩⟩ ?_
    refine sim_append (A := Int) (s := w18) O90 2 ([q81] : List Int) rfl (O90.src (A := Int) (s := (some ([q81] : List Int))) 8 rfl) (by decide) (fun x93 h94 O95 => ?_)
    replace O95 : Hold B h94 [(AV.ptr o1 1 0 0, .pt 4 [nilS, nilS, nilS, nilS]), (AV.ptr o5 1 0 0, .pt 4 [z17, z19, z21, z23]), (x93, obS ((appS w18 ([q81] : List Int)) : Sl Int)), (z19, obS (w20 : Sl Int)), (z21, obS (w22 : Sl Int)), (z23, obS (w24 : Sl Int)), (AV.ptr o57 1 0 0, .pt 3 [iv q81, iv q82, iv q83]), (AV.ptr o61 1 0 0, .pt 3 [iv q84, iv q85, iv q86]), (x88, obS ((some ([q81] : List Int)) : Sl Int))] := O95
    have O97 : Hold B h94 [(AV.ptr o1 1 0 0, .pt 4 [nilS, nilS, nilS, nilS]), (AV.ptr o5 1 0 0, .pt 4 [z17, z19, z21, z23]), (x93, obS ((appS w18 ([q81] : List Int)) : Sl Int)), (z19, obS (w20 : Sl Int)), (z21, obS (w22 : Sl Int)), (z23, obS (w24 : Sl Int)), (AV.ptr o57 1 0 0, .pt 3 [iv q81, iv q82, iv q83]), (AV.ptr o61 1 0 0, .pt 3 [iv q84, iv q85, iv q86])] := O95.sel [0, 1, 2, 3, 4, 5, 6, 7] (by decide) rfl
    refine sim_let (v := AV.ptr o5 1 0 1) rfl ?_
    refine sim_let (v := z19) (O97.ld 1 rfl false 1 1) ?_
    refine sim_let (v := AV.ptr o61 1 0 0) rfl ?_
    refine sim_let (v := iv q84) (O97.ld 7 rfl false 1 0) ?_
    refine sim_build (A := Int) O97 ([q84] : List Int) rfl (by first | rfl | simp [aFillRows, zrows]) rfl (fun x98 h99 O100 => ?_)
    replace O100 : Hold B h99 [(AV.ptr o1 1 0 0, .pt 4 [nilS, nilS, nilS, nilS]), (AV.ptr o5 1 0 0, .pt 4 [z17, z19, z21, z23]), (x93, obS ((appS w18 ([q81] : List Int)) : Sl Int)), (z19, obS (w20 : Sl Int)), (z21, obS (w22 : Sl Int)), (z23, obS (w24 : Sl Int)), (AV.ptr o57 1 0 0, .pt 3 [iv q81, iv q82, iv q83]), (AV.ptr o61 1 0 0, .pt 3 [iv q84, iv q85, iv q86]), (x98, obS ((some ([q84] : List Int)) : Sl Int))] := O100
    refine sim_guardP ⟨⟨(at_of (v := z19) (O80.ld 1 rfl false 1 1)), ⟨(at_of (v := z19) (O90.ld 1 rfl false 1 1)), ⟨(at_of (v := z19) (O97.ld 1 rfl false 1 1)), ⟨(at_of (v := z19) (O100.ld 1 rfl false 1 1)), trivial⟩⟩⟩⟩, ⟨⟨(at_of (v := iv q84) (O80.ld 7 rfl false 1 0)), ⟨(at_of (v := iv q84) (O90.ld 7 rfl false 1 0)), ⟨(at_of (v := iv q84) (O97.ld 7 rfl false 1 0)), ⟨(at_of (v := iv q84) (O100.ld 7 rfl false 1 0)), trivial⟩⟩⟩⟩, trivial⟩⟩ ?_
    refine sim_append (A := Int) (s := w20) O100 3 ([q84] : List Int) rfl (O100.src (A := Int) (s := (some ([q84] : List Int))) 8 rfl) (by decide) (fun x103 h104 O105 => ?_)
    replace O105 : Hold B h104 [(AV.ptr o1 1 0 0, .pt 4 [nilS, nilS, nilS, nilS]), (AV.ptr o5 1 0 0, .pt 4 [z17, z19, z21, z23]), (x93, obS ((appS w18 ([q81] : List Int)) : Sl Int)), (x103, obS ((appS w20 ([q84] : List Int)) : Sl Int)), (z21, obS (w22 : Sl Int)), (z23, obS (w24 : Sl Int)), (AV.ptr o57 1 0 0, .pt 3 [iv q81, iv q82, iv q83]), (AV.ptr o61 1 0 0, .pt 3 [iv q84, iv q85, iv q86]), (x98, obS ((some ([q84] : List Int)) : Sl Int))] := O105
    have O107 : Hold B h104 [(AV.ptr o1 1 0 0, .pt 4 [nilS, nilS, nilS, nilS]), (AV.ptr o5 1 0 0, .pt 4 [z17, z19, z21, z23]), (x93, obS ((appS w18 ([q81] : List Int)) : Sl Int)), (x103, obS ((appS w20 ([q84] : List Int)) : Sl Int)), (z21, obS (w22 : Sl Int)), (z23, obS (w24 : Sl Int)), (AV.ptr o57 1 0 0, .pt 3 [iv q81, iv q82, iv q83]), (AV.ptr o61 1 0 0, .pt 3 [iv q84, iv q85, iv q86])] := O105.sel [0, 1, 2, 3, 4, 5, 6, 7] (by decide) rfl
    refine sim_let (v := AV.ptr o5 1 0 0) rfl ?_
    refine sim_store O107 1 (cs' := [x93, z19, z21, z23]) rfl (by first | rfl | simp [(O107.one (A := Int) (s := (appS w18 ([q81] : List Int))) 2 rfl).1, (O107.one (A := Int) (s := (appS w18 ([q81] : List Int))) 2 rfl).2]) (by simp) (by first | rfl | simp [(O107.one (A := Int) (s := (appS w18 ([q81] : List Int))) 2 rfl).1, (O107.one (A := Int) (s := (appS w18 ([q81] : List Int))) 2 rfl).2]) (by first | rfl | simp [splice, (O107.one (A := Int) (s := (appS w18 ([q81] : List Int))) 2 rfl).1, (O107.one (A := Int) (s := (appS w18 ([q81] : List Int))) 2 rfl).2]) (fun h108 O109 => ?_)
    replace O109 : Hold B h108 [(AV.ptr o1 1 0 0, .pt 4 [nilS, nilS, nilS, nilS]), (AV.ptr o5 1 0 0, .pt 4 [x93, z19, z21, z23]), (x93, obS ((appS w18 ([q81] : List Int)) : Sl Int)), (x103, obS ((appS w20 ([q84] : List Int)) : Sl Int)), (z21, obS (w22 : Sl Int)), (z23, obS (w24 : Sl Int)), (AV.ptr o57 1 0 0, .pt 3 [iv q81, iv q82, iv q83]), (AV.ptr o61 1 0 0, .pt 3 [iv q84, iv q85, iv q86])] := O109
    refine sim_let (v := AV.ptr o5 1 0 1) rfl ?_
    refine sim_store O109 1 (cs' := [x93, x103, z21, z23]) rfl (by first | rfl | simp [(O109.one (A := Int) (s := (appS w20 ([q84] : List Int))) 3 rfl).1, (O109.one (A := Int) (s := (appS w20 ([q84] : List Int))) 3 rfl).2]) (by simp) (by first | rfl | simp [(O109.one (A := Int) (s := (appS w20 ([q84] : List Int))) 3 rfl).1, (O109.one (A := Int) (s := (appS w20 ([q84] : List Int))) 3 rfl).2]) (by first | rfl | simp [splice, (O109.one (A := Int) (s := (appS w20 ([q84] : List Int))) 3 rfl).1, (O109.one (A := Int) (s := (appS w20 ([q84] : List Int))) 3 rfl).2]) (fun h110 O111 => ?_)
    replace O111 : Hold B h110 [(AV.ptr o1 1 0 0, .pt 4 [nilS, nilS, nilS, nilS]), (AV.ptr o5 1 0 0, .pt 4 [x93, x103, z21, z23]), (x93, obS ((appS w18 ([q81] : List Int)) : Sl Int)), (x103, obS ((appS w20 ([q84] : List Int)) : Sl Int)), (z21, obS (w22 : Sl Int)), (z23, obS (w24 : Sl Int)), (AV.ptr o57 1 0 0, .pt 3 [iv q81, iv q82, iv q83]), (AV.ptr o61 1 0 0, .pt 3 [iv q84, iv q85, iv q86])] := O111
    refine sim_guardP trivial ?_
    refine sim_let (v := AV.ptr o5 1 0 2) rfl ?_
    refine sim_let (v := z21) (O111.ld 1 rfl false 1 2) ?_
    refine sim_let (v := AV.ptr o57 1 0 1) rfl ?_
    refine sim_let (v := iv q82) (O111.ld 6 rfl false 1 1) ?_
    refine sim_build (A := Int) O111 ([q82] : List Int) rfl (by first | rfl | simp [aFillRows, zrows]) rfl (fun x112 h113 O114 => ?_)
    replace O114 : Hold B h113 [(AV.ptr o1 1 0 0, .pt 4 [nilS, nilS, nilS, nilS]), (AV.ptr o5 1 0 0, .pt 4 [x93, x103, z21, z23]), (x93, obS ((appS w18 ([q81] : List Int)) : Sl Int)), (x103, obS ((appS w20 ([q84] : List Int)) : Sl Int)), (z21, obS (w22 : Sl Int)), (z23, obS (w24 : Sl Int)), (AV.ptr o57 1 0 0, .pt 3 [iv q81, iv q82, iv q83]), (AV.ptr o61 1 0 0, .pt 3 [iv q84, iv q85, iv q86]), (x112, obS ((some ([q82] : List Int)) : Sl Int))] := O114
    refine sim_guardP ⟨⟨(at_of (v := z21) (O111.ld 1 rfl false 1 2)), ⟨(at_of (v := z21) (O114.ld 1 rfl false 1 2)), trivial⟩⟩, ⟨⟨(at_of (v := iv q82) (O111.ld 6 rfl false 1 1)), ⟨(at_of (v := iv q82) (O114.ld 6 rfl false 1 1)), trivial⟩⟩, trivial⟩⟩ ?_
    refine sim_append (A := Int) (s := w22) O114 4 ([q82] : List Int) rfl (O114.src (A := Int) (s := (some ([q82] : List Int))) 8 rfl) (by decide) (fun x117 h118 O119 => ?_)
    replace O119 : Hold B h118 [(AV.ptr o1 1 0 0, .pt 4 [nilS, nilS, nilS, nilS]), (AV.ptr o5 1 0 0, .pt 4 [x93, x103, z21, z23]), (x93, obS ((appS w18 ([q81] : List Int)) : Sl Int)), (x103, obS ((appS w20 ([q84] : List Int)) : Sl Int)), (x117, obS ((appS w22 ([q82] : List Int)) : Sl Int)), (z23, obS (w24 : Sl Int)), (AV.ptr o57 1 0 0, .pt 3 [iv q81, iv q82, iv q83]), (AV.ptr o61 1 0 0, .pt 3 [iv q84, iv q85, iv q86]), (x112, obS ((some ([q82] : List Int)) : Sl Int))] := O119
    have O121 : Hold B h118 [(AV.ptr o1 1 0 0, .pt 4 [nilS, nilS, nilS, nilS]), (AV.ptr o5 1 0 0, .pt 4 [x93, x103, z21, z23]), (x93, obS ((appS w18 ([q81] : List Int)) : Sl Int)), (x103, obS ((appS w20 ([q84] : List Int)) : Sl Int)), (x117, obS ((appS w22 ([q82] : List Int)) : Sl Int)), (z23, obS (w24 : Sl Int)), (AV.ptr o57 1 0 0, .pt 3 [iv q81, iv q82, iv q83]), (AV.ptr o61 1 0 0, .pt 3 [iv q84, iv q85, iv q86])] := O119.sel [0, 1, 2, 3, 4, 5, 6, 7] (by decide) rfl
    refine sim_let (v := AV.ptr o5 1 0 3) rfl ?_
    refine sim_let (v := z23) (O121.ld 1 rfl false 1 3) ?_
    refine sim_let (v := AV.ptr o61 1 0 1) rfl ?_
    refine sim_let (v := iv q85) (O121.ld 7 rfl false 1 1) ?_
    refine sim_build (A := Int) O121 ([q85] : List Int) rfl (by first | rfl | simp [aFillRows, zrows]) rfl (fun x122 h123 O124 => ?_)
    replace O124 : Hold B h123 [(AV.ptr o1 1 0 0, .pt 4 [nilS, nilS, nilS, nilS]), (AV.ptr o5 1 0 0, .pt 4 [x93, x103, z21, z23]), (x93, obS ((appS w18 ([q81] : List Int)) : Sl Int)), (x103, obS ((appS w20 ([q84] : List Int)) : Sl Int)), (x117, obS ((appS w22 ([q82] : List Int)) : Sl Int)), (z23, obS (w24 : Sl Int)), (AV.ptr o57 1 0 0, .pt 3 [iv q81, iv q82, iv q83]), (AV.ptr o61 1 0 0, .pt 3 [iv q84, iv q85, iv q86]), (x122, obS ((some ([q85] : List Int)) : Sl Int))] := O124
    refine sim_guardP ⟨⟨(at_of (v := z23) (O111.ld 1 rfl false 1 3)), ⟨(at_of (v := z23) (O114.ld 1 rfl false 1 3)), ⟨(at_of (v := z23) (O121.ld 1 rfl false 1 3)), ⟨(at_of (v := z23) (O124.ld 1 rfl false 1 3)), trivial⟩⟩⟩⟩, ⟨⟨(at_of (v := iv q85) (O111.ld 7 rfl false 1 1)), ⟨(at_of (v := iv q85) (O114.ld 7 rfl false 1 1)), ⟨(at_of (v := iv q85) (O121.ld 7 rfl false 1 1)), ⟨(at_of (v := iv q85) (O124.ld 7 rfl false 1 1)), trivial⟩⟩⟩⟩, trivial⟩⟩ ?_
    refine sim_append (A := Int) (s := w24) O124 5 ([q85] : List Int) rfl (O124.src (A := Int) (s := (some ([q85] : List Int))) 8 rfl) (by decide) (fun x127 h128 O129 => ?_)
    replace O129 : Hold B h128 [(AV.ptr o1 1 0 0, .pt 4 [nilS, nilS, nilS, nilS]), (AV.ptr o5 1 0 0, .pt 4 [x93, x103, z21, z23]), (x93, obS ((appS w18 ([q81] : List Int)) : Sl Int)), (x103, obS ((appS w20 ([q84] : List Int)) : Sl Int)), (x117, obS ((appS w22 ([q82] : List Int)) : Sl Int)), (x127, obS ((appS w24 ([q85] : List Int)) : Sl Int)), (AV.ptr o57 1 0 0, .pt 3 [iv q81, iv q82, iv q83]), (AV.ptr o61 1 0 0, .pt 3 [iv q84, iv q85, iv q86]), (x122, obS ((some ([q85] : List Int)) : Sl Int))] := O129
    have O131 : Hold B h128 [(AV.ptr o1 1 0 0, .pt 4 [nilS, nilS, nilS, nilS]), (AV.ptr o5 1 0 0, .pt 4 [x93, x103, z21, z23]), (x93, obS ((appS w18 ([q81] : List Int)) : Sl Int)), (x103, obS ((appS w20 ([q84] : List Int)) : Sl Int)), (x117, obS ((appS w22 ([q82] : List Int)) : Sl Int)), (x127, obS ((appS w24 ([q85] : List Int)) : Sl Int)), (AV.ptr o57 1 0 0, .pt 3 [iv q81, iv q82, iv q83]), (AV.ptr o61 1 0 0, .pt 3 [iv q84, iv q85, iv q86])] := O129.sel [0, 1, 2, 3, 4, 5, 6, 7] (by decide) rfl
    refine sim_let (v := AV.ptr o5 1 0 2) rfl ?_
    refine sim_store O131 1 (cs' := [x93, x103, x117, z23]) rfl (by first | rfl | simp [(O131.one (A := Int) (s := (appS w22 ([q82] : List Int))) 4 rfl).1, (O131.one (A := Int) (s := (appS w22 ([q82] : List Int))) 4 rfl).2]) (by simp) (by first | rfl | simp [(O131.one (A := Int) (s := (appS w22 ([q82] : List Int))) 4 rfl).1, (O131.one (A := Int) (s := (appS w22 ([q82] : List Int))) 4 rfl).2]) (by first | rfl | simp [splice, (O131.one (A := Int) (s := (appS w22 ([q82] : List Int))) 4 rfl).1, (O131.one (A := Int) (s := (appS w22 ([q82] : List Int))) 4 rfl).2]) (fun h132 O133 => ?_)
    replace O133 : Hold B h132 [(AV.ptr o1 1 0 0, .pt 4 [nilS, nilS, nilS, nilS]), (AV.ptr o5 1 0 0, .pt 4 [x93, x103, x117, z23]), (x93, obS ((appS w18 ([q81] : List Int)) : Sl Int)), (x103, obS ((appS w20 ([q84] : List Int)) : Sl Int)), (x117, obS ((appS w22 ([q82] : List Int)) : Sl Int)), (x127, obS ((appS w24 ([q85] : List Int)) : Sl Int)), (AV.ptr o57 1 0 0, .pt 3 [iv q81, iv q82, iv q83]), (AV.ptr o61 1 0 0, .pt 3 [iv q84, iv q85, iv q86])] := O133
    refine sim_let (v := AV.ptr o5 1 0 3) rfl ?_
    refine sim_store O133 1 (cs' := [x93, x103, x117, x127]) rfl (by first | rfl | simp [(O133.one (A := Int) (s := (appS w24 ([q85] : List Int))) 5 rfl).1, (O133.one (A := Int) (s := (appS w24 ([q85] : List Int))) 5 rfl).2]) (by simp) (by first | rfl | simp [(O133.one (A := Int) (s := (appS w24 ([q85] : List Int))) 5 rfl).1, (O133.one (A := Int) (s := (appS w24 ([q85] : List Int))) 5 rfl).2]) (by first | rfl | simp [splice, (O133.one (A := Int) (s := (appS w24 ([q85] : List Int))) 5 rfl).1, (O133.one (A := Int) (s := (appS w24 ([q85] : List Int))) 5 rfl).2]) (fun h134 O135 => ?_)
    replace O135 : Hold B h134 [(AV.ptr o1 1 0 0, .pt 4 [nilS, nilS, nilS, nilS]), (AV.ptr o5 1 0 0, .pt 4 [x93, x103, x117, x127]), (x93, obS ((appS w18 ([q81] : List Int)) : Sl Int)), (x103, obS ((appS w20 ([q84] : List Int)) : Sl Int)), (x117, obS ((appS w22 ([q82] : List Int)) : Sl Int)), (x127, obS ((appS w24 ([q85] : List Int)) : Sl Int)), (AV.ptr o57 1 0 0, .pt 3 [iv q81, iv q82, iv q83]), (AV.ptr o61 1 0 0, .pt 3 [iv q84, iv q85, iv q86])] := O135
    refine sim_guardP trivial ?_
    refine sim_let (v := iv (wr (w28 + 1))) (aBin_add _ _) ?_
    have O136 : Hold B h134 [(AV.ptr o1 1 0 0, .pt 4 [nilS, nilS, nilS, nilS]), (AV.ptr o5 1 0 0, .pt 4 [x93, x103, x117, x127]), (x93, obS ((appS w18 ([q81] : List Int)) : Sl Int)), (x103, obS ((appS w20 ([q84] : List Int)) : Sl Int)), (x117, obS ((appS w22 ([q82] : List Int)) : Sl Int)), (x127, obS ((appS w24 ([q85] : List Int)) : Sl Int))] := O135.sel [0, 1, 2, 3, 4, 5] (by decide) rfl
    exact sim_ret ⟨rfl, _, _, _, _, _, rfl, O136⟩
  · exact sim_ret ⟨nofun, _, _, _, _, _, _, _, _, _, _, _, rfl, O26⟩
theorem ts_impl_envelopeOf (env : Nat → Contract)  (b_ : Sl Feat) (n_ : Int) (band_ : Int) : Sim (denFnM true Try.prog env n_impl_envelopeOf [Sl.enc b_, iv n_, iv band_] []) (t_impl_envelopeOf b_ n_ band_) fun c p => release p.2 depth p.1 = some ((fun c : Envelope => AV.agg [rS c.lowx, rS c.highx, rS c.lowy, rS c.highy]) c) := by
  have O := Hold.nil []
  generalize hB : (⟨[], []⟩ : Base) = B at O
  clear hB
  rw [e_impl_envelopeOf]
  unfold t_impl_envelopeOf
  refine sim_box O (cs := [nilS, nilS, nilS, nilS]) (by first | rfl | simp) (fun o1 h2 O3 => ?_)
  replace O3 : Hold B h2 [(AV.ptr o1 1 0 0, .pt 4 [nilS, nilS, nilS, nilS])] := O3
  refine sim_box O3 (cs := [nilS, nilS, nilS, nilS]) (by first | rfl | simp) (fun o5 h6 O7 => ?_)
  replace O7 : Hold B h6 [(AV.ptr o1 1 0 0, .pt 4 [nilS, nilS, nilS, nilS]), (AV.ptr o5 1 0 0, .pt 4 [nilS, nilS, nilS, nilS])] := O7
  have O9 : Hold B h6 [(AV.ptr o1 1 0 0, .pt 4 [nilS, nilS, nilS, nilS]), (AV.ptr o5 1 0 0, .pt 4 [nilS, nilS, nilS, nilS]), (nilS, obS ((none : Sl Int) : Sl Int))] := O7.addnil
  have O11 : Hold B h6 [(AV.ptr o1 1 0 0, .pt 4 [nilS, nilS, nilS, nilS]), (AV.ptr o5 1 0 0, .pt 4 [nilS, nilS, nilS, nilS]), (nilS, obS ((none : Sl Int) : Sl Int)), (nilS, obS ((none : Sl Int) : Sl Int))] := O9.addnil
  have O13 : Hold B h6 [(AV.ptr o1 1 0 0, .pt 4 [nilS, nilS, nilS, nilS]), (AV.ptr o5 1 0 0, .pt 4 [nilS, nilS, nilS, nilS]), (nilS, obS ((none : Sl Int) : Sl Int)), (nilS, obS ((none : Sl Int) : Sl Int)), (nilS, obS ((none : Sl Int) : Sl Int))] := O11.addnil
  have O15 : Hold B h6 [(AV.ptr o1 1 0 0, .pt 4 [nilS, nilS, nilS, nilS]), (AV.ptr o5 1 0 0, .pt 4 [nilS, nilS, nilS, nilS]), (nilS, obS ((none : Sl Int) : Sl Int)), (nilS, obS ((none : Sl Int) : Sl Int)), (nilS, obS ((none : Sl Int) : Sl Int)), (nilS, obS ((none : Sl Int) : Sl Int))] := O13.addnil
  refine sim_bind ((tl0_impl_envelopeOf env b_ n_ band_ o1 o5) ⟨_, _, _, _, _, rfl, O15⟩) (fun qq162 r hq => ?_)
  obtain ⟨q32, q34, q36, q38⟩ := qq162
  obtain ⟨z31, z33, z35, z37, z39, z40, z41, z42, z43, z44, h29, rfl, O30⟩ := hq
  rw [e_lk0x0_impl_envelopeOf]
  refine sim_let (v := AV.agg [z31, z33, z35, z37]) (O30.ld 1 rfl true 4 0) ?_
  refine sim_store O30 0 (cs' := [z31, z33, z35, z37]) rfl (by first | rfl | simp [(O30.one (A := Int) (s := q32) 2 rfl).1, (O30.one (A := Int) (s := q32) 2 rfl).2, (O30.one (A := Int) (s := q34) 3 rfl).1, (O30.one (A := Int) (s := q34) 3 rfl).2, (O30.one (A := Int) (s := q36) 4 rfl).1, (O30.one (A := Int) (s := q36) 4 rfl).2, (O30.one (A := Int) (s := q38) 5 rfl).1, (O30.one (A := Int) (s := q38) 5 rfl).2]) (by simp) (by first | rfl | simp [(O30.one (A := Int) (s := q32) 2 rfl).1, (O30.one (A := Int) (s := q32) 2 rfl).2, (O30.one (A := Int) (s := q34) 3 rfl).1, (O30.one (A := Int) (s := q34) 3 rfl).2, (O30.one (A := Int) (s := q36) 4 rfl).1, (O30.one (A := Int) (s := q36) 4 rfl).2, (O30.one (A := Int) (s := q38) 5 rfl).1, (O30.one (A := Int) (s := q38) 5 rfl).2]) (by first | rfl | simp [splice, (O30.one (A := Int) (s := q32) 2 rfl).1, (O30.one (A := Int) (s := q32) 2 rfl).2, (O30.one (A := Int) (s := q34) 3 rfl).1, (O30.one (A := Int) (s := q34) 3 rfl).2, (O30.one (A := Int) (s := q36) 4 rfl).1, (O30.one (A := Int) (s := q36) 4 rfl).2, (O30.one (A := Int) (s := q38) 5 rfl).1, (O30.one (A := Int) (s := q38) 5 rfl).2]) (fun h45 O46 => ?_)
  replace O46 : Hold B h45 [(AV.ptr o1 1 0 0, .pt 4 [z31, z33, z35, z37]), (AV.ptr o5 1 0 0, .pt 4 [z31, z33, z35, z37]), (z31, obS (q32 : Sl Int)), (z33, obS (q34 : Sl Int)), (z35, obS (q36 : Sl Int)), (z37, obS (q38 : Sl Int))] := O46
  refine sim_retL (resL_c (v := AV.agg [z31, z33, z35, z37]) (O46.ld 0 rfl true 4 0) (resL_nil _)) ?_
  dsimp only [pack]
  have O47 : Hold B h45 [(z31, obS (q32 : Sl Int)), (z33, obS (q34 : Sl Int)), (z35, obS (q36 : Sl Int)), (z37, obS (q38 : Sl Int))] := O46.sel [2, 3, 4, 5] (by decide) rfl
  exact sim_ret (release_of (by simp only [ids_tup, ids_aggD, ids_agg, ids_iv, ids_bv, ids_sv, ids_bt, ids_nilS, ids_enc, O47.idsD (A := Int) (s := q32) 0 rfl, O47.idsD (A := Int) (s := q34) 1 rfl, O47.idsD (A := Int) (s := q36) 2 rfl, O47.idsD (A := Int) (s := q38) 3 rfl, List.map_append, List.map_nil, List.flatMap_cons, List.flatMap_nil, List.append_nil, List.nil_append]; simpa only [List.flatMap_cons, List.flatMap_nil, List.append_nil, List.nil_append] using O47.nd2) (by simp only [rel_tup, rel_aggD, rel_agg, rel_iv, rel_bv, rel_sv, rel_bt, rel_nilS, rel_enc, O47.relD (A := Int) (s := q32) 0 rfl, O47.relD (A := Int) (s := q34) 1 rfl, O47.relD (A := Int) (s := q36) 2 rfl, O47.relD (A := Int) (s := q38) 3 rfl, omapc, omapn, obind_sm] <;> rfl))
theorem tt_impl_envelopeOf : PureOK Try.prog n_impl_envelopeOf (C3 (fun c : Envelope => AV.agg [rS c.lowx, rS c.highx, rS c.lowy, rS c.highy]) t_impl_envelopeOf) := pureCW3 E0 mixed hb_impl_envelopeOf fun b_ n_ band_ => ts_impl_envelopeOf _  b_ n_ band_

def s0_impl_outsideOf (a_ : Sl Feat) (e_ : Envelope) : (Int × Int) → Option (Sum (Int × Int) Int) := fun (w7, w8) =>
  bif decide (w8 < (((a_.getD []).length : Nat) : Int)) then
    obind (getI (a_.getD []) w8) fun a15 =>
    obind (getI (e_.lowx.getD []) w8) fun a25 =>
    obind (getI (e_.highx.getD []) w8) fun a29 =>
    obind (some ((fun n lo hi : Int => max (wr (lo - n)) (max (wr (n - hi)) 0)) a15.x a25 a29)) fun c33 =>
    obind (getI (e_.lowy.getD []) w8) fun a34 =>
    obind (getI (e_.highy.getD []) w8) fun a38 =>
    obind (some ((fun n lo hi : Int => max (wr (lo - n)) (max (wr (n - hi)) 0)) a15.y a34 a38)) fun c42 =>
    some (.inl (wr (w7 + (wr (c33 + c42))), wr (w8 + 1)))
  else
    some (.inr w7)
def t_impl_outsideOf (a_ : Sl Feat) (e_ : Envelope) : Option Int :=
  obind (loopT (s0_impl_outsideOf a_ e_) (0, 0)) fun q11 =>
  some q11

theorem tl0_impl_outsideOf (env : Nat → Contract) {B : Base} (he_impl_beyond : env n_impl_beyond = .pure (T3 (fun n lo hi : Int => max (wr (lo - n)) (max (wr (n - hi)) 0)))) (a_ : Sl Feat) (e_ : Envelope) (o1 : Nat)  {st : Int × Int} {tm : TM} {h : Heap} (R : (fun (st : Int × Int) tm h5 => match st with | (w7, w8) => tm = [Sl.enc a_, AV.agg [Sl.enc e_.lowx, Sl.enc e_.highx, Sl.enc e_.lowy, Sl.enc e_.highy], und, AV.ptr o1 1 0 0, iv 0, iv w7, AV.top, AV.top, Sl.enc a_, iv (((a_.getD []).length : Nat) : Int), iv w8, AV.top, AV.top, AV.top, AV.top, AV.top, AV.top, AV.top, AV.top, AV.top, AV.top, AV.top, AV.top, AV.top, AV.top, AV.top, AV.top, AV.top, AV.top, AV.top, AV.top, AV.top, AV.top, AV.top, AV.top, AV.top, AV.top, AV.top, AV.top, AV.top, AV.top, AV.top, AV.top, AV.top, AV.top, und] ∧ Hold B h5 [(AV.ptr o1 1 0 0, .pt 4 [Sl.enc e_.lowx, Sl.enc e_.highx, Sl.enc e_.lowy, Sl.enc e_.highy])]) st tm h) : Sim (loopP hm0_impl_outsideOf xm0_impl_outsideOf (lb0_impl_outsideOf env) tm h) (loopT (s0_impl_outsideOf a_ e_) st) (fun (q : Int) (r : Res) => match q with | q11 => ∃ (z12 : AV) (z13 : AV) (h9 : Heap), r = (.exit 0, [Sl.enc a_, AV.agg [Sl.enc e_.lowx, Sl.enc e_.highx, Sl.enc e_.lowy, Sl.enc e_.highy], und, AV.ptr o1 1 0 0, iv 0, iv q11, z12, z13, Sl.enc a_, iv (((a_.getD []).length : Nat) : Int), AV.top, AV.top, AV.top, AV.top, AV.top, AV.top, AV.top, AV.top, AV.top, AV.top, AV.top, AV.top, AV.top, AV.top, AV.top, AV.top, AV.top, AV.top, AV.top, AV.top, AV.top, AV.top, AV.top, AV.top, AV.top, AV.top, AV.top, AV.top, AV.top, AV.top, AV.top, AV.top, AV.top, AV.top, AV.top, und], h9) ∧ Hold B h9 [(AV.ptr o1 1 0 0, .pt 4 [Sl.enc e_.lowx, Sl.enc e_.highx, Sl.enc e_.lowy, Sl.enc e_.highy])]) := by
  refine loop_sim (Rel := fun (st : Int × Int) tm h5 => match st with | (w7, w8) => tm = [Sl.enc a_, AV.agg [Sl.enc e_.lowx, Sl.enc e_.highx, Sl.enc e_.lowy, Sl.enc e_.highy], und, AV.ptr o1 1 0 0, iv 0, iv w7, AV.top, AV.top, Sl.enc a_, iv (((a_.getD []).length : Nat) : Int), iv w8, AV.top, AV.top, AV.top, AV.top, AV.top, AV.top, AV.top, AV.top, AV.top, AV.top, AV.top, AV.top, AV.top, AV.top, AV.top, AV.top, AV.top, AV.top, AV.top, AV.top, AV.top, AV.top, AV.top, AV.top, AV.top, AV.top, AV.top, AV.top, AV.top, AV.top, AV.top, AV.top, AV.top, AV.top, und] ∧ Hold B h5 [(AV.ptr o1 1 0 0, .pt 4 [Sl.enc e_.lowx, Sl.enc e_.highx, Sl.enc e_.lowy, Sl.enc e_.highy])]) (fun st tm h5 R => ?_) R
  obtain ⟨w7, w8⟩ := st
  obtain ⟨rfl, O6⟩ := R
  rw [e_lb0_impl_outsideOf]
  unfold s0_impl_outsideOf
  dsimp only
  refine sim_let (v := bv (decide (w8 < (((a_.getD []).length : Nat) : Int)))) (aBin_lss _ _) ?_
  refine sim_cond (fun c14 => ?_) (fun c14 => ?_)
  · refine sim_get (Tab.enc h5 a_) (fun m16 a15 hi17 hm18 => ?_)
    refine sim_let (v := AV.agg [iv a15.x, iv a15.y, iv a15.d]) ((Tab.enc h5 a_).ld hm18 true 3 0) ?_
    refine sim_box O6 (cs := [iv 0, iv 0, iv 0]) (by first | rfl | simp) (fun o19 h20 O21 => ?_)
    replace O21 : Hold B h20 [(AV.ptr o1 1 0 0, .pt 4 [Sl.enc e_.lowx, Sl.enc e_.highx, Sl.enc e_.lowy, Sl.enc e_.highy]), (AV.ptr o19 1 0 0, .pt 3 [iv 0, iv 0, iv 0])] := O21
    refine sim_store O21 1 (cs' := [iv a15.x, iv a15.y, iv a15.d]) rfl (by first | rfl | simp) (by simp) (by first | rfl | simp) (by first | rfl | simp [splice]) (fun h23 O24 => ?_)
    replace O24 : Hold B h23 [(AV.ptr o1 1 0 0, .pt 4 [Sl.enc e_.lowx, Sl.enc e_.highx, Sl.enc e_.lowy, Sl.enc e_.highy]), (AV.ptr o19 1 0 0, .pt 3 [iv a15.x, iv a15.y, iv a15.d])] := O24
    refine sim_let (v := AV.ptr o19 1 0 0) rfl ?_
    refine sim_let (v := iv a15.x) (O24.ld 1 rfl false 1 0) ?_
    refine sim_let (v := AV.ptr o1 1 0 0) rfl ?_
    refine sim_let (v := Sl.enc e_.lowx) (O24.ld 0 rfl false 1 0) ?_
    refine sim_get (Tab.enc h23 e_.lowx) (fun m26 a25 hi27 hm28 => ?_)
    refine sim_let (v := iv a25) ((Tab.enc h23 e_.lowx).ld hm28 false 1 0) ?_
    refine sim_let (v := AV.ptr o1 1 0 1) rfl ?_
    refine sim_let (v := Sl.enc e_.highx) (O24.ld 0 rfl false 1 1) ?_
    refine sim_get (Tab.enc h23 e_.highx) (fun m30 a29 hi31 hm32 => ?_)
    refine sim_let (v := iv a29) ((Tab.enc h23 e_.highx).ld hm32 false 1 0) ?_
    refine sim_callVQ3 (t := (fun n lo hi : Int => max (wr (lo - n)) (max (wr (n - hi)) 0))) he_impl_beyond (snapD_int _ _) (snapD_int _ _) (snapD_int _ _) (fun c33 => ?_)
    refine sim_let (v := AV.ptr o19 1 0 1) rfl ?_
    refine sim_let (v := iv a15.y) (O24.ld 1 rfl false 1 1) ?_
    refine sim_let (v := AV.ptr o1 1 0 2) rfl ?_
    refine sim_let (v := Sl.enc e_.lowy) (O24.ld 0 rfl false 1 2) ?_
    refine sim_get (Tab.enc h23 e_.lowy) (fun m35 a34 hi36 hm37 => ?_)
    refine sim_let (v := iv a34) ((Tab.enc h23 e_.lowy).ld hm37 false 1 0) ?_
    refine sim_let (v := AV.ptr o1 1 0 3) rfl ?_
    refine sim_let (v := Sl.enc e_.highy) (O24.ld 0 rfl false 1 3) ?_
    refine sim_get (Tab.enc h23 e_.highy) (fun m39 a38 hi40 hm41 => ?_)
    refine sim_let (v := iv a38) ((Tab.enc h23 e_.highy).ld hm41 false 1 0) ?_
    refine sim_callVQ3 (t := (fun n lo hi : Int => max (wr (lo - n)) (max (wr (n - hi)) 0))) he_impl_beyond (snapD_int _ _) (snapD_int _ _) (snapD_int _ _) (fun c42 => ?_)
    refine sim_let (v := iv (wr (c33 + c42))) (aBin_add _ _) ?_
    refine sim_let (v := iv (wr (w7 + (wr (c33 + c42))))) (aBin_add _ _) ?_
    refine sim_let (v := iv (wr (w8 + 1))) (aBin_add _ _) ?_
    have O43 : Hold B h23 [(AV.ptr o1 1 0 0, .pt 4 [Sl.enc e_.lowx, Sl.enc e_.highx, Sl.enc e_.lowy, Sl.enc e_.highy])] := O24.sel [0] (by decide) rfl
    exact sim_ret ⟨rfl, rfl, O43⟩
  · exact sim_ret ⟨nofun, _, _, _, rfl, O6⟩
theorem ts_impl_outsideOf (env : Nat → Contract) (he_impl_beyond : env n_impl_beyond = .pure (T3 (fun n lo hi : Int => max (wr (lo - n)) (max (wr (n - hi)) 0)))) (a_ : Sl Feat) (e_ : Envelope) : Sim (denFn Try.prog env n_impl_outsideOf [Sl.enc a_, AV.agg [Sl.enc e_.lowx, Sl.enc e_.highx, Sl.enc e_.lowy, Sl.enc e_.highy]] []) (t_impl_outsideOf a_ e_) fun c p => release p.2 depth p.1 = some ((fun c : Int => enc c) c) := by
  have O := Hold.nil []
  generalize hB : (⟨[], []⟩ : Base) = B at O
  clear hB
  rw [e_impl_outsideOf]
  unfold t_impl_outsideOf
  refine sim_box O (cs := [Sl.enc e_.lowx, Sl.enc e_.highx, Sl.enc e_.lowy, Sl.enc e_.highy]) (by first | rfl | simp) (fun o1 h2 O3 => ?_)
  replace O3 : Hold B h2 [(AV.ptr o1 1 0 0, .pt 4 [Sl.enc e_.lowx, Sl.enc e_.highx, Sl.enc e_.lowy, Sl.enc e_.highy])] := O3
  refine sim_let (v := iv (((a_.getD []).length : Nat) : Int)) (Tab.enc h2 a_).len ?_
  refine sim_bind ((tl0_impl_outsideOf env he_impl_beyond a_ e_ o1) ⟨rfl, O3⟩) (fun qq46 r hq => ?_)
  revert hq
  revert qq46
  intro q11 hq
  obtain ⟨z12, z13, h9, rfl, O10⟩ := hq
  rw [e_lk0x0_impl_outsideOf]
  exact sim_ret (release_plain (by rfl) _)
theorem tt_impl_outsideOf : PureOK Try.prog n_impl_outsideOf (C2 (fun c : Int => enc c) t_impl_outsideOf) := pureC2 (Econs ok_impl_beyond E0) mixed hb_impl_outsideOf fun a_ e_ => ts_impl_outsideOf _ (by simp [envL]) a_ e_

def t_impl_featCost (a_ : Feat) (b_ : Feat) : Option Int :=
  obind (some (absI (wr (a_.d - b_.d)))) fun c9 =>
  obind (some (absI (wr (a_.x - b_.x)))) fun c10 =>
  obind (some (absI (wr (a_.y - b_.y)))) fun c11 =>
  some (wr ((wr (c10 + c11)) + (wr (16 * (min c9 (wr (8 - c9)))))))

theorem ts_impl_featCost (env : Nat → Contract) (he_impl_abs : env n_impl_abs = .pure (T1 absI)) (a_ : Feat) (b_ : Feat) : Sim (denFn Try.prog env n_impl_featCost [AV.agg [iv a_.x, iv a_.y, iv a_.d], AV.agg [iv b_.x, iv b_.y, iv b_.d]] []) (t_impl_featCost a_ b_) fun c p => release p.2 depth p.1 = some ((fun c : Int => enc c) c) := by
  have O := Hold.nil []
  generalize hB : (⟨[], []⟩ : Base) = B at O
  clear hB
  rw [e_impl_featCost]
  unfold t_impl_featCost
  refine sim_box O (cs := [iv a_.x, iv a_.y, iv a_.d]) (by first | rfl | simp) (fun o1 h2 O3 => ?_)
  replace O3 : Hold B h2 [(AV.ptr o1 1 0 0, .pt 3 [iv a_.x, iv a_.y, iv a_.d])] := O3
  refine sim_box O3 (cs := [iv b_.x, iv b_.y, iv b_.d]) (by first | rfl | simp) (fun o5 h6 O7 => ?_)
  replace O7 : Hold B h6 [(AV.ptr o1 1 0 0, .pt 3 [iv a_.x, iv a_.y, iv a_.d]), (AV.ptr o5 1 0 0, .pt 3 [iv b_.x, iv b_.y, iv b_.d])] := O7
  refine sim_let (v := AV.ptr o1 1 0 2) rfl ?_
  refine sim_let (v := iv a_.d) (O7.ld 0 rfl false 1 2) ?_
  refine sim_let (v := AV.ptr o5 1 0 2) rfl ?_
  refine sim_let (v := iv b_.d) (O7.ld 1 rfl false 1 2) ?_
  refine sim_let (v := iv (wr (a_.d - b_.d))) (aBin_sub _ _) ?_
  refine sim_callV1 (t := absI) he_impl_abs (snapD_int _ _) (fun c9 => ?_)
  refine sim_let (v := AV.ptr o1 1 0 0) rfl ?_
  refine sim_let (v := iv a_.x) (O7.ld 0 rfl false 1 0) ?_
  refine sim_let (v := AV.ptr o5 1 0 0) rfl ?_
  refine sim_let (v := iv b_.x) (O7.ld 1 rfl false 1 0) ?_
  refine sim_let (v := iv (wr (a_.x - b_.x))) (aBin_sub _ _) ?_
  refine sim_callVQ1 (t := absI) he_impl_abs (snapD_int _ _) (fun c10 => ?_)
  refine sim_let (v := AV.ptr o1 1 0 1) rfl ?_
  refine sim_let (v := iv a_.y) (O7.ld 0 rfl false 1 1) ?_
  refine sim_let (v := AV.ptr o5 1 0 1) rfl ?_
  refine sim_let (v := iv b_.y) (O7.ld 1 rfl false 1 1) ?_
  refine sim_let (v := iv (wr (a_.y - b_.y))) (aBin_sub _ _) ?_
  refine sim_callVQ1 (t := absI) he_impl_abs (snapD_int _ _) (fun c11 => ?_)
  refine sim_let (v := iv (wr (c10 + c11))) (aBin_add _ _) ?_
  refine sim_let (v := iv (wr (8 - c9))) (aBin_sub _ _) ?_
  refine sim_let (v := iv (min c9 (wr (8 - c9)))) (aFold_min _ _) ?_
  refine sim_let (v := iv (wr (16 * (min c9 (wr (8 - c9)))))) (aBin_mul _ _) ?_
  refine sim_let (v := iv (wr ((wr (c10 + c11)) + (wr (16 * (min c9 (wr (8 - c9)))))))) (aBin_add _ _) ?_
  exact sim_ret (release_plain (by rfl) _)
theorem tt_impl_featCost : PureOK Try.prog n_impl_featCost (C2 (fun c : Int => enc c) t_impl_featCost) := pureC2 (Econs ok_impl_abs E0) mixed hb_impl_featCost fun a_ b_ => ts_impl_featCost _ (by simp [envL]) a_ b_

def t_impl_endsBound (a_ : Sl Feat) (b_ : Sl Feat) : Option Int :=
  obind (getI (a_.getD []) 0) fun a1 =>
  obind (getI (b_.getD []) 0) fun a5 =>
  obind (t_impl_featCost a1 a5) fun c9 =>
  obind (bif decide (1 < (((a_.getD []).length : Nat) : Int)) then some false else (some (decide (1 < (((b_.getD []).length : Nat) : Int))))) fun c11 =>
  bif (bif decide (1 < (((a_.getD []).length : Nat) : Int)) then true else c11) then
    obind (getI (a_.getD []) (wr ((((a_.getD []).length : Nat) : Int) - 1))) fun a13 =>
    obind (getI (b_.getD []) (wr ((((b_.getD []).length : Nat) : Int) - 1))) fun a17 =>
    obind (t_impl_featCost a13 a17) fun c21 =>
    some (wr (c9 + c21))
  else
    some c9

theorem ts_impl_endsBound (env : Nat → Contract) (he_impl_featCost : env n_impl_featCost = .pure (C2 (fun c : Int => enc c) t_impl_featCost)) (a_ : Sl Feat) (b_ : Sl Feat) : Sim (denFn Try.prog env n_impl_endsBound [Sl.enc a_, Sl.enc b_] []) (t_impl_endsBound a_ b_) fun c p => release p.2 depth p.1 = some ((fun c : Int => enc c) c) := by
  have O := Hold.nil []
  generalize hB : (⟨[], []⟩ : Base) = B at O
  clear hB
  rw [e_impl_endsBound]
  unfold t_impl_endsBound
  refine sim_get (Tab.enc [] a_) (fun m2 a1 hi3 hm4 => ?_)
  refine sim_let (v := AV.agg [iv a1.x, iv a1.y, iv a1.d]) ((Tab.enc [] a_).ld hm4 true 3 0) ?_
  refine sim_get (Tab.enc [] b_) (fun m6 a5 hi7 hm8 => ?_)
  refine sim_let (v := AV.agg [iv a5.x, iv a5.y, iv a5.d]) ((Tab.enc [] b_).ld hm8 true 3 0) ?_
  refine sim_callQ2 he_impl_featCost (snapD_nr _ a1 rfl) (snapD_nr _ a5 rfl) (fun c9 => ?_)
  refine sim_let2 (hand_plain (by rfl) _ _) ?_
  refine sim_let (v := iv (((a_.getD []).length : Nat) : Int)) (Tab.enc [] a_).len ?_
  refine sim_let (v := bv (decide (1 < (((a_.getD []).length : Nat) : Int)))) (aBin_gtr _ _) ?_
  refine sim_guardF (e := bv) (fun hb10 => ?_) (fun c11 => ?_)
  · refine sim_let (v := iv (((b_.getD []).length : Nat) : Int)) (Tab.enc [] b_).len ?_
    refine sim_let (v := bv (decide (1 < (((b_.getD []).length : Nat) : Int)))) (aBin_gtr _ _) ?_
    exact sim_ret rfl
  · refine sim_let (v := bv (bif decide (1 < (((a_.getD []).length : Nat) : Int)) then true else c11)) (pick_b' _ _ _) ?_
    refine sim_cond (fun c12 => ?_) (fun c12 => ?_)
    · refine sim_let (v := iv (((a_.getD []).length : Nat) : Int)) (Tab.enc [] a_).len ?_
      refine sim_let (v := iv (wr ((((a_.getD []).length : Nat) : Int) - 1))) (aBin_sub _ _) ?_
      refine sim_get (Tab.enc [] a_) (fun m14 a13 hi15 hm16 => ?_)
      refine sim_let (v := AV.agg [iv a13.x, iv a13.y, iv a13.d]) ((Tab.enc [] a_).ld hm16 true 3 0) ?_
      refine sim_let (v := iv (((b_.getD []).length : Nat) : Int)) (Tab.enc [] b_).len ?_
      refine sim_let (v := iv (wr ((((b_.getD []).length : Nat) : Int) - 1))) (aBin_sub _ _) ?_
      refine sim_get (Tab.enc [] b_) (fun m18 a17 hi19 hm20 => ?_)
      refine sim_let (v := AV.agg [iv a17.x, iv a17.y, iv a17.d]) ((Tab.enc [] b_).ld hm20 true 3 0) ?_
      refine sim_callQ2 he_impl_featCost (snapD_nr _ a13 rfl) (snapD_nr _ a17 rfl) (fun c21 => ?_)
      refine sim_let2 (hand_plain (by rfl) _ _) ?_
      refine sim_let (v := iv (wr (c9 + c21))) (aBin_add _ _) ?_
      exact sim_ret (release_plain (by rfl) _)
    · exact sim_ret (release_plain (by rfl) _)
theorem tt_impl_endsBound : PureOK Try.prog n_impl_endsBound (C2 (fun c : Int => enc c) t_impl_endsBound) := pureC2 (Econs tt_impl_featCost E0) mixed hb_impl_endsBound fun a_ b_ => ts_impl_endsBound _ (by simp [envL]) a_ b_

def t_impl_lowerBound (a_ : Sl Feat) (b_ : Sl Feat) (band_ : Int) : Option Int :=
  obind (t_impl_envelopeOf b_ (((a_.getD []).length : Nat) : Int) band_) fun c1 =>
  obind (t_impl_outsideOf a_ c1) fun c12 =>
  obind (t_impl_endsBound a_ b_) fun c13 =>
  some (max c12 c13)

theorem ts_impl_lowerBound (env : Nat → Contract) (he_impl_endsBound : env n_impl_endsBound = .pure (C2 (fun c : Int => enc c) t_impl_endsBound)) (he_impl_envelopeOf : env n_impl_envelopeOf = .pure (C3 (fun c : Envelope => AV.agg [rS c.lowx, rS c.highx, rS c.lowy, rS c.highy]) t_impl_envelopeOf)) (he_impl_outsideOf : env n_impl_outsideOf = .pure (C2 (fun c : Int => enc c) t_impl_outsideOf)) (a_ : Sl Feat) (b_ : Sl Feat) (band_ : Int) : Sim (denFn Try.prog env n_impl_lowerBound [Sl.enc a_, Sl.enc b_, iv band_] []) (t_impl_lowerBound a_ b_ band_) fun c p => release p.2 depth p.1 = some ((fun c : Int => enc c) c) := by
  have O := Hold.nil []
  generalize hB : (⟨[], []⟩ : Base) = B at O
  clear hB
  rw [e_impl_lowerBound]
  unfold t_impl_lowerBound
  refine sim_let (v := iv (((a_.getD []).length : Nat) : Int)) (Tab.enc [] a_).len ?_
  refine sim_call3 he_impl_envelopeOf (snapD_enc _ _) (snapD_int _ _) (snapD_int _ _) (fun c1 => ?_)
  refine sim_hand4 O (c1.lowx : Sl Int) (c1.highx : Sl Int) (c1.lowy : Sl Int) (c1.highy : Sl Int) (fun z1 z2 z3 z4 => AV.agg [z1, z2, z3, z4]) (by intro b; simp only [mat_tup, mat_aggD, mat_agg, matLc, matLn, mat_iv, mat_bv, mat_sv, mat_bt, mat_nilS, mat_rS, List.append_nil, List.nil_append, List.length_nil, Nat.add_zero]) (by simp only [noF_tup, noF_aggD, noF_agg, noF_iv, noF_bv, noF_sv, noF_bt, noF_nilS, noF_rS, List.all_cons, List.all_nil, Bool.and_self]) (fun x3 x5 x7 x9 h10 O11 => ?_)
  replace O11 : Hold B h10 [(x3, obS (c1.lowx : Sl Int)), (x5, obS (c1.highx : Sl Int)), (x7, obS (c1.lowy : Sl Int)), (x9, obS (c1.highy : Sl Int))] := O11
  refine sim_call2 he_impl_outsideOf (snapD_enc _ _) (snapD_own h10 c1 rfl (by simp [omap, O11.snap7 (A := Int) (s := c1.lowx) 0 rfl, O11.snap7 (A := Int) (s := c1.highx) 1 rfl, O11.snap7 (A := Int) (s := c1.lowy) 2 rfl, O11.snap7 (A := Int) (s := c1.highy) 3 rfl])) (fun c12 => ?_)
  refine sim_let2 (hand_plain (by rfl) _ _) ?_
  refine sim_call2 he_impl_endsBound (snapD_enc _ _) (snapD_enc _ _) (fun c13 => ?_)
  refine sim_let2 (hand_plain (by rfl) _ _) ?_
  refine sim_let (v := iv (max c12 c13)) (aFold_max _ _) ?_
  exact sim_ret (release_plain (by rfl) _)
theorem tt_impl_lowerBound : PureOK Try.prog n_impl_lowerBound (C3 (fun c : Int => enc c) t_impl_lowerBound) := pureC3 (Econs tt_impl_endsBound (Econs tt_impl_envelopeOf (Econs tt_impl_outsideOf E0))) mixed hb_impl_lowerBound fun a_ b_ band_ => ts_impl_lowerBound _ (by simp [envL]) (by simp [envL]) (by simp [envL]) a_ b_ band_

def t_impl_LowerBound (a_ : Sl Feat) (b_ : Sl Feat) (band_ : Int) : Option (Int × Int) :=
  obind (t_impl_matchable a_ b_ band_) fun c1 =>
  bif !decide (c1 = 0) then
    some (0, c1)
  else
    obind (t_impl_lowerBound a_ b_ band_) fun c3 =>
    some (c3, 0)

theorem ts_impl_LowerBound (env : Nat → Contract) (he_impl_lowerBound : env n_impl_lowerBound = .pure (C3 (fun c : Int => enc c) t_impl_lowerBound)) (he_impl_matchable : env n_impl_matchable = .pure (C3 (fun c : Int => enc c) t_impl_matchable)) (a_ : Sl Feat) (b_ : Sl Feat) (band_ : Int) : Sim (denFn Try.prog env n_impl_LowerBound [Sl.enc a_, Sl.enc b_, iv band_] []) (t_impl_LowerBound a_ b_ band_) fun c p => release p.2 depth p.1 = some ((fun c : Int × Int => AV.tup [enc c.1, enc c.2]) c) := by
  have O := Hold.nil []
  generalize hB : (⟨[], []⟩ : Base) = B at O
  clear hB
  rw [e_impl_LowerBound]
  unfold t_impl_LowerBound
  refine sim_call3 he_impl_matchable (snapD_enc _ _) (snapD_enc _ _) (snapD_int _ _) (fun c1 => ?_)
  refine sim_let2 (hand_plain (by rfl) _ _) ?_
  refine sim_let (v := bv (!decide (c1 = 0))) (aCmp_ne _ _) ?_
  refine sim_cond (fun c2 => ?_) (fun c2 => ?_)
  · exact sim_ret (release_plain (by rfl) _)
  · refine sim_call3 he_impl_lowerBound (snapD_enc _ _) (snapD_enc _ _) (snapD_int _ _) (fun c3 => ?_)
    refine sim_let2 (hand_plain (by rfl) _ _) ?_
    exact sim_ret (release_plain (by rfl) _)
theorem tt_impl_LowerBound : PureOK Try.prog n_impl_LowerBound (C3 (fun c : Int × Int => AV.tup [enc c.1, enc c.2]) t_impl_LowerBound) := pureC3 (Econs tt_impl_lowerBound (Econs tt_impl_matchable E0)) mixed hb_impl_LowerBound fun a_ b_ band_ => ts_impl_LowerBound _ (by simp [envL]) (by simp [envL]) a_ b_ band_

def t_spec_l09Feat (f_ : Feat) : Option Bool :=
  obind (some (within f_.x 0 255)) fun c5 =>
  obind (bif c5 then (obind (some (within f_.y 0 255)) fun c7 => some c7) else some false) fun c8 =>
  obind (bif (bif c5 then c8 else false) then (obind (some (within f_.d 0 7)) fun c10 => some c10) else some false) fun c11 =>
  some (bif (bif c5 then c8 else false) then c11 else false)

theorem ts_spec_l09Feat (env : Nat → Contract) (he_spec_l00In : env n_spec_l00In = .pure (T3 within)) (f_ : Feat) : Sim (denFn Try.prog env n_spec_l09Feat [AV.agg [iv f_.x, iv f_.y, iv f_.d]] []) (t_spec_l09Feat f_) fun c p => release p.2 depth p.1 = some ((fun c : Bool => enc c) c) := by
  have O := Hold.nil []
  generalize hB : (⟨[], []⟩ : Base) = B at O
  clear hB
  rw [e_spec_l09Feat]
  unfold t_spec_l09Feat
  refine sim_box O (cs := [iv f_.x, iv f_.y, iv f_.d]) (by first | rfl | simp) (fun o1 h2 O3 => ?_)
  replace O3 : Hold B h2 [(AV.ptr o1 1 0 0, .pt 3 [iv f_.x, iv f_.y, iv f_.d])] := O3
  refine sim_let (v := AV.ptr o1 1 0 0) rfl ?_
  refine sim_let (v := iv f_.x) (O3.ld 0 rfl false 1 0) ?_
  refine sim_callV3 (t := within) he_spec_l00In (snapD_int _ _) (snapD_int _ _) (snapD_int _ _) (fun c5 => ?_)
  refine sim_guardT (e := bv) (fun hb6 => ?_) (fun c8 => ?_)
  · refine sim_let (v := AV.ptr o1 1 0 1) rfl ?_
    refine sim_let (v := iv f_.y) (O3.ld 0 rfl false 1 1) ?_
    refine sim_callV3 (t := within) he_spec_l00In (snapD_int _ _) (snapD_int _ _) (snapD_int _ _) (fun c7 => ?_)
    exact sim_ret rfl
  · refine sim_let (v := bv (bif c5 then c8 else false)) (pick_b _ _ _) ?_
    refine sim_guardT (e := bv) (fun hb9 => ?_) (fun c11 => ?_)
    · refine sim_let (v := AV.ptr o1 1 0 2) rfl ?_
      refine sim_let (v := iv f_.d) (O3.ld 0 rfl false 1 2) ?_
      refine sim_callV3 (t := within) he_spec_l00In (snapD_int _ _) (snapD_int _ _) (snapD_int _ _) (fun c10 => ?_)
      exact sim_ret rfl
    · refine sim_let (v := bv (bif (bif c5 then c8 else false) then c11 else false)) (pick_b _ _ _) ?_
      exact sim_ret (release_plain (by rfl) _)
theorem tt_spec_l09Feat : PureOK Try.prog n_spec_l09Feat (C1 (fun c : Bool => enc c) t_spec_l09Feat) := pureC1 (Econs ok_spec_l00In E0) mixed hb_spec_l09Feat fun f_ => ts_spec_l09Feat _ (by simp [envL]) f_

def s0_spec_l09Ok (list_ : Sl Feat) : Int → Option (Sum Int (Sum Unit Bool)) := fun w3 =>
  bif decide (w3 < (((list_.getD []).length : Nat) : Int)) then
    obind (getI (list_.getD []) w3) fun a14 =>
    obind (t_spec_l09Feat a14) fun c18 =>
    bif !c18 then
      some (.inr (.inr false))
    else
      some (.inl (wr (w3 + 1)))
  else
    some (.inr (.inl ()))
def t_spec_l09Ok (list_ : Sl Feat) : Option Bool :=
  obind (loopT (s0_spec_l09Ok list_) 0) fun qq24 => match qq24 with
  | (.inl _) =>
      obind (some (within (((list_.getD []).length : Nat) : Int) 1 72)) fun c8 =>
      some c8
  | (.inr q11) =>
      some q11

theorem tl0_spec_l09Ok (env : Nat → Contract) {B : Base} (he_spec_l00In : env n_spec_l00In = .pure (T3 within)) (he_spec_l09Feat : env n_spec_l09Feat = .pure (C1 (fun c : Bool => enc c) t_spec_l09Feat)) (list_ : Sl Feat)  {st : Int} {tm : TM} {h : Heap} (R : (fun (st : Int) tm h1 => match st with | w3 => tm = [Sl.enc list_, und, AV.top, iv w3, AV.top, AV.top, AV.top, AV.top, AV.top, AV.top, AV.top, AV.top, AV.top, AV.top, AV.top, AV.top, und, und, und] ∧ Hold B h1 []) st tm h) : Sim (loopP hm0_spec_l09Ok xm0_spec_l09Ok (lb0_spec_l09Ok env) tm h) (loopT (s0_spec_l09Ok list_) st) (fun (q : Sum Unit Bool) (r : Res) => match q with | .inl _ => ∃ (q7 : Int) (z6 : AV) (h4 : Heap), r = (.exit 0, [Sl.enc list_, und, z6, iv q7, AV.top, AV.top, AV.top, AV.top, AV.top, AV.top, AV.top, AV.top, AV.top, AV.top, AV.top, AV.top, und, und, und], h4) ∧ Hold B h4 [] | .inr q11 => ∃ (q12 : Int) (h9 : Heap), r = (.ret, [Sl.enc list_, und, bv q11, iv q12, AV.top, AV.top, AV.top, AV.top, AV.top, AV.top, AV.top, AV.top, AV.top, AV.top, AV.top, AV.top, und, und, und], h9) ∧ Hold B h9 []) := by
  refine loop_sim (Rel := fun (st : Int) tm h1 => match st with | w3 => tm = [Sl.enc list_, und, AV.top, iv w3, AV.top, AV.top, AV.top, AV.top, AV.top, AV.top, AV.top, AV.top, AV.top, AV.top, AV.top, AV.top, und, und, und] ∧ Hold B h1 []) (fun w3 tm h1 R => ?_) R
  obtain ⟨rfl, O2⟩ := R
  rw [e_lb0_spec_l09Ok]
  unfold s0_spec_l09Ok
  dsimp only
  refine sim_let (v := iv (((list_.getD []).length : Nat) : Int)) (Tab.enc h1 list_).len ?_
  refine sim_let (v := bv (decide (w3 < (((list_.getD []).length : Nat) : Int)))) (aBin_lss _ _) ?_
  refine sim_cond (fun c13 => ?_) (fun c13 => ?_)
  · refine sim_get (Tab.enc h1 list_) (fun m15 a14 hi16 hm17 => ?_)
    refine sim_let (v := AV.agg [iv a14.x, iv a14.y, iv a14.d]) ((Tab.enc h1 list_).ld hm17 true 3 0) ?_
    refine sim_call1 he_spec_l09Feat (snapD_nr _ a14 rfl) (fun c18 => ?_)
    refine sim_let2 (hand_plain (by rfl) _ _) ?_
    refine sim_let (v := bv (!c18)) (aUn_not _) ?_
    refine sim_cond (fun c19 => ?_) (fun c19 => ?_)
    · exact sim_ret ⟨nofun, _, _, rfl, O2⟩
    · refine sim_let (v := iv (wr (w3 + 1))) (aBin_add _ _) ?_
      exact sim_ret ⟨rfl, rfl, O2⟩
  · exact sim_ret ⟨nofun, _, _, _, rfl, O2⟩
theorem ts_spec_l09Ok (env : Nat → Contract) (he_spec_l00In : env n_spec_l00In = .pure (T3 within)) (he_spec_l09Feat : env n_spec_l09Feat = .pure (C1 (fun c : Bool => enc c) t_spec_l09Feat)) (list_ : Sl Feat) : Sim (denFn Try.prog env n_spec_l09Ok [Sl.enc list_] []) (t_spec_l09Ok list_) fun c p => release p.2 depth p.1 = some ((fun c : Bool => enc c) c) := by
  have O := Hold.nil []
  generalize hB : (⟨[], []⟩ : Base) = B at O
  clear hB
  rw [e_spec_l09Ok]
  unfold t_spec_l09Ok
  refine sim_bind ((tl0_spec_l09Ok env he_spec_l00In he_spec_l09Feat list_) ⟨rfl, O⟩) (fun qq24 r hq => ?_)
  rcases qq24 with _ | q11
  · obtain ⟨q7, z6, h4, rfl, O5⟩ := hq
    rw [e_lk0x0_spec_l09Ok]
    refine sim_let (v := iv (((list_.getD []).length : Nat) : Int)) (Tab.enc h4 list_).len ?_
    refine sim_callV3 (t := within) he_spec_l00In (snapD_int _ _) (snapD_int _ _) (snapD_int _ _) (fun c8 => ?_)
    exact sim_ret (release_plain (by rfl) _)
  · obtain ⟨q12, h9, rfl, O10⟩ := hq
    rw [e_lk0r_spec_l09Ok]
    exact sim_ret (release_plain (by rfl) _)
theorem tt_spec_l09Ok : PureOK Try.prog n_spec_l09Ok (C1 (fun c : Bool => enc c) t_spec_l09Ok) := pureC1 (Econs ok_spec_l00In (Econs tt_spec_l09Feat E0)) mixed hb_spec_l09Ok fun list_ => ts_spec_l09Ok _ (by simp [envL]) (by simp [envL]) list_

def t_spec_l09Code (a_ : Sl Feat) (b_ : Sl Feat) (band_ : Int) : Option Int :=
  obind (t_spec_l09Ok a_) fun c1 =>
  obind (bif !c1 then some false else (obind (t_spec_l09Ok b_) fun c3 => some (!c3))) fun c4 =>
  bif (bif !c1 then true else c4) then
    some 1
  else
    obind (some (within band_ 0 72)) fun c6 =>
    obind (bif !c6 then some false else (obind (t_spec_l09Size (wr ((((a_.getD []).length : Nat) : Int) - (((b_.getD []).length : Nat) : Int)))) fun c8 => some (decide (band_ < c8)))) fun c9 =>
    bif (bif !c6 then true else c9) then
      some 2
    else
      some 0

theorem ts_spec_l09Code (env : Nat → Contract) (he_spec_l00In : env n_spec_l00In = .pure (T3 within)) (he_spec_l09Ok : env n_spec_l09Ok = .pure (C1 (fun c : Bool => enc c) t_spec_l09Ok)) (he_spec_l09Size : env n_spec_l09Size = .pure (C1 (fun c : Int => enc c) t_spec_l09Size)) (a_ : Sl Feat) (b_ : Sl Feat) (band_ : Int) : Sim (denFn Try.prog env n_spec_l09Code [Sl.enc a_, Sl.enc b_, iv band_] []) (t_spec_l09Code a_ b_ band_) fun c p => release p.2 depth p.1 = some ((fun c : Int => enc c) c) := by
  have O := Hold.nil []
  generalize hB : (⟨[], []⟩ : Base) = B at O
  clear hB
  rw [e_spec_l09Code]
  unfold t_spec_l09Code
  refine sim_call1 he_spec_l09Ok (snapD_enc _ _) (fun c1 => ?_)
  refine sim_let2 (hand_plain (by rfl) _ _) ?_
  refine sim_let (v := bv (!c1)) (aUn_not _) ?_
  refine sim_guardF (e := bv) (fun hb2 => ?_) (fun c4 => ?_)
  · refine sim_call1 he_spec_l09Ok (snapD_enc _ _) (fun c3 => ?_)
    refine sim_let2 (hand_plain (by rfl) _ _) ?_
    refine sim_let (v := bv (!c3)) (aUn_not _) ?_
    exact sim_ret rfl
  · refine sim_let (v := bv (bif !c1 then true else c4)) (pick_b' _ _ _) ?_
    refine sim_cond (fun c5 => ?_) (fun c5 => ?_)
    · exact sim_ret (release_plain (by rfl) _)
    · refine sim_callV3 (t := within) he_spec_l00In (snapD_int _ _) (snapD_int _ _) (snapD_int _ _) (fun c6 => ?_)
      refine sim_let (v := bv (!c6)) (aUn_not _) ?_
      refine sim_guardF (e := bv) (fun hb7 => ?_) (fun c9 => ?_)
      · refine sim_let (v := iv (((a_.getD []).length : Nat) : Int)) (Tab.enc [] a_).len ?_
        refine sim_let (v := iv (((b_.getD []).length : Nat) : Int)) (Tab.enc [] b_).len ?_
        refine sim_let (v := iv (wr ((((a_.getD []).length : Nat) : Int) - (((b_.getD []).length : Nat) : Int)))) (aBin_sub _ _) ?_
        refine sim_call1 he_spec_l09Size (snapD_int _ _) (fun c8 => ?_)
        refine sim_let2 (hand_plain (by rfl) _ _) ?_
        refine sim_let (v := bv (decide (band_ < c8))) (aBin_gtr _ _) ?_
        exact sim_ret rfl
      · refine sim_let (v := bv (bif !c6 then true else c9)) (pick_b' _ _ _) ?_
        refine sim_cond (fun c10 => ?_) (fun c10 => ?_)
        · exact sim_ret (release_plain (by rfl) _)
        · exact sim_ret (release_plain (by rfl) _)
theorem tt_spec_l09Code : PureOK Try.prog n_spec_l09Code (C3 (fun c : Int => enc c) t_spec_l09Code) := pureC3 (Econs ok_spec_l00In (Econs tt_spec_l09Ok (Econs tt_spec_l09Size E0))) mixed hb_spec_l09Code fun a_ b_ band_ => ts_spec_l09Code _ (by simp [envL]) (by simp [envL]) (by simp [envL]) a_ b_ band_

def t_spec_l09Cost (a_ : Feat) (b_ : Feat) : Option Int :=
  obind (t_spec_l09Size (wr (a_.d - b_.d))) fun c9 =>
  obind (t_spec_l09Size (wr (a_.x - b_.x))) fun c10 =>
  obind (t_spec_l09Size (wr (a_.y - b_.y))) fun c11 =>
  obind (some ((fun a b : Int => min a b) c9 (wr (8 - c9)))) fun c12 =>
  some (wr ((wr (c10 + c11)) + (wr (16 * c12))))

theorem ts_spec_l09Cost (env : Nat → Contract) (he_spec_l00Min : env n_spec_l00Min = .pure (T2 (fun a b : Int => min a b))) (he_spec_l09Size : env n_spec_l09Size = .pure (C1 (fun c : Int => enc c) t_spec_l09Size)) (a_ : Feat) (b_ : Feat) : Sim (denFn Try.prog env n_spec_l09Cost [AV.agg [iv a_.x, iv a_.y, iv a_.d], AV.agg [iv b_.x, iv b_.y, iv b_.d]] []) (t_spec_l09Cost a_ b_) fun c p => release p.2 depth p.1 = some ((fun c : Int => enc c) c) := by
  have O := Hold.nil []
  generalize hB : (⟨[], []⟩ : Base) = B at O
  clear hB
  rw [e_spec_l09Cost]
  unfold t_spec_l09Cost
  refine sim_box O (cs := [iv a_.x, iv a_.y, iv a_.d]) (by first | rfl | simp) (fun o1 h2 O3 => ?_)
  replace O3 : Hold B h2 [(AV.ptr o1 1 0 0, .pt 3 [iv a_.x, iv a_.y, iv a_.d])] := O3
  refine sim_box O3 (cs := [iv b_.x, iv b_.y, iv b_.d]) (by first | rfl | simp) (fun o5 h6 O7 => ?_)
  replace O7 : Hold B h6 [(AV.ptr o1 1 0 0, .pt 3 [iv a_.x, iv a_.y, iv a_.d]), (AV.ptr o5 1 0 0, .pt 3 [iv b_.x, iv b_.y, iv b_.d])] := O7
  refine sim_let (v := AV.ptr o1 1 0 2) rfl ?_
  refine sim_let (v := iv a_.d) (O7.ld 0 rfl false 1 2) ?_
  refine sim_let (v := AV.ptr o5 1 0 2) rfl ?_
  refine sim_let (v := iv b_.d) (O7.ld 1 rfl false 1 2) ?_
  refine sim_let (v := iv (wr (a_.d - b_.d))) (aBin_sub _ _) ?_
  refine sim_call1 he_spec_l09Size (snapD_int _ _) (fun c9 => ?_)
  refine sim_let2 (hand_plain (by rfl) _ _) ?_
  refine sim_let (v := AV.ptr o1 1 0 0) rfl ?_
  refine sim_let (v := iv a_.x) (O7.ld 0 rfl false 1 0) ?_
  refine sim_let (v := AV.ptr o5 1 0 0) rfl ?_
  refine sim_let (v := iv b_.x) (O7.ld 1 rfl false 1 0) ?_
  refine sim_let (v := iv (wr (a_.x - b_.x))) (aBin_sub _ _) ?_
  refine sim_callQ1 he_spec_l09Size (snapD_int _ _) (fun c10 => ?_)
  refine sim_let2 (hand_plain (by rfl) _ _) ?_
  refine sim_let (v := AV.ptr o1 1 0 1) rfl ?_
  refine sim_let (v := iv a_.y) (O7.ld 0 rfl false 1 1) ?_
  refine sim_let (v := AV.ptr o5 1 0 1) rfl ?_
  refine sim_let (v := iv b_.y) (O7.ld 1 rfl false 1 1) ?_
  refine sim_let (v := iv (wr (a_.y - b_.y))) (aBin_sub _ _) ?_
  refine sim_callQ1 he_spec_l09Size (snapD_int _ _) (fun c11 => ?_)
  refine sim_let2 (hand_plain (by rfl) _ _) ?_
  refine sim_let (v := iv (wr (c10 + c11))) (aBin_add _ _) ?_
  refine sim_let (v := iv (wr (8 - c9))) (aBin_sub _ _) ?_
  refine sim_callVQ2 (t := (fun a b : Int => min a b)) he_spec_l00Min (snapD_int _ _) (snapD_int _ _) (fun c12 => ?_)
  refine sim_let (v := iv (wr (16 * c12))) (aBin_mul _ _) ?_
  refine sim_let (v := iv (wr ((wr (c10 + c11)) + (wr (16 * c12))))) (aBin_add _ _) ?_
  exact sim_ret (release_plain (by rfl) _)
theorem tt_spec_l09Cost : PureOK Try.prog n_spec_l09Cost (C2 (fun c : Int => enc c) t_spec_l09Cost) := pureC2 (Econs ok_spec_l00Min (Econs tt_spec_l09Size E0)) mixed hb_spec_l09Cost fun a_ b_ => ts_spec_l09Cost _ (by simp [envL]) (by simp [envL]) a_ b_

def s1_spec_l09Table (a_ : Sl Feat) (b_ : Sl Feat) (band_ : Int) (w9 : Int) : ((Sl Int) × Int) → Option (Sum ((Sl Int) × Int) (Sl Int)) := fun (w17, w20) =>
  bif decide (w20 < (((b_.getD []).length : Nat) : Int)) then
    obind (bif decide (w9 = 0) then (some (decide (w20 = 0))) else some false) fun c29 =>
    bif (bif decide (w9 = 0) then c29 else false) then
      obind (bif decide (0 < w9) then (some (decide (0 < w20))) else some false) fun c32 =>
      bif (bif decide (0 < w9) then c32 else false) then
        obind (getI (w17.getD []) (wr ((wr ((wr ((wr (w9 - 1)) * (((b_.getD []).length : Nat) : Int))) + w20)) - 1))) fun a34 =>
        obind (some ((fun a b : Int => min a b) 0 a34)) fun c38 =>
        bif decide (0 < w9) then
          obind (getI (w17.getD []) (wr ((wr ((wr (w9 - 1)) * (((b_.getD []).length : Nat) : Int))) + w20))) fun a40 =>
          obind (some ((fun a b : Int => min a b) c38 a40)) fun c44 =>
          bif decide (0 < w20) then
            obind (getI (w17.getD []) (wr ((wr ((wr (w9 * (((b_.getD []).length : Nat) : Int))) + w20)) - 1))) fun a46 =>
            obind (some ((fun a b : Int => min a b) c44 a46)) fun c50 =>
            obind (bif decide (c50 = 1000000000) then some false else (obind (t_spec_l09Size (wr (w9 - w20))) fun c52 => some (decide (band_ < c52)))) fun c53 =>
            bif (bif decide (c50 = 1000000000) then true else c53) then
              obind (getI (w17.getD []) (wr ((wr (w9 * (((b_.getD []).length : Nat) : Int))) + w20))) fun a55 =>
              some (.inl ((setS w17 (wr ((wr (w9 * (((b_.getD []).length : Nat) : Int))) + w20)) 1000000000), wr (w20 + 1)))
            else
              obind (getI (a_.getD []) w9) fun a62 =>
              obind (getI (b_.getD []) w20) fun a66 =>
              obind (t_spec_l09Cost a62 a66) fun c70 =>
              obind (getI (w17.getD []) (wr ((wr (w9 * (((b_.getD []).length : Nat) : Int))) + w20))) fun a71 =>
              some (.inl ((setS w17 (wr ((wr (w9 * (((b_.getD []).length : Nat) : Int))) + w20)) (wr (c50 + c70))), wr (w20 + 1)))
          else
            obind (bif decide (c44 = 1000000000) then some false else (obind (t_spec_l09Size (wr (w9 - w20))) fun c79 => some (decide (band_ < c79)))) fun c80 =>
            bif (bif decide (c44 = 1000000000) then true else c80) then
              obind (getI (w17.getD []) (wr ((wr (w9 * (((b_.getD []).length : Nat) : Int))) + w20))) fun a82 =>
              some (.inl ((setS w17 (wr ((wr (w9 * (((b_.getD []).length : Nat) : Int))) + w20)) 1000000000), wr (w20 + 1)))
            else
              obind (getI (a_.getD []) w9) fun a89 =>
              obind (getI (b_.getD []) w20) fun a93 =>
              obind (t_spec_l09Cost a89 a93) fun c97 =>
              obind (getI (w17.getD []) (wr ((wr (w9 * (((b_.getD []).length : Nat) : Int))) + w20))) fun a98 =>
              some (.inl ((setS w17 (wr ((wr (w9 * (((b_.getD []).length : Nat) : Int))) + w20)) (wr (c44 + c97))), wr (w20 + 1)))
        else
          bif decide (0 < w20) then
            obind (getI (w17.getD []) (wr ((wr ((wr (w9 * (((b_.getD []).length : Nat) : Int))) + w20)) - 1))) fun a106 =>
            obind (some ((fun a b : Int => min a b) c38 a106)) fun c110 =>
            obind (bif decide (c110 = 1000000000) then some false else (obind (t_spec_l09Size (wr (w9 - w20))) fun c112 => some (decide (band_ < c112)))) fun c113 =>
            bif (bif decide (c110 = 1000000000) then true else c113) then
              obind (getI (w17.getD []) (wr ((wr (w9 * (((b_.getD []).length : Nat) : Int))) + w20))) fun a115 =>
              some (.inl ((setS w17 (wr ((wr (w9 * (((b_.getD []).length : Nat) : Int))) + w20)) 1000000000), wr (w20 + 1)))
            else
              obind (getI (a_.getD []) w9) fun a122 =>
              obind (getI (b_.getD []) w20) fun a126 =>
              obind (t_spec_l09Cost a122 a126) fun c130 =>
              obind (getI (w17.getD []) (wr ((wr (w9 * (((b_.getD []).length : Nat) : Int))) + w20))) fun a131 =>
              some (.inl ((setS w17 (wr ((wr (w9 * (((b_.getD []).length : Nat) : Int))) + w20)) (wr (c110 + c130))), wr (w20 + 1)))
          else
            obind (bif decide (c38 = 1000000000) then some false else (obind (t_spec_l09Size (wr (w9 - w20))) fun c139 => some (decide (band_ < c139)))) fun c140 =>
            bif (bif decide (c38 = 1000000000) then true else c140) then
              obind (getI (w17.getD []) (wr ((wr (w9 * (((b_.getD []).length : Nat) : Int))) + w20))) fun a142 =>
              some (.inl ((setS w17 (wr ((wr (w9 * (((b_.getD []).length : Nat) : Int))) + w20)) 1000000000), wr (w20 + 1)))
            else
              obind (getI (a_.getD []) w9) fun a149 =>
              obind (getI (b_.getD []) w20) fun a153 =>
              obind (t_spec_l09Cost a149 a153) fun c157 =>
              obind (getI (w17.getD []) (wr ((wr (w9 * (((b_.getD []).length : Nat) : Int))) + w20))) fun a158 =>
              some (.inl ((setS w17 (wr ((wr (w9 * (((b_.getD []).length : Nat) : Int))) + w20)) (wr (c38 + c157))), wr (w20 + 1)))
      else
        bif decide (0 < w9) then
          obind (getI (w17.getD []) (wr ((wr ((wr (w9 - 1)) * (((b_.getD []).length : Nat) : Int))) + w20))) fun a166 =>
          obind (some ((fun a b : Int => min a b) 0 a166)) fun c170 =>
          bif decide (0 < w20) then
            obind (getI (w17.getD []) (wr ((wr ((wr (w9 * (((b_.getD []).length : Nat) : Int))) + w20)) - 1))) fun a172 =>
            obind (some ((fun a b : Int => min a b) c170 a172)) fun c176 =>
            obind (bif decide (c176 = 1000000000) then some false else (obind (t_spec_l09Size (wr (w9 - w20))) fun c178 => some (decide (band_ < c178)))) fun c179 =>
            bif (bif decide (c176 = 1000000000) then true else c179) then
              obind (getI (w17.getD []) (wr ((wr (w9 * (((b_.getD []).length : Nat) : Int))) + w20))) fun a181 =>
              some (.inl ((setS w17 (wr ((wr (w9 * (((b_.getD []).length : Nat) : Int))) + w20)) 1000000000), wr (w20 + 1)))
            else
              obind (getI (a_.getD []) w9) fun a188 =>
              obind (getI (b_.getD []) w20) fun a192 =>
              obind (t_spec_l09Cost a188 a192) fun c196 =>
              obind (getI (w17.getD []) (wr ((wr (w9 * (((b_.getD []).length : Nat) : Int))) + w20))) fun a197 =>
              some (.inl ((setS w17 (wr ((wr (w9 * (((b_.getD []).length : Nat) : Int))) + w20)) (wr (c176 + c196))), wr (w20 + 1)))
          else
            obind (bif decide (c170 = 1000000000) then some false else (obind (t_spec_l09Size (wr (w9 - w20))) fun c205 => some (decide (band_ < c205)))) fun c206 =>
            bif (bif decide (c170 = 1000000000) then true else c206) then
              obind (getI (w17.getD []) (wr ((wr (w9 * (((b_.getD []).length : Nat) : Int))) + w20))) fun a208 =>
              some (.inl ((setS w17 (wr ((wr (w9 * (((b_.getD []).length : Nat) : Int))) + w20)) 1000000000), wr (w20 + 1)))
            else
              obind (getI (a_.getD []) w9) fun a215 =>
              obind (getI (b_.getD []) w20) fun a219 =>
              obind (t_spec_l09Cost a215 a219) fun c223 =>
              obind (getI (w17.getD []) (wr ((wr (w9 * (((b_.getD []).length : Nat) : Int))) + w20))) fun a224 =>
              some (.inl ((setS w17 (wr ((wr (w9 * (((b_.getD []).length : Nat) : Int))) + w20)) (wr (c170 + c223))), wr (w20 + 1)))
        else
          bif decide (0 < w20) then
            obind (getI (w17.getD []) (wr ((wr ((wr (w9 * (((b_.getD []).length : Nat) : Int))) + w20)) - 1))) fun a232 =>
            obind (some ((fun a b : Int => min a b) 0 a232)) fun c236 =>
            obind (bif decide (c236 = 1000000000) then some false else (obind (t_spec_l09Size (wr (w9 - w20))) fun c238 => some (decide (band_ < c238)))) fun c239 =>
            bif (bif decide (c236 = 1000000000) then true else c239) then
              obind (getI (w17.getD []) (wr ((wr (w9 * (((b_.getD []).length : Nat) : Int))) + w20))) fun a241 =>
              some (.inl ((setS w17 (wr ((wr (w9 * (((b_.getD []).length : Nat) : Int))) + w20)) 1000000000), wr (w20 + 1)))
            else
              obind (getI (a_.getD []) w9) fun a248 =>
              obind (getI (b_.getD []) w20) fun a252 =>
              obind (t_spec_l09Cost a248 a252) fun c256 =>
              obind (getI (w17.getD []) (wr ((wr (w9 * (((b_.getD []).length : Nat) : Int))) + w20))) fun a257 =>
              some (.inl ((setS w17 (wr ((wr (w9 * (((b_.getD []).length : Nat) : Int))) + w20)) (wr (c236 + c256))), wr (w20 + 1)))
          else
            obind (bif decide (0 = 1000000000) then some false else (obind (t_spec_l09Size (wr (w9 - w20))) fun c265 => some (decide (band_ < c265)))) fun c266 =>
            bif (bif decide (0 = 1000000000) then true else c266) then
              obind (getI (w17.getD []) (wr ((wr (w9 * (((b_.getD []).length : Nat) : Int))) + w20))) fun a268 =>
              some (.inl ((setS w17 (wr ((wr (w9 * (((b_.getD []).length : Nat) : Int))) + w20)) 1000000000), wr (w20 + 1)))
            else
              obind (getI (a_.getD []) w9) fun a275 =>
              obind (getI (b_.getD []) w20) fun a279 =>
              obind (t_spec_l09Cost a275 a279) fun c283 =>
              obind (getI (w17.getD []) (wr ((wr (w9 * (((b_.getD []).length : Nat) : Int))) + w20))) fun a284 =>
              some (.inl ((setS w17 (wr ((wr (w9 * (((b_.getD []).length : Nat) : Int))) + w20)) (wr (0 + c283))), wr (w20 + 1)))
    else
      obind (bif decide (0 < w9) then (some (decide (0 < w20))) else some false) fun c292 =>
      bif (bif decide (0 < w9) then c292 else false) then
        obind (getI (w17.getD []) (wr ((wr ((wr ((wr (w9 - 1)) * (((b_.getD []).length : Nat) : Int))) + w20)) - 1))) fun a294 =>
        obind (some ((fun a b : Int => min a b) 1000000000 a294)) fun c298 =>
        bif decide (0 < w9) then
          obind (getI (w17.getD []) (wr ((wr ((wr (w9 - 1)) * (((b_.getD []).length : Nat) : Int))) + w20))) fun a300 =>
          obind (some ((fun a b : Int => min a b) c298 a300)) fun c304 =>
          bif decide (0 < w20) then
            obind (getI (w17.getD []) (wr ((wr ((wr (w9 * (((b_.getD []).length : Nat) : Int))) + w20)) - 1))) fun a306 =>
            obind (some ((fun a b : Int => min a b) c304 a306)) fun c310 =>
            obind (bif decide (c310 = 1000000000) then some false else (obind (t_spec_l09Size (wr (w9 - w20))) fun c312 => some (decide (band_ < c312)))) fun c313 =>
            bif (bif decide (c310 = 1000000000) then true else c313) then
              obind (getI (w17.getD []) (wr ((wr (w9 * (((b_.getD []).length : Nat) : Int))) + w20))) fun a315 =>
              some (.inl ((setS w17 (wr ((wr (w9 * (((b_.getD []).length : Nat) : Int))) + w20)) 1000000000), wr (w20 + 1)))
            else
              obind (getI (a_.getD []) w9) fun a322 =>
              obind (getI (b_.getD []) w20) fun a326 =>
              obind (t_spec_l09Cost a322 a326) fun c330 =>
              obind (getI (w17.getD []) (wr ((wr (w9 * (((b_.getD []).length : Nat) : Int))) + w20))) fun a331 =>
              some (.inl ((setS w17 (wr ((wr (w9 * (((b_.getD []).length : Nat) : Int))) + w20)) (wr (c310 + c330))), wr (w20 + 1)))
          else
            obind (bif decide (c304 = 1000000000) then some false else (obind (t_spec_l09Size (wr (w9 - w20))) fun c339 => some (decide (band_ < c339)))) fun c340 =>
            bif (bif decide (c304 = 1000000000) then true else c340) then
              obind (getI (w17.getD []) (wr ((wr (w9 * (((b_.getD []).length : Nat) : Int))) + w20))) fun a342 =>
              some (.inl ((setS w17 (wr ((wr (w9 * (((b_.getD []).length : Nat) : Int))) + w20)) 1000000000), wr (w20 + 1)))
            else
              obind (getI (a_.getD []) w9) fun a349 =>
              obind (getI (b_.getD []) w20) fun a353 =>
              obind (t_spec_l09Cost a349 a353) fun c357 =>
              obind (getI (w17.getD []) (wr ((wr (w9 * (((b_.getD []).length : Nat) : Int))) + w20))) fun a358 =>
              some (.inl ((setS w17 (wr ((wr (w9 * (((b_.getD []).length : Nat) : Int))) + w20)) (wr (c304 + c357))), wr (w20 + 1)))
        else
          bif decide (0 < w20) then
            obind (getI (w17.getD []) (wr ((wr ((wr (w9 * (((b_.getD []).length : Nat) : Int))) + w20)) - 1))) fun a366 =>
            obind (some ((fun a b : Int => min a b) c298 a366)) fun c370 =>
            obind (bif decide (c370 = 1000000000) then some false else (obind (t_spec_l09Size (wr (w9 - w20))) fun c372 => some (decide (band_ < c372)))) fun c373 =>
            bif (bif decide (c370 = 1000000000) then true else c373) then
              obind (getI (w17.getD []) (wr ((wr (w9 * (((b_.getD []).length : Nat) : Int))) + w20))) fun a375 =>
              some (.inl ((setS w17 (wr ((wr (w9 * (((b_.getD []).length : Nat) : Int))) + w20)) 1000000000), wr (w20 + 1)))
            else
              obind (getI (a_.getD []) w9) fun a382 =>
              obind (getI (b_.getD []) w20) fun a386 =>
              obind (t_spec_l09Cost a382 a386) fun c390 =>
              obind (getI (w17.getD []) (wr ((wr (w9 * (((b_.getD []).length : Nat) : Int))) + w20))) fun a391 =>
              some (.inl ((setS w17 (wr ((wr (w9 * (((b_.getD []).length : Nat) : Int))) + w20)) (wr (c370 + c390))), wr (w20 + 1)))
          else
            obind (bif decide (c298 = 1000000000) then some false else (obind (t_spec_l09Size (wr (w9 - w20))) fun c399 => some (decide (band_ < c399)))) fun c400 =>
            bif (bif decide (c298 = 1000000000) then true else c400) then
              obind (getI (w17.getD []) (wr ((wr (w9 * (((b_.getD []).length : Nat) : Int))) + w20))) fun a402 =>
              some (.inl ((setS w17 (wr ((wr (w9 * (((b_.getD []).length : Nat) : Int))) + w20)) 1000000000), wr (w20 + 1)))
            else
              obind (getI (a_.getD []) w9) fun a409 =>
              obind (getI (b_.getD []) w20) fun a413 =>
              obind (t_spec_l09Cost a409 a413) fun c417 =>
              obind (getI (w17.getD []) (wr ((wr (w9 * (((b_.getD []).length : Nat) : Int))) + w20))) fun a418 =>
              some (.inl ((setS w17 (wr ((wr (w9 * (((b_.getD []).length : Nat) : Int))) + w20)) (wr (c298 + c417))), wr (w20 + 1)))
      else
        bif decide (0 < w9) then
          obind (getI (w17.getD []) (wr ((wr ((wr (w9 - 1)) * (((b_.getD []).length : Nat) : Int))) + w20))) fun a426 =>
          obind (some ((fun a b : Int => min a b) 1000000000 a426)) fun c430 =>
          bif decide (0 < w20) then
            obind (getI (w17.getD []) (wr ((wr ((wr (w9 * (((b_.getD []).length : Nat) : Int))) + w20)) - 1))) fun a432 =>
            obind (some ((fun a b : Int => min a b) c430 a432)) fun c436 =>
            obind (bif decide (c436 = 1000000000) then some false else (obind (t_spec_l09Size (wr (w9 - w20))) fun c438 => some (decide (band_ < c438)))) fun c439 =>
            bif (bif decide (c436 = 1000000000) then true else c439) then
              obind (getI (w17.getD []) (wr ((wr (w9 * (((b_.getD []).length : Nat) : Int))) + w20))) fun a441 =>
              some (.inl ((setS w17 (wr ((wr (w9 * (((b_.getD []).length : Nat) : Int))) + w20)) 1000000000), wr (w20 + 1)))
            else
              obind (getI (a_.getD []) w9) fun a448 =>
              obind (getI (b_.getD []) w20) fun a452 =>
              obind (t_spec_l09Cost a448 a452) fun c456 =>
              obind (getI (w17.getD []) (wr ((wr (w9 * (((b_.getD []).length : Nat) : Int))) + w20))) fun a457 =>
              some (.inl ((setS w17 (wr ((wr (w9 * (((b_.getD []).length : Nat) : Int))) + w20)) (wr (c436 + c456))), wr (w20 + 1)))
          else
            obind (bif decide (c430 = 1000000000) then some false else (obind (t_spec_l09Size (wr (w9 - w20))) fun c465 => some (decide (band_ < c465)))) fun c466 =>
            bif (bif decide (c430 = 1000000000) then true else c466) then
              obind (getI (w17.getD []) (wr ((wr (w9 * (((b_.getD []).length : Nat) : Int))) + w20))) fun a468 =>
              some (.inl ((setS w17 (wr ((wr (w9 * (((b_.getD []).length : Nat) : Int))) + w20)) 1000000000), wr (w20 + 1)))
            else
              obind (getI (a_.getD []) w9) fun a475 =>
              obind (getI (b_.getD []) w20) fun a479 =>
              obind (t_spec_l09Cost a475 a479) fun c483 =>
              obind (getI (w17.getD []) (wr ((wr (w9 * (((b_.getD []).length : Nat) : Int))) + w20))) fun a484 =>
              some (.inl ((setS w17 (wr ((wr (w9 * (((b_.getD []).length : Nat) : Int))) + w20)) (wr (c430 + c483))), wr (w20 + 1)))
        else
          bif decide (0 < w20) then
            obind (getI (w17.getD []) (wr ((wr ((wr (w9 * (((b_.getD []).length : Nat) : Int))) + w20)) - 1))) fun a492 =>
            obind (some ((fun a b : Int => min a b) 1000000000 a492)) fun c496 =>
            obind (bif decide (c496 = 1000000000) then some false else (obind (t_spec_l09Size (wr (w9 - w20))) fun c498 => some (decide (band_ < c498)))) fun c499 =>
            bif (bif decide (c496 = 1000000000) then true else c499) then
              obind (getI (w17.getD []) (wr ((wr (w9 * (((b_.getD []).length : Nat) : Int))) + w20))) fun a501 =>
              some (.inl ((setS w17 (wr ((wr (w9 * (((b_.getD []).length : Nat) : Int))) + w20)) 1000000000), wr (w20 + 1)))
            else
              obind (getI (a_.getD []) w9) fun a508 =>
              obind (getI (b_.getD []) w20) fun a512 =>
              obind (t_spec_l09Cost a508 a512) fun c516 =>
              obind (getI (w17.getD []) (wr ((wr (w9 * (((b_.getD []).length : Nat) : Int))) + w20))) fun a517 =>
              some (.inl ((setS w17 (wr ((wr (w9 * (((b_.getD []).length : Nat) : Int))) + w20)) (wr (c496 + c516))), wr (w20 + 1)))
          else
            obind (bif decide (1000000000 = 1000000000) then some false else (obind (t_spec_l09Size (wr (w9 - w20))) fun c525 => some (decide (band_ < c525)))) fun c526 =>
            bif (bif decide (1000000000 = 1000000000) then true else c526) then
              obind (getI (w17.getD []) (wr ((wr (w9 * (((b_.getD []).length : Nat) : Int))) + w20))) fun a528 =>
              some (.inl ((setS w17 (wr ((wr (w9 * (((b_.getD []).length : Nat) : Int))) + w20)) 1000000000), wr (w20 + 1)))
            else
              obind (getI (a_.getD []) w9) fun a535 =>
              obind (getI (b_.getD []) w20) fun a539 =>
              obind (t_spec_l09Cost a535 a539) fun c543 =>
              obind (getI (w17.getD []) (wr ((wr (w9 * (((b_.getD []).length : Nat) : Int))) + w20))) fun a544 =>
              some (.inl ((setS w17 (wr ((wr (w9 * (((b_.getD []).length : Nat) : Int))) + w20)) (wr (1000000000 + c543))), wr (w20 + 1)))
  else
    some (.inr w17)
def s0_spec_l09Table (a_ : Sl Feat) (b_ : Sl Feat) (band_ : Int) : ((Sl Int) × Int) → Option (Sum ((Sl Int) × Int) (Sl Int)) := fun (w6, w9) =>
  bif decide (w9 < (((a_.getD []).length : Nat) : Int)) then
    obind (loopT (s1_spec_l09Table a_ b_ band_ w9) (w6, 0)) fun q23 =>
    some (.inl (q23, wr (w9 + 1)))
  else
    some (.inr w6)
def t_spec_l09Table (a_ : Sl Feat) (b_ : Sl Feat) (band_ : Int) : Option (Sl Int) :=
  obind (makeO 0 (wr ((((a_.getD []).length : Nat) : Int) * (((b_.getD []).length : Nat) : Int)))) fun l5 =>
  obind (loopT (s0_spec_l09Table a_ b_ band_) ((some l5), 0)) fun q12 =>
  some q12

theorem tl1_spec_l09Table (env : Nat → Contract) {B : Base} (he_spec_l00Min : env n_spec_l00Min = .pure (T2 (fun a b : Int => min a b))) (he_spec_l09Cost : env n_spec_l09Cost = .pure (C2 (fun c : Int => enc c) t_spec_l09Cost)) (he_spec_l09Size : env n_spec_l09Size = .pure (C1 (fun c : Int => enc c) t_spec_l09Size)) (a_ : Sl Feat) (b_ : Sl Feat) (band_ : Int) (x1 : AV) (w9 : Int)  {st : (Sl Int) × Int} {tm : TM} {h : Heap} (R : (fun (st : (Sl Int) × Int) tm h18 => match st with | (w17, w20) => tm = ((Sl.enc a_) :: (Sl.enc b_) :: (iv band_) :: und :: und :: und :: nilS :: (iv (((a_.getD []).length : Nat) : Int)) :: (iv (((b_.getD []).length : Nat) : Int)) :: x1 :: (iv w9) :: (iv w20) :: AV.top :: (Sl.enc a_) :: (iv (((a_.getD []).length : Nat) : Int)) :: (Sl.enc b_) :: (iv (((b_.getD []).length : Nat) : Int)) :: (iv (((a_.getD []).length : Nat) : Int)) :: (iv (((b_.getD []).length : Nat) : Int)) :: (iv (wr ((((a_.getD []).length : Nat) : Int) * (((b_.getD []).length : Nat) : Int)))) :: x1 :: (iv w9) :: (iv (((a_.getD []).length : Nat) : Int)) :: (bv (decide (w9 < (((a_.getD []).length : Nat) : Int)))) :: AV.top :: AV.top :: AV.top :: AV.top :: AV.top :: AV.top :: AV.top :: AV.top :: AV.top :: AV.top :: AV.top :: AV.top :: AV.top :: AV.top :: AV.top :: AV.top :: AV.top :: AV.top :: AV.top :: AV.top :: AV.top :: AV.top :: AV.top :: AV.top :: AV.top :: AV.top :: AV.top :: AV.top :: AV.top :: AV.top :: AV.top :: AV.top :: AV.top :: AV.top :: AV.top :: AV.top :: AV.top :: AV.top :: AV.top :: AV.top :: AV.top :: AV.top :: AV.top :: AV.top :: AV.top :: AV.top :: AV.top :: AV.top :: AV.top :: AV.top :: AV.top :: AV.top :: AV.top :: AV.top :: AV.top :: AV.top :: AV.top :: AV.top :: AV.top :: AV.top :: AV.top :: AV.top :: AV.top :: AV.top :: AV.top :: AV.top :: AV.top :: AV.top :: AV.top :: AV.top :: AV.top :: AV.top :: AV.top :: AV.top :: AV.top :: AV.top :: AV.top :: AV.top :: AV.top :: AV.top :: AV.top :: AV.top :: AV.top :: AV.top :: AV.top :: AV.top :: AV.top :: AV.top :: AV.top :: AV.top :: AV.top :: AV.top :: und :: []) ∧ Hold B h18 [(x1, obS (w17 : Sl Int))]) st tm h) : Sim (loopP hm1_spec_l09Table xm1_spec_l09Table (lb1_spec_l09Table env) tm h) (loopT (s1_spec_l09Table a_ b_ band_ w9) st) (fun (q : Sl Int) (r : Res) => match q with | q23 => ∃ (q24 : Int) (z25 : AV) (h21 : Heap), r = (.exit 2, ((Sl.enc a_) :: (Sl.enc b_) :: (iv band_) :: und :: und :: und :: nilS :: (iv (((a_.getD []).length : Nat) : Int)) :: (iv (((b_.getD []).length : Nat) : Int)) :: x1 :: (iv w9) :: (iv q24) :: z25 :: (Sl.enc a_) :: (iv (((a_.getD []).length : Nat) : Int)) :: (Sl.enc b_) :: (iv (((b_.getD []).length : Nat) : Int)) :: (iv (((a_.getD []).length : Nat) : Int)) :: (iv (((b_.getD []).length : Nat) : Int)) :: (iv (wr ((((a_.getD []).length : Nat) : Int) * (((b_.getD []).length : Nat) : Int)))) :: x1 :: (iv w9) :: (iv (((a_.getD []).length : Nat) : Int)) :: (bv (decide (w9 < (((a_.getD []).length : Nat) : Int)))) :: AV.top :: AV.top :: AV.top :: AV.top :: AV.top :: AV.top :: AV.top :: AV.top :: AV.top :: AV.top :: AV.top :: AV.top :: AV.top :: AV.top :: AV.top :: AV.top :: AV.top :: AV.top :: AV.top :: AV.top :: AV.top :: AV.top :: AV.top :: AV.top :: AV.top :: AV.top :: AV.top :: AV.top :: AV.top :: AV.top :: AV.top :: AV.top :: AV.top :: AV.top :: AV.top :: AV.top :: AV.top :: AV.top :: AV.top :: AV.top :: AV.top :: AV.top :: AV.top :: AV.top :: AV.top :: AV.top :: AV.top :: AV.top :: AV.top :: AV.top :: AV.top :: AV.top :: AV.top :: AV.top :: AV.top :: AV.top :: AV.top :: AV.top :: AV.top :: AV.top :: AV.top :: AV.top :: AV.top :: AV.top :: AV.top :: AV.top :: AV.top :: AV.top :: AV.top :: AV.top :: AV.top :: AV.top :: AV.top :: AV.top :: AV.top :: AV.top :: AV.top :: AV.top :: AV.top :: AV.top :: AV.top :: AV.top :: AV.top :: AV.top :: AV.top :: AV.top :: AV.top :: AV.top :: AV.top :: AV.top :: AV.top :: AV.top :: und :: []), h21) ∧ Hold B h21 [(x1, obS (q23 : Sl Int))]) := by
  refine loop_sim (Rel := fun (st : (Sl Int) × Int) tm h18 => match st with | (w17, w20) => tm = ((Sl.enc a_) :: (Sl.enc b_) :: (iv band_) :: und :: und :: und :: nilS :: (iv (((a_.getD []).length : Nat) : Int)) :: (iv (((b_.getD []).length : Nat) : Int)) :: x1 :: (iv w9) :: (iv w20) :: AV.top :: (Sl.enc a_) :: (iv (((a_.getD []).length : Nat) : Int)) :: (Sl.enc b_) :: (iv (((b_.getD []).length : Nat) : Int)) :: (iv (((a_.getD []).length : Nat) : Int)) :: (iv (((b_.getD []).length : Nat) : Int)) :: (iv (wr ((((a_.getD []).length : Nat) : Int) * (((b_.getD []).length : Nat) : Int)))) :: x1 :: (iv w9) :: (iv (((a_.getD []).length : Nat) : Int)) :: (bv (decide (w9 < (((a_.getD []).length : Nat) : Int)))) :: AV.top :: AV.top :: AV.top :: AV.top :: AV.top :: AV.top :: AV.top :: AV.top :: AV.top :: AV.top :: AV.top :: AV.top :: AV.top :: AV.top :: AV.top :: AV.top :: AV.top :: AV.top :: AV.top :: AV.top :: AV.top :: AV.top :: AV.top :: AV.top :: AV.top :: AV.top :: AV.top :: AV.top :: AV.top :: AV.top :: AV.top :: AV.top :: AV.top :: AV.top :: AV.top :: AV.top :: AV.top :: AV.top :: AV.top :: AV.top :: AV.top :: AV.top :: AV.top :: AV.top :: AV.top :: AV.top :: AV.top :: AV.top :: AV.top :: AV.top :: AV.top :: AV.top :: AV.top :: AV.top :: AV.top :: AV.top :: AV.top :: AV.top :: AV.top :: AV.top :: AV.top :: AV.top :: AV.top :: AV.top :: AV.top :: AV.top :: AV.top :: AV.top :: AV.top :: AV.top :: AV.top :: AV.top :: AV.top :: AV.top :: AV.top :: AV.top :: AV.top :: AV.top :: AV.top :: AV.top :: AV.top :: AV.top :: AV.top :: AV.top :: AV.top :: AV.top :: AV.top :: AV.top :: AV.top :: AV.top :: AV.top :: AV.top :: und :: []) ∧ Hold B h18 [(x1, obS (w17 : Sl Int))]) (fun st tm h18 R => ?_) R
  obtain ⟨w17, w20⟩ := st
  obtain ⟨rfl, O19⟩ := R
  rw [e_lb1_spec_l09Table]
  unfold s1_spec_l09Table
  dsimp only
  refine sim_let (v := bv (decide (w20 < (((b_.getD []).length : Nat) : Int)))) (aBin_lss _ _) ?_
  refine sim_cond (fun c27 => ?_) (fun c27 => ?_)
  · refine sim_let (v := bv (decide (w9 = 0))) (aCmp_eq _ _) ?_
    refine sim_guardT (e := bv) (fun hb28 => ?_) (fun c29 => ?_)
    · refine sim_let (v := bv (decide (w20 = 0))) (aCmp_eq _ _) ?_
      exact sim_ret rfl
    · refine sim_let (v := bv (bif decide (w9 = 0) then c29 else false)) (pick_b _ _ _) ?_
      refine sim_cond (fun c30 => ?_) (fun c30 => ?_)
      · refine sim_let (v := bv (decide (0 < w9))) (aBin_gtr _ _) ?_
        refine sim_guardT (e := bv) (fun hb31 => ?_) (fun c32 => ?_)
        · refine sim_let (v := bv (decide (0 < w20))) (aBin_gtr _ _) ?_
          exact sim_ret rfl
        · refine sim_let (v := bv (bif decide (0 < w9) then c32 else false)) (pick_b _ _ _) ?_
          refine sim_cond (fun c33 => ?_) (fun c33 => ?_)
          · refine sim_let (v := iv (wr (w9 - 1))) (aBin_sub _ _) ?_
            refine sim_let (v := iv (wr ((wr (w9 - 1)) * (((b_.getD []).length : Nat) : Int)))) (aBin_mul _ _) ?_
            refine sim_let (v := iv (wr ((wr ((wr (w9 - 1)) * (((b_.getD []).length : Nat) : Int))) + w20))) (aBin_add _ _) ?_
            refine sim_let (v := iv (wr ((wr ((wr ((wr (w9 - 1)) * (((b_.getD []).length : Nat) : Int))) + w20)) - 1))) (aBin_sub _ _) ?_
            refine sim_get (O19.tab (A := Int) (s := w17) 0 rfl) (fun m35 a34 hi36 hm37 => ?_)
            refine sim_let (v := iv a34) ((O19.tab (A := Int) (s := w17) 0 rfl).ld hm37 false 1 0) ?_
            refine sim_callV2 (t := (fun a b : Int => min a b)) he_spec_l00Min (snapD_int _ _) (snapD_int _ _) (fun c38 => ?_)
            refine sim_let (v := bv (decide (0 < w9))) (aBin_gtr _ _) ?_
            refine sim_cond (fun c39 => ?_) (fun c39 => ?_)
            · refine sim_let (v := iv (wr (w9 - 1))) (aBin_sub _ _) ?_
              refine sim_let (v := iv (wr ((wr (w9 - 1)) * (((b_.getD []).length : Nat) : Int)))) (aBin_mul _ _) ?_
              refine sim_let (v := iv (wr ((wr ((wr (w9 - 1)) * (((b_.getD []).length : Nat) : Int))) + w20))) (aBin_add _ _) ?_
              refine sim_get (O19.tab (A := Int) (s := w17) 0 rfl) (fun m41 a40 hi42 hm43 => ?_)
              refine sim_let (v := iv a40) ((O19.tab (A := Int) (s := w17) 0 rfl).ld hm43 false 1 0) ?_
              refine sim_callV2 (t := (fun a b : Int => min a b)) he_spec_l00Min (snapD_int _ _) (snapD_int _ _) (fun c44 => ?_)
              refine sim_let (v := bv (decide (0 < w20))) (aBin_gtr _ _) ?_
              refine sim_cond (fun c45 => ?_) (fun c45 => ?_)
              · refine sim_let (v := iv (wr (w9 * (((b_.getD []).length : Nat) : Int)))) (aBin_mul _ _) ?_
                refine sim_let (v := iv (wr ((wr (w9 * (((b_.getD []).length : Nat) : Int))) + w20))) (aBin_add _ _) ?_
                refine sim_let (v := iv (wr ((wr ((wr (w9 * (((b_.getD []).length : Nat) : Int))) + w20)) - 1))) (aBin_sub _ _) ?_
                refine sim_get (O19.tab (A := Int) (s := w17) 0 rfl) (fun m47 a46 hi48 hm49 => ?_)
                refine sim_let (v := iv a46) ((O19.tab (A := Int) (s := w17) 0 rfl).ld hm49 false 1 0) ?_
                refine sim_callV2 (t := (fun a b : Int => min a b)) he_spec_l00Min (snapD_int _ _) (snapD_int _ _) (fun c50 => ?_)
                refine sim_let (v := bv (decide (c50 = 1000000000))) (aCmp_eq _ _) ?_
                refine sim_guardF (e := bv) (fun hb51 => ?_) (fun c53 => ?_)
                · refine sim_let (v := iv (wr (w9 - w20))) (aBin_sub _ _) ?_
                  refine sim_call1 he_spec_l09Size (snapD_int _ _) (fun c52 => ?_)
                  refine sim_let2 (hand_plain (by rfl) _ _) ?_
                  refine sim_let (v := bv (decide (band_ < c52))) (aBin_gtr _ _) ?_
                  exact sim_ret rfl
                · refine sim_let (v := bv (bif decide (c50 = 1000000000) then true else c53)) (pick_b' _ _ _) ?_
                  refine sim_cond (fun c54 => ?_) (fun c54 => ?_)
                  · refine sim_let (v := iv (wr (w9 * (((b_.getD []).length : Nat) : Int)))) (aBin_mul _ _) ?_
                    refine sim_let (v := iv (wr ((wr (w9 * (((b_.getD []).length : Nat) : Int))) + w20))) (aBin_add _ _) ?_
                    refine sim_get (O19.tab (A := Int) (s := w17) 0 rfl) (fun m56 a55 hi57 hm58 => ?_)
                    refine sim_set (A := Int) O19 0 1000000000 rfl hi57 hm58 rfl (by simp) (by first | rfl | simp) (by first | rfl | simp [splice]) (fun h59 O60 => ?_)
                    replace O60 : Hold B h59 [(x1, obS ((setS w17 (wr ((wr (w9 * (((b_.getD []).length : Nat) : Int))) + w20)) 1000000000) : Sl Int))] := O60
                    refine sim_let (v := iv (wr (w20 + 1))) (aBin_add _ _) ?_
                    exact sim_ret ⟨rfl, rfl, O60⟩
                  · refine sim_let (v := iv (wr (w9 * (((b_.getD []).length : Nat) : Int)))) (aBin_mul _ _) ?_
                    refine sim_let (v := iv (wr ((wr (w9 * (((b_.getD []).length : Nat) : Int))) + w20))) (aBin_add _ _) ?_
                    refine sim_get (Tab.enc h18 a_) (fun m63 a62 hi64 hm65 => ?_)
                    refine sim_let (v := AV.agg [iv a62.x, iv a62.y, iv a62.d]) ((Tab.enc h18 a_).ld hm65 true 3 0) ?_
                    refine sim_get (Tab.enc h18 b_) (fun m67 a66 hi68 hm69 => ?_)
                    refine sim_let (v := AV.agg [iv a66.x, iv a66.y, iv a66.d]) ((Tab.enc h18 b_).ld hm69 true 3 0) ?_
                    refine sim_callQ2 he_spec_l09Cost (snapD_nr _ a62 rfl) (snapD_nr _ a66 rfl) (fun c70 => ?_)
                    refine sim_let2 (hand_plain (by rfl) _ _) ?_
                    refine sim_let (v := iv (wr (c50 + c70))) (aBin_add _ _) ?_
                    refine sim_get (O19.tab (A := Int) (s := w17) 0 rfl) (fun m72 a71 hi73 hm74 => ?_)
                    refine sim_set (A := Int) O19 0 (wr (c50 + c70)) rfl hi73 hm74 rfl (by simp) (by first | rfl | simp) (by first | rfl | simp [splice]) (fun h75 O76 => ?_)
                    replace O76 : Hold B h75 [(x1, obS ((setS w17 (wr ((wr (w9 * (((b_.getD []).length : Nat) : Int))) + w20)) (wr (c50 + c70))) : Sl Int))] := O76
                    refine sim_let (v := iv (wr (w20 + 1))) (aBin_add _ _) ?_
                    exact sim_ret ⟨rfl, rfl, O76⟩
              · refine sim_let (v := bv (decide (c44 = 1000000000))) (aCmp_eq _ _) ?_
                refine sim_guardF (e := bv) (fun hb78 => ?_) (fun c80 => ?_)
                · refine sim_let (v := iv (wr (w9 - w20))) (aBin_sub _ _) ?_
                  refine sim_call1 he_spec_l09Size (snapD_int _ _) (fun c79 => ?_)
                  refine sim_let2 (hand_plain (by rfl) _ _) ?_
                  refine sim_let (v := bv (decide (band_ < c79))) (aBin_gtr _ _) ?_
                  exact sim_ret rfl
                · refine sim_let (v := bv (bif decide (c44 = 1000000000) then true else c80)) (pick_b' _ _ _) ?_
                  refine sim_cond (fun c81 => ?_) (fun c81 => ?_)
                  · refine sim_let (v := iv (wr (w9 * (((b_.getD []).length : Nat) : Int)))) (aBin_mul _ _) ?_
                    refine sim_let (v := iv (wr ((wr (w9 * (((b_.getD []).length : Nat) : Int))) + w20))) (aBin_add _ _) ?_
                    refine sim_get (O19.tab (A := Int) (s := w17) 0 rfl) (fun m83 a82 hi84 hm85 => ?_)
                    refine sim_set (A := Int) O19 0 1000000000 rfl hi84 hm85 rfl (by simp) (by first | rfl | simp) (by first | rfl | simp [splice]) (fun h86 O87 => ?_)
                    replace O87 : Hold B h86 [(x1, obS ((setS w17 (wr ((wr (w9 * (((b_.getD []).length : Nat) : Int))) + w20)) 1000000000) : Sl Int))] := O87
                    refine sim_let (v := iv (wr (w20 + 1))) (aBin_add _ _) ?_
                    exact sim_ret ⟨rfl, rfl, O87⟩
                  · refine sim_let (v := iv (wr (w9 * (((b_.getD []).length : Nat) : Int)))) (aBin_mul _ _) ?_
                    refine sim_let (v := iv (wr ((wr (w9 * (((b_.getD []).length : Nat) : Int))) + w20))) (aBin_add _ _) ?_
                    refine sim_get (Tab.enc h18 a_) (fun m90 a89 hi91 hm92 => ?_)
                    refine sim_let (v := AV.agg [iv a89.x, iv a89.y, iv a89.d]) ((Tab.enc h18 a_).ld hm92 true 3 0) ?_
                    refine sim_get (Tab.enc h18 b_) (fun m94 a93 hi95 hm96 => ?_)
                    refine sim_let (v := AV.agg [iv a93.x, iv a93.y, iv a93.d]) ((Tab.enc h18 b_).ld hm96 true 3 0) ?_
                    refine sim_callQ2 he_spec_l09Cost (snapD_nr _ a89 rfl) (snapD_nr _ a93 rfl) (fun c97 => ?_)
                    refine sim_let2 (hand_plain (by rfl) _ _) ?_
                    refine sim_let (v := iv (wr (c44 + c97))) (aBin_add _ _) ?_
                    refine sim_get (O19.tab (A := Int) (s := w17) 0 rfl) (fun m99 a98 hi100 hm101 => ?_)
                    refine sim_set (A := Int) O19 0 (wr (c44 + c97)) rfl hi100 hm101 rfl (by simp) (by first | rfl | simp) (by first | rfl | simp [splice]) (fun h102 O103 => ?_)
                    replace O103 : Hold B h102 [(x1, obS ((setS w17 (wr ((wr (w9 * (((b_.getD []).length : Nat) : Int))) + w20)) (wr (c44 + c97))) : Sl Int))] := O103
                    refine sim_let (v := iv (wr (w20 + 1))) (aBin_add _ _) ?_
                    exact sim_ret ⟨rfl, rfl, O103⟩
            · refine sim_let (v := bv (decide (0 < w20))) (aBin_gtr _ _) ?_
              refine sim_cond (fun c105 => ?_) (fun c105 => ?_)
              · refine sim_let (v := iv (wr (w9 * (((b_.getD []).length : Nat) : Int)))) (aBin_mul _ _) ?_
                refine sim_let (v := iv (wr ((wr (w9 * (((b_.getD []).length : Nat) : Int))) + w20))) (aBin_add _ _) ?_
                refine sim_let (v := iv (wr ((wr ((wr (w9 * (((b_.getD []).length : Nat) : Int))) + w20)) - 1))) (aBin_sub _ _) ?_
                refine sim_get (O19.tab (A := Int) (s := w17) 0 rfl) (fun m107 a106 hi108 hm109 => ?_)
                refine sim_let (v := iv a106) ((O19.tab (A := Int) (s := w17) 0 rfl).ld hm109 false 1 0) ?_
                refine sim_callV2 (t := (fun a b : Int => min a b)) he_spec_l00Min (snapD_int _ _) (snapD_int _ _) (fun c110 => ?_)
                refine sim_let (v := bv (decide (c110 = 1000000000))) (aCmp_eq _ _) ?_
                refine sim_guardF (e := bv) (fun hb111 => ?_) (fun c113 => ?_)
                · refine sim_let (v := iv (wr (w9 - w20))) (aBin_sub _ _) ?_
                  refine sim_call1 he_spec_l09Size (snapD_int _ _) (fun c112 => ?_)
                  refine sim_let2 (hand_plain (by rfl) _ _) ?_
                  refine sim_let (v := bv (decide (band_ < c112))) (aBin_gtr _ _) ?_
                  exact sim_ret rfl
                · refine sim_let (v := bv (bif decide (c110 = 1000000000) then true else c113)) (pick_b' _ _ _) ?_
                  refine sim_cond (fun c114 => ?_) (fun c114 => ?_)
                  · refine sim_let (v := iv (wr (w9 * (((b_.getD []).length : Nat) : Int)))) (aBin_mul _ _) ?_
                    refine sim_let (v := iv (wr ((wr (w9 * (((b_.getD []).length : Nat) : Int))) + w20))) (aBin_add _ _) ?_
                    refine sim_get (O19.tab (A := Int) (s := w17) 0 rfl) (fun m116 a115 hi117 hm118 => ?_)
                    refine sim_set (A := Int) O19 0 1000000000 rfl hi117 hm118 rfl (by simp) (by first | rfl | simp) (by first | rfl | simp [splice]) (fun h119 O120 => ?_)
                    replace O120 : Hold B h119 [(x1, obS ((setS w17 (wr ((wr (w9 * (((b_.getD []).length : Nat) : Int))) + w20)) 1000000000) : Sl Int))] := O120
                    refine sim_let (v := iv (wr (w20 + 1))) (aBin_add _ _) ?_
                    exact sim_ret ⟨rfl, rfl, O120⟩
                  · refine sim_let (v := iv (wr (w9 * (((b_.getD []).length : Nat) : Int)))) (aBin_mul _ _) ?_
                    refine sim_let (v := iv (wr ((wr (w9 * (((b_.getD []).length : Nat) : Int))) + w20))) (aBin_add _ _) ?_
                    refine sim_get (Tab.enc h18 a_) (fun m123 a122 hi124 hm125 => ?_)
                    refine sim_let (v := AV.agg [iv a122.x, iv a122.y, iv a122.d]) ((Tab.enc h18 a_).ld hm125 true 3 0) ?_
                    refine sim_get (Tab.enc h18 b_) (fun m127 a126 hi128 hm129 => ?_)
                    refine sim_let (v := AV.agg [iv a126.x, iv a126.y, iv a126.d]) ((Tab.enc h18 b_).ld hm129 true 3 0) ?_
                    refine sim_callQ2 he_spec_l09Cost (snapD_nr _ a122 rfl) (snapD_nr _ a126 rfl) (fun c130 => ?_)
                    refine sim_let2 (hand_plain (by rfl) _ _) ?_
                    refine sim_let (v := iv (wr (c110 + c130))) (aBin_add _ _) ?_
                    refine sim_get (O19.tab (A := Int) (s := w17) 0 rfl) (fun m132 a131 hi133 hm134 => ?_)
                    refine sim_set (A := Int) O19 0 (wr (c110 + c130)) rfl hi133 hm134 rfl (by simp) (by first | rfl | simp) (by first | rfl | simp [splice]) (fun h135 O136 => ?_)
                    replace O136 : Hold B h135 [(x1, obS ((setS w17 (wr ((wr (w9 * (((b_.getD []).length : Nat) : Int))) + w20)) (wr (c110 + c130))) : Sl Int))] := O136
                    refine sim_let (v := iv (wr (w20 + 1))) (aBin_add _ _) ?_
                    exact sim_ret ⟨rfl, rfl, O136⟩
              · refine sim_let (v := bv (decide (c38 = 1000000000))) (aCmp_eq _ _) ?_
                refine sim_guardF (e := bv) (fun hb138 => ?_) (fun c140 => ?_)
                · refine sim_let (v := iv (wr (w9 - w20))) (aBin_sub _ _) ?_
                  refine sim_call1 he_spec_l09Size (snapD_int _ _) (fun c139 => ?_)
                  refine sim_let2 (hand_plain (by rfl) _ _) ?_
                  refine sim_let (v := bv (decide (band_ < c139))) (aBin_gtr _ _) ?_
                  exact sim_ret rfl
                · refine sim_let (v := bv (bif decide (c38 = 1000000000) then true else c140)) (pick_b' _ _ _) ?_
                  refine sim_cond (fun c141 => ?_) (fun c141 => ?_)
                  · refine sim_let (v := iv (wr (w9 * (((b_.getD []).length : Nat) : Int)))) (aBin_mul _ _) ?_
                    refine sim_let (v := iv (wr ((wr (w9 * (((b_.getD []).length : Nat) : Int))) + w20))) (aBin_add _ _) ?_
                    refine sim_get (O19.tab (A := Int) (s := w17) 0 rfl) (fun m143 a142 hi144 hm145 => ?_)
                    refine sim_set (A := Int) O19 0 1000000000 rfl hi144 hm145 rfl (by simp) (by first | rfl | simp) (by first | rfl | simp [splice]) (fun h146 O147 => ?_)
                    replace O147 : Hold B h146 [(x1, obS ((setS w17 (wr ((wr (w9 * (((b_.getD []).length : Nat) : Int))) + w20)) 1000000000) : Sl Int))] := O147
                    refine sim_let (v := iv (wr (w20 + 1))) (aBin_add _ _) ?_
                    exact sim_ret ⟨rfl, rfl, O147⟩
                  · refine sim_let (v := iv (wr (w9 * (((b_.getD []).length : Nat) : Int)))) (aBin_mul _ _) ?_
                    refine sim_let (v := iv (wr ((wr (w9 * (((b_.getD []).length : Nat) : Int))) + w20))) (aBin_add _ _) ?_
                    refine sim_get (Tab.enc h18 a_) (fun m150 a149 hi151 hm152 => ?_)
                    refine sim_let (v := AV.agg [iv a149.x, iv a149.y, iv a149.d]) ((Tab.enc h18 a_).ld hm152 true 3 0) ?_
                    refine sim_get (Tab.enc h18 b_) (fun m154 a153 hi155 hm156 => ?_)
                    refine sim_let (v := AV.agg [iv a153.x, iv a153.y, iv a153.d]) ((Tab.enc h18 b_).ld hm156 true 3 0) ?_
                    refine sim_callQ2 he_spec_l09Cost (snapD_nr _ a149 rfl) (snapD_nr _ a153 rfl) (fun c157 => ?_)
                    refine sim_let2 (hand_plain (by rfl) _ _) ?_
                    refine sim_let (v := iv (wr (c38 + c157))) (aBin_add _ _) ?_
                    refine sim_get (O19.tab (A := Int) (s := w17) 0 rfl) (fun m159 a158 hi160 hm161 => ?_)
                    refine sim_set (A := Int) O19 0 (wr (c38 + c157)) rfl hi160 hm161 rfl (by simp) (by first | rfl | simp) (by first | rfl | simp [splice]) (fun h162 O163 => ?_)
                    replace O163 : Hold B h162 [(x1, obS ((setS w17 (wr ((wr (w9 * (((b_.getD []).length : Nat) : Int))) + w20)) (wr (c38 + c157))) : Sl Int))] := O163
                    refine sim_let (v := iv (wr (w20 + 1))) (aBin_add _ _) ?_
                    exact sim_ret ⟨rfl, rfl, O163⟩
          · refine sim_let (v := bv (decide (0 < w9))) (aBin_gtr _ _) ?_
            refine sim_cond (fun c165 => ?_) (fun c165 => ?_)
            · refine sim_let (v := iv (wr (w9 - 1))) (aBin_sub _ _) ?_
              refine sim_let (v := iv (wr ((wr (w9 - 1)) * (((b_.getD []).length : Nat) : Int)))) (aBin_mul _ _) ?_
              refine sim_let (v := iv (wr ((wr ((wr (w9 - 1)) * (((b_.getD []).length : Nat) : Int))) + w20))) (aBin_add _ _) ?_
              refine sim_get (O19.tab (A := Int) (s := w17) 0 rfl) (fun m167 a166 hi168 hm169 => ?_)
              refine sim_let (v := iv a166) ((O19.tab (A := Int) (s := w17) 0 rfl).ld hm169 false 1 0) ?_
              refine sim_callV2 (t := (fun a b : Int => min a b)) he_spec_l00Min (snapD_int _ _) (snapD_int _ _) (fun c170 => ?_)
              refine sim_let (v := bv (decide (0 < w20))) (aBin_gtr _ _) ?_
              refine sim_cond (fun c171 => ?_) (fun c171 => ?_)
              · refine sim_let (v := iv (wr (w9 * (((b_.getD []).length : Nat) : Int)))) (aBin_mul _ _) ?_
                refine sim_let (v := iv (wr ((wr (w9 * (((b_.getD []).length : Nat) : Int))) + w20))) (aBin_add _ _) ?_
                refine sim_let (v := iv (wr ((wr ((wr (w9 * (((b_.getD []).length : Nat) : Int))) + w20)) - 1))) (aBin_sub _ _) ?_
                refine sim_get (O19.tab (A := Int) (s := w17) 0 rfl) (fun m173 a172 hi174 hm175 => ?_)
                refine sim_let (v := iv a172) ((O19.tab (A := Int) (s := w17) 0 rfl).ld hm175 false 1 0) ?_
                refine sim_callV2 (t := (fun a b : Int => min a b)) he_spec_l00Min (snapD_int _ _) (snapD_int _ _) (fun c176 => ?_)
                refine sim_let (v := bv (decide (c176 = 1000000000))) (aCmp_eq _ _) ?_
                refine sim_guardF (e := bv) (fun hb177 => ?_) (fun c179 => ?_)
                · refine sim_let (v := iv (wr (w9 - w20))) (aBin_sub _ _) ?_
                  refine sim_call1 he_spec_l09Size (snapD_int _ _) (fun c178 => ?_)
                  refine sim_let2 (hand_plain (by rfl) _ _) ?_
                  refine sim_let (v := bv (decide (band_ < c178))) (aBin_gtr _ _) ?_
                  exact sim_ret rfl
                · refine sim_let (v := bv (bif decide (c176 = 1000000000) then true else c179)) (pick_b' _ _ _) ?_
                  refine sim_cond (fun c180 => ?_) (fun c180 => ?_)
                  · refine sim_let (v := iv (wr (w9 * (((b_.getD []).length : Nat) : Int)))) (aBin_mul _ _) ?_
                    refine sim_let (v := iv (wr ((wr (w9 * (((b_.getD []).length : Nat) : Int))) + w20))) (aBin_add _ _) ?_
                    refine sim_get (O19.tab (A := Int) (s := w17) 0 rfl) (fun m182 a181 hi183 hm184 => ?_)
                    refine sim_set (A := Int) O19 0 1000000000 rfl hi183 hm184 rfl (by simp) (by first | rfl | simp) (by first | rfl | simp [splice]) (fun h185 O186 => ?_)
                    replace O186 : Hold B h185 [(x1, obS ((setS w17 (wr ((wr (w9 * (((b_.getD []).length : Nat) : Int))) + w20)) 1000000000) : Sl Int))] := O186
                    refine sim_let (v := iv (wr (w20 + 1))) (aBin_add _ _) ?_
                    exact sim_ret ⟨rfl, rfl, O186⟩
                  · refine sim_let (v := iv (wr (w9 * (((b_.getD []).length : Nat) : Int)))) (aBin_mul _ _) ?_
                    refine sim_let (v := iv (wr ((wr (w9 * (((b_.getD []).length : Nat) : Int))) + w20))) (aBin_add _ _) ?_
                    refine sim_get (Tab.enc h18 a_) (fun m189 a188 hi190 hm191 => ?_)
                    refine sim_let (v := AV.agg [iv a188.x, iv a188.y, iv a188.d]) ((Tab.enc h18 a_).ld hm191 true 3 0) ?_
                    refine sim_get (Tab.enc h18 b_) (fun m193 a192 hi194 hm195 => ?_)
                    refine sim_let (v := AV.agg [iv a192.x, iv a192.y, iv a192.d]) ((Tab.enc h18 b_).ld hm195 true 3 0) ?_
                    refine sim_callQ2 he_spec_l09Cost (snapD_nr _ a188 rfl) (snapD_nr _ a192 rfl) (fun c196 => ?_)
                    refine sim_let2 (hand_plain (by rfl) _ _) ?_
                    refine sim_let (v := iv (wr (c176 + c196))) (aBin_add _ _) ?_
                    refine sim_get (O19.tab (A := Int) (s := w17) 0 rfl) (fun m198 a197 hi199 hm200 => ?_)
                    refine sim_set (A := Int) O19 0 (wr (c176 + c196)) rfl hi199 hm200 rfl (by simp) (by first | rfl | simp) (by first | rfl | simp [splice]) (fun h201 O202 => ?_)
                    replace O202 : Hold B h201 [(x1, obS ((setS w17 (wr ((wr (w9 * (((b_.getD []).length : Nat) : Int))) + w20)) (wr (c176 + c196))) : Sl Int))] := O202
                    refine sim_let (v := iv (wr (w20 + 1))) (aBin_add _ _) ?_
                    exact sim_ret ⟨rfl, rfl, O202⟩
              · refine sim_let (v := bv (decide (c170 = 1000000000))) (aCmp_eq _ _) ?_
                refine sim_guardF (e := bv) (fun hb204 => ?_) (fun c206 => ?_)
                · refine sim_let (v := iv (wr (w9 - w20))) (aBin_sub _ _) ?_
                  refine sim_call1 he_spec_l09Size (snapD_int _ _) (fun c205 => ?_)
                  refine sim_let2 (hand_plain (by rfl) _ _) ?_
                  refine sim_let (v := bv (decide (band_ < c205))) (aBin_gtr _ _) ?_
                  exact sim_ret rfl
                · refine sim_let (v := bv (bif decide (c170 = 1000000000) then true else c206)) (pick_b' _ _ _) ?_
                  refine sim_cond (fun c207 => ?_) (fun c207 => ?_)
                  · refine sim_let (v := iv (wr (w9 * (((b_.getD []).length : Nat) : Int)))) (aBin_mul _ _) ?_
                    refine sim_let (v := iv (wr ((wr (w9 * (((b_.getD []).length : Nat) : Int))) + w20))) (aBin_add _ _) ?_
                    refine sim_get (O19.tab (A := Int) (s := w17) 0 rfl) (fun m209 a208 hi210 hm211 => ?_)
                    refine sim_set (A := Int) O19 0 1000000000 rfl hi210 hm211 rfl (by simp) (by first | rfl | simp) (by first | rfl | simp [splice]) (fun h212 O213 => ?_)
                    replace O213 : Hold B h212 [(x1, obS ((setS w17 (wr ((wr (w9 * (((b_.getD []).length : Nat) : Int))) + w20)) 1000000000) : Sl Int))] := O213
                    refine sim_let (v := iv (wr (w20 + 1))) (aBin_add _ _) ?_
                    exact sim_ret ⟨rfl, rfl, O213⟩
                  · refine sim_let (v := iv (wr (w9 * (((b_.getD []).length : Nat) : Int)))) (aBin_mul _ _) ?_
                    refine sim_let (v := iv (wr ((wr (w9 * (((b_.getD []).length : Nat) : Int))) + w20))) (aBin_add _ _) ?_
                    refine sim_get (Tab.enc h18 a_) (fun m216 a215 hi217 hm218 => ?_)
                    refine sim_let (v := AV.agg [iv a215.x, iv a215.y, iv a215.d]) ((Tab.enc h18 a_).ld hm218 true 3 0) ?_
                    refine sim_get (Tab.enc h18 b_) (fun m220 a219 hi221 hm222 => ?_)
                    refine sim_let (v := AV.agg [iv a219.x, iv a219.y, iv a219.d]) ((Tab.enc h18 b_).ld hm222 true 3 0) ?_
                    refine sim_callQ2 he_spec_l09Cost (snapD_nr _ a215 rfl) (snapD_nr _ a219 rfl) (fun c223 => ?_)
                    refine sim_let2 (hand_plain (by rfl) _ _) ?_
                    refine sim_let (v := iv (wr (c170 + c223))) (aBin_add _ _) ?_
                    refine sim_get (O19.tab (A := Int) (s := w17) 0 rfl) (fun m225 a224 hi226 hm227 => ?_)
                    refine sim_set (A := Int) O19 0 (wr (c170 + c223)) rfl hi226 hm227 rfl (by simp) (by first | rfl | simp) (by first | rfl | simp [splice]) (fun h228 O229 => ?_)
                    replace O229 : Hold B h228 [(x1, obS ((setS w17 (wr ((wr (w9 * (((b_.getD []).length : Nat) : Int))) + w20)) (wr (c170 + c223))) : Sl Int))] := O229
                    refine sim_let (v := iv (wr (w20 + 1))) (aBin_add _ _) ?_
                    exact sim_ret ⟨rfl, rfl, O229⟩
            · refine sim_let (v := bv (decide (0 < w20))) (aBin_gtr _ _) ?_
              refine sim_cond (fun c231 => ?_) (fun c231 => ?_)
              · refine sim_let (v := iv (wr (w9 * (((b_.getD []).length : Nat) : Int)))) (aBin_mul _ _) ?_
                refine sim_let (v := iv (wr ((wr (w9 * (((b_.getD []).length : Nat) : Int))) + w20))) (aBin_add _ _) ?_
                refine sim_let (v := iv (wr ((wr ((wr (w9 * (((b_.getD []).length : Nat) : Int))) + w20)) - 1))) (aBin_sub _ _) ?_
                refine sim_get (O19.tab (A := Int) (s := w17) 0 rfl) (fun m233 a232 hi234 hm235 => ?_)
                refine sim_let (v := iv a232) ((O19.tab (A := Int) (s := w17) 0 rfl).ld hm235 false 1 0) ?_
                refine sim_callV2 (t := (fun a b : Int => min a b)) he_spec_l00Min (snapD_int _ _) (snapD_int _ _) (fun c236 => ?_)
                refine sim_let (v := bv (decide (c236 = 1000000000))) (aCmp_eq _ _) ?_
                refine sim_guardF (e := bv) (fun hb237 => ?_) (fun c239 => ?_)
                · refine sim_let (v := iv (wr (w9 - w20))) (aBin_sub _ _) ?_
                  refine sim_call1 he_spec_l09Size (snapD_int _ _) (fun c238 => ?_)
                  refine sim_let2 (hand_plain (by rfl) _ _) ?_
                  refine sim_let (v := bv (decide (band_ < c238))) (aBin_gtr _ _) ?_
                  exact sim_ret rfl
                · refine sim_let (v := bv (bif decide (c236 = 1000000000) then true else c239)) (pick_b' _ _ _) ?_
                  refine sim_cond (fun c240 => ?_) (fun c240 => ?_)
                  · refine sim_let (v := iv (wr (w9 * (((b_.getD []).length : Nat) : Int)))) (aBin_mul _ _) ?_
                    refine sim_let (v := iv (wr ((wr (w9 * (((b_.getD []).length : Nat) : Int))) + w20))) (aBin_add _ _) ?_
                    refine sim_get (O19.tab (A := Int) (s := w17) 0 rfl) (fun m242 a241 hi243 hm244 => ?_)
                    refine sim_set (A := Int) O19 0 1000000000 rfl hi243 hm244 rfl (by simp) (by first | rfl | simp) (by first | rfl | simp [splice]) (fun h245 O246 => ?_)
                    replace O246 : Hold B h245 [(x1, obS ((setS w17 (wr ((wr (w9 * (((b_.getD []).length : Nat) : Int))) + w20)) 1000000000) : Sl Int))] := O246
                    refine sim_let (v := iv (wr (w20 + 1))) (aBin_add _ _) ?_
                    exact sim_ret ⟨rfl, rfl, O246⟩
                  · refine sim_let (v := iv (wr (w9 * (((b_.getD []).length : Nat) : Int)))) (aBin_mul _ _) ?_
                    refine sim_let (v := iv (wr ((wr (w9 * (((b_.getD []).length : Nat) : Int))) + w20))) (aBin_add _ _) ?_
                    refine sim_get (Tab.enc h18 a_) (fun m249 a248 hi250 hm251 => ?_)
                    refine sim_let (v := AV.agg [iv a248.x, iv a248.y, iv a248.d]) ((Tab.enc h18 a_).ld hm251 true 3 0) ?_
                    refine sim_get (Tab.enc h18 b_) (fun m253 a252 hi254 hm255 => ?_)
                    refine sim_let (v := AV.agg [iv a252.x, iv a252.y, iv a252.d]) ((Tab.enc h18 b_).ld hm255 true 3 0) ?_
                    refine sim_callQ2 he_spec_l09Cost (snapD_nr _ a248 rfl) (snapD_nr _ a252 rfl) (fun c256 => ?_)
                    refine sim_let2 (hand_plain (by rfl) _ _) ?_
                    refine sim_let (v := iv (wr (c236 + c256))) (aBin_add _ _) ?_
                    refine sim_get (O19.tab (A := Int) (s := w17) 0 rfl) (fun m258 a257 hi259 hm260 => ?_)
                    refine sim_set (A := Int) O19 0 (wr (c236 + c256)) rfl hi259 hm260 rfl (by simp) (by first | rfl | simp) (by first | rfl | simp [splice]) (fun h261 O262 => ?_)
                    replace O262 : Hold B h261 [(x1, obS ((setS w17 (wr ((wr (w9 * (((b_.getD []).length : Nat) : Int))) + w20)) (wr (c236 + c256))) : Sl Int))] := O262
                    refine sim_let (v := iv (wr (w20 + 1))) (aBin_add _ _) ?_
                    exact sim_ret ⟨rfl, rfl, O262⟩
              · refine sim_let (v := bv (decide (0 = 1000000000))) (aCmp_eq _ _) ?_
                refine sim_guardF (e := bv) (fun hb264 => ?_) (fun c266 => ?_)
                · refine sim_let (v := iv (wr (w9 - w20))) (aBin_sub _ _) ?_
                  refine sim_call1 he_spec_l09Size (snapD_int _ _) (fun c265 => ?_)
                  refine sim_let2 (hand_plain (by rfl) _ _) ?_
                  refine sim_let (v := bv (decide (band_ < c265))) (aBin_gtr _ _) ?_
                  exact sim_ret rfl
                · refine sim_let (v := bv (bif decide (0 = 1000000000) then true else c266)) (pick_b' _ _ _) ?_
                  refine sim_cond (fun c267 => ?_) (fun c267 => ?_)
                  · refine sim_let (v := iv (wr (w9 * (((b_.getD []).length : Nat) : Int)))) (aBin_mul _ _) ?_
                    refine sim_let (v := iv (wr ((wr (w9 * (((b_.getD []).length : Nat) : Int))) + w20))) (aBin_add _ _) ?_
                    refine sim_get (O19.tab (A := Int) (s := w17) 0 rfl) (fun m269 a268 hi270 hm271 => ?_)
                    refine sim_set (A := Int) O19 0 1000000000 rfl hi270 hm271 rfl (by simp) (by first | rfl | simp) (by first | rfl | simp [splice]) (fun h272 O273 => ?_)
                    replace O273 : Hold B h272 [(x1, obS ((setS w17 (wr ((wr (w9 * (((b_.getD []).length : Nat) : Int))) + w20)) 1000000000) : Sl Int))] := O273
                    refine sim_let (v := iv (wr (w20 + 1))) (aBin_add _ _) ?_
                    exact sim_ret ⟨rfl, rfl, O273⟩
                  · refine sim_let (v := iv (wr (w9 * (((b_.getD []).length : Nat) : Int)))) (aBin_mul _ _) ?_
                    refine sim_let (v := iv (wr ((wr (w9 * (((b_.getD []).length : Nat) : Int))) + w20))) (aBin_add _ _) ?_
                    refine sim_get (Tab.enc h18 a_) (fun m276 a275 hi277 hm278 => ?_)
                    refine sim_let (v := AV.agg [iv a275.x, iv a275.y, iv a275.d]) ((Tab.enc h18 a_).ld hm278 true 3 0) ?_
                    refine sim_get (Tab.enc h18 b_) (fun m280 a279 hi281 hm282 => ?_)
                    refine sim_let (v := AV.agg [iv a279.x, iv a279.y, iv a279.d]) ((Tab.enc h18 b_).ld hm282 true 3 0) ?_
                    refine sim_callQ2 he_spec_l09Cost (snapD_nr _ a275 rfl) (snapD_nr _ a279 rfl) (fun c283 => ?_)
                    refine sim_let2 (hand_plain (by rfl) _ _) ?_
                    refine sim_let (v := iv (wr (0 + c283))) (aBin_add _ _) ?_
                    refine sim_get (O19.tab (A := Int) (s := w17) 0 rfl) (fun m285 a284 hi286 hm287 => ?_)
                    refine sim_set (A := Int) O19 0 (wr (0 + c283)) rfl hi286 hm287 rfl (by simp) (by first | rfl | simp) (by first | rfl | simp [splice]) (fun h288 O289 => ?_)
                    replace O289 : Hold B h288 [(x1, obS ((setS w17 (wr ((wr (w9 * (((b_.getD []).length : Nat) : Int))) + w20)) (wr (0 + c283))) : Sl Int))] := O289
                    refine sim_let (v := iv (wr (w20 + 1))) (aBin_add _ _) ?_
                    exact sim_ret ⟨rfl, rfl, O289⟩
      · refine sim_let (v := bv (decide (0 < w9))) (aBin_gtr _ _) ?_
        refine sim_guardT (e := bv) (fun hb291 => ?_) (fun c292 => ?_)
        · refine sim_let (v := bv (decide (0 < w20))) (aBin_gtr _ _) ?_
          exact sim_ret rfl
        · refine sim_let (v := bv (bif decide (0 < w9) then c292 else false)) (pick_b _ _ _) ?_
          refine sim_cond (fun c293 => ?_) (fun c293 => ?_)
          · refine sim_let (v := iv (wr (w9 - 1))) (aBin_sub _ _) ?_
            refine sim_let (v := iv (wr ((wr (w9 - 1)) * (((b_.getD []).length : Nat) : Int)))) (aBin_mul _ _) ?_
            refine sim_let (v := iv (wr ((wr ((wr (w9 - 1)) * (((b_.getD []).length : Nat) : Int))) + w20))) (aBin_add _ _) ?_
            refine sim_let (v := iv (wr ((wr ((wr ((wr (w9 - 1)) * (((b_.getD []).length : Nat) : Int))) + w20)) - 1))) (aBin_sub _ _) ?_
            refine sim_get (O19.tab (A := Int) (s := w17) 0 rfl) (fun m295 a294 hi296 hm297 => ?_)
            refine sim_let (v := iv a294) ((O19.tab (A := Int) (s := w17) 0 rfl).ld hm297 false 1 0) ?_
            refine sim_callV2 (t := (fun a b : Int => min a b)) he_spec_l00Min (snapD_int _ _) (snapD_int _ _) (fun c298 => ?_)
            refine sim_let (v := bv (decide (0 < w9))) (aBin_gtr _ _) ?_
            refine sim_cond (fun c299 => ?_) (fun c299 => ?_)
            · refine sim_let (v := iv (wr (w9 - 1))) (aBin_sub _ _) ?_
              refine sim_let (v := iv (wr ((wr (w9 - 1)) * (((b_.getD []).length : Nat) : Int)))) (aBin_mul _ _) ?_
              refine sim_let (v := iv (wr ((wr ((wr (w9 - 1)) * (((b_.getD []).length : Nat) : Int))) + w20))) (aBin_add _ _) ?_
              refine sim_get (O19.tab (A := Int) (s := w17) 0 rfl) (fun m301 a300 hi302 hm303 => ?_)
              refine sim_let (v := iv a300) ((O19.tab (A := Int) (s := w17) 0 rfl).ld hm303 false 1 0) ?_
              refine sim_callV2 (t := (fun a b : Int => min a b)) he_spec_l00Min (snapD_int _ _) (snapD_int _ _) (fun c304 => ?_)
              refine sim_let (v := bv (decide (0 < w20))) (aBin_gtr _ _) ?_
              refine sim_cond (fun c305 => ?_) (fun c305 => ?_)
              · refine sim_let (v := iv (wr (w9 * (((b_.getD []).length : Nat) : Int)))) (aBin_mul _ _) ?_
                refine sim_let (v := iv (wr ((wr (w9 * (((b_.getD []).length : Nat) : Int))) + w20))) (aBin_add _ _) ?_
                refine sim_let (v := iv (wr ((wr ((wr (w9 * (((b_.getD []).length : Nat) : Int))) + w20)) - 1))) (aBin_sub _ _) ?_
                refine sim_get (O19.tab (A := Int) (s := w17) 0 rfl) (fun m307 a306 hi308 hm309 => ?_)
                refine sim_let (v := iv a306) ((O19.tab (A := Int) (s := w17) 0 rfl).ld hm309 false 1 0) ?_
                refine sim_callV2 (t := (fun a b : Int => min a b)) he_spec_l00Min (snapD_int _ _) (snapD_int _ _) (fun c310 => ?_)
                refine sim_let (v := bv (decide (c310 = 1000000000))) (aCmp_eq _ _) ?_
                refine sim_guardF (e := bv) (fun hb311 => ?_) (fun c313 => ?_)
                · refine sim_let (v := iv (wr (w9 - w20))) (aBin_sub _ _) ?_
                  refine sim_call1 he_spec_l09Size (snapD_int _ _) (fun c312 => ?_)
                  refine sim_let2 (hand_plain (by rfl) _ _) ?_
                  refine sim_let (v := bv (decide (band_ < c312))) (aBin_gtr _ _) ?_
                  exact sim_ret rfl
                · refine sim_let (v := bv (bif decide (c310 = 1000000000) then true else c313)) (pick_b' _ _ _) ?_
                  refine sim_cond (fun c314 => ?_) (fun c314 => ?_)
                  · refine sim_let (v := iv (wr (w9 * (((b_.getD []).length : Nat) : Int)))) (aBin_mul _ _) ?_
                    refine sim_let (v := iv (wr ((wr (w9 * (((b_.getD []).length : Nat) : Int))) + w20))) (aBin_add _ _) ?_
                    refine sim_get (O19.tab (A := Int) (s := w17) 0 rfl) (fun m316 a315 hi317 hm318 => ?_)
                    refine sim_set (A := Int) O19 0 1000000000 rfl hi317 hm318 rfl (by simp) (by first | rfl | simp) (by first | rfl | simp [splice]) (fun h319 O320 => ?_)
                    replace O320 : Hold B h319 [(x1, obS ((setS w17 (wr ((wr (w9 * (((b_.getD []).length : Nat) : Int))) + w20)) 1000000000) : Sl Int))] := O320
                    refine sim_let (v := iv (wr (w20 + 1))) (aBin_add _ _) ?_
                    exact sim_ret ⟨rfl, rfl, O320⟩
                  · refine sim_let (v := iv (wr (w9 * (((b_.getD []).length : Nat) : Int)))) (aBin_mul _ _) ?_
                    refine sim_let (v := iv (wr ((wr (w9 * (((b_.getD []).length : Nat) : Int))) + w20))) (aBin_add _ _) ?_
                    refine sim_get (Tab.enc h18 a_) (fun m323 a322 hi324 hm325 => ?_)
                    refine sim_let (v := AV.agg [iv a322.x, iv a322.y, iv a322.d]) ((Tab.enc h18 a_).ld hm325 true 3 0) ?_
                    refine sim_get (Tab.enc h18 b_) (fun m327 a326 hi328 hm329 => ?_)
                    refine sim_let (v := AV.agg [iv a326.x, iv a326.y, iv a326.d]) ((Tab.enc h18 b_).ld hm329 true 3 0) ?_
                    refine sim_callQ2 he_spec_l09Cost (snapD_nr _ a322 rfl) (snapD_nr _ a326 rfl) (fun c330 => ?_)
                    refine sim_let2 (hand_plain (by rfl) _ _) ?_
                    refine sim_let (v := iv (wr (c310 + c330))) (aBin_add _ _) ?_
                    refine sim_get (O19.tab (A := Int) (s := w17) 0 rfl) (fun m332 a331 hi333 hm334 => ?_)
                    refine sim_set (A := Int) O19 0 (wr (c310 + c330)) rfl hi333 hm334 rfl (by simp) (by first | rfl | simp) (by first | rfl | simp [splice]) (fun h335 O336 => ?_)
                    replace O336 : Hold B h335 [(x1, obS ((setS w17 (wr ((wr (w9 * (((b_.getD []).length : Nat) : Int))) + w20)) (wr (c310 + c330))) : Sl Int))] := O336
                    refine sim_let (v := iv (wr (w20 + 1))) (aBin_add _ _) ?_
                    exact sim_ret ⟨rfl, rfl, O336⟩
              · refine sim_let (v := bv (decide (c304 = 1000000000))) (aCmp_eq _ _) ?_
                refine sim_guardF (e := bv) (fun hb338 => ?_) (fun c340 => ?_)
                · refine sim_let (v := iv (wr (w9 - w20))) (aBin_sub _ _) ?_
                  refine sim_call1 he_spec_l09Size (snapD_int _ _) (fun c339 => ?_)
                  refine sim_let2 (hand_plain (by rfl) _ _) ?_
                  refine sim_let (v := bv (decide (band_ < c339))) (aBin_gtr _ _) ?_
                  exact sim_ret rfl
                · refine sim_let (v := bv (bif decide (c304 = 1000000000) then true else c340)) (pick_b' _ _ _) ?_
                  refine sim_cond (fun c341 => ?_) (fun c341 => ?_)
                  · refine sim_let (v := iv (wr (w9 * (((b_.getD []).length : Nat) : Int)))) (aBin_mul _ _) ?_
                    refine sim_let (v := iv (wr ((wr (w9 * (((b_.getD []).length : Nat) : Int))) + w20))) (aBin_add _ _) ?_
                    refine sim_get (O19.tab (A := Int) (s := w17) 0 rfl) (fun m343 a342 hi344 hm345 => ?_)
                    refine sim_set (A := Int) O19 0 1000000000 rfl hi344 hm345 rfl (by simp) (by first | rfl | simp) (by first | rfl | simp [splice]) (fun h346 O347 => ?_)
                    replace O347 : Hold B h346 [(x1, obS ((setS w17 (wr ((wr (w9 * (((b_.getD []).length : Nat) : Int))) + w20)) 1000000000) : Sl Int))] := O347
                    refine sim_let (v := iv (wr (w20 + 1))) (aBin_add _ _) ?_
                    exact sim_ret ⟨rfl, rfl, O347⟩
                  · refine sim_let (v := iv (wr (w9 * (((b_.getD []).length : Nat) : Int)))) (aBin_mul _ _) ?_
                    refine sim_let (v := iv (wr ((wr (w9 * (((b_.getD []).length : Nat) : Int))) + w20))) (aBin_add _ _) ?_
                    refine sim_get (Tab.enc h18 a_) (fun m350 a349 hi351 hm352 => ?_)
                    refine sim_let (v := AV.agg [iv a349.x, iv a349.y, iv a349.d]) ((Tab.enc h18 a_).ld hm352 true 3 0) ?_
                    refine sim_get (Tab.enc h18 b_) (fun m354 a353 hi355 hm356 => ?_)
                    refine sim_let (v := AV.agg [iv a353.x, iv a353.y, iv a353.d]) ((Tab.enc h18 b_).ld hm356 true 3 0) ?_
                    refine sim_callQ2 he_spec_l09Cost (snapD_nr _ a349 rfl) (snapD_nr _ a353 rfl) (fun c357 => ?_)
                    refine sim_let2 (hand_plain (by rfl) _ _) ?_
                    refine sim_let (v := iv (wr (c304 + c357))) (aBin_add _ _) ?_
                    refine sim_get (O19.tab (A := Int) (s := w17) 0 rfl) (fun m359 a358 hi360 hm361 => ?_)
                    refine sim_set (A := Int) O19 0 (wr (c304 + c357)) rfl hi360 hm361 rfl (by simp) (by first | rfl | simp) (by first | rfl | simp [splice]) (fun h362 O363 => ?_)
                    replace O363 : Hold B h362 [(x1, obS ((setS w17 (wr ((wr (w9 * (((b_.getD []).length : Nat) : Int))) + w20)) (wr (c304 + c357))) : Sl Int))] := O363
                    refine sim_let (v := iv (wr (w20 + 1))) (aBin_add _ _) ?_
                    exact sim_ret ⟨rfl, rfl, O363⟩
            · refine sim_let (v := bv (decide (0 < w20))) (aBin_gtr _ _) ?_
              refine sim_cond (fun c365 => ?_) (fun c365 => ?_)
              · refine sim_let (v := iv (wr (w9 * (((b_.getD []).length : Nat) : Int)))) (aBin_mul _ _) ?_
                refine sim_let (v := iv (wr ((wr (w9 * (((b_.getD []).length : Nat) : Int))) + w20))) (aBin_add _ _) ?_
                refine sim_let (v := iv (wr ((wr ((wr (w9 * (((b_.getD []).length : Nat) : Int))) + w20)) - 1))) (aBin_sub _ _) ?_
                refine sim_get (O19.tab (A := Int) (s := w17) 0 rfl) (fun m367 a366 hi368 hm369 => ?_)
                refine sim_let (v := iv a366) ((O19.tab (A := Int) (s := w17) 0 rfl).ld hm369 false 1 0) ?_
                refine sim_callV2 (t := (fun a b : Int => min a b)) he_spec_l00Min (snapD_int _ _) (snapD_int _ _) (fun c370 => ?_)
                refine sim_let (v := bv (decide (c370 = 1000000000))) (aCmp_eq _ _) ?_
                refine sim_guardF (e := bv) (fun hb371 => ?_) (fun c373 => ?_)
                · refine sim_let (v := iv (wr (w9 - w20))) (aBin_sub _ _) ?_
                  refine sim_call1 he_spec_l09Size (snapD_int _ _) (fun c372 => ?_)
                  refine sim_let2 (hand_plain (by rfl) _ _) ?_
                  refine sim_let (v := bv (decide (band_ < c372))) (aBin_gtr _ _) ?_
                  exact sim_ret rfl
                · refine sim_let (v := bv (bif decide (c370 = 1000000000) then true else c373)) (pick_b' _ _ _) ?_
                  refine sim_cond (fun c374 => ?_) (fun c374 => ?_)
                  · refine sim_let (v := iv (wr (w9 * (((b_.getD []).length : Nat) : Int)))) (aBin_mul _ _) ?_
                    refine sim_let (v := iv (wr ((wr (w9 * (((b_.getD []).length : Nat) : Int))) + w20))) (aBin_add _ _) ?_
                    refine sim_get (O19.tab (A := Int) (s := w17) 0 rfl) (fun m376 a375 hi377 hm378 => ?_)
                    refine sim_set (A := Int) O19 0 1000000000 rfl hi377 hm378 rfl (by simp) (by first | rfl | simp) (by first | rfl | simp [splice]) (fun h379 O380 => ?_)
                    replace O380 : Hold B h379 [(x1, obS ((setS w17 (wr ((wr (w9 * (((b_.getD []).length : Nat) : Int))) + w20)) 1000000000) : Sl Int))] := O380
                    refine sim_let (v := iv (wr (w20 + 1))) (aBin_add _ _) ?_
                    exact sim_ret ⟨rfl, rfl, O380⟩
                  · refine sim_let (v := iv (wr (w9 * (((b_.getD []).length : Nat) : Int)))) (aBin_mul _ _) ?_
                    refine sim_let (v := iv (wr ((wr (w9 * (((b_.getD []).length : Nat) : Int))) + w20))) (aBin_add _ _) ?_
                    refine sim_get (Tab.enc h18 a_) (fun m383 a382 hi384 hm385 => ?_)
                    refine sim_let (v := AV.agg [iv a382.x, iv a382.y, iv a382.d]) ((Tab.enc h18 a_).ld hm385 true 3 0) ?_
                    refine sim_get (Tab.enc h18 b_) (fun m387 a386 hi388 hm389 => ?_)
                    refine sim_let (v := AV.agg [iv a386.x, iv a386.y, iv a386.d]) ((Tab.enc h18 b_).ld hm389 true 3 0) ?_
                    refine sim_callQ2 he_spec_l09Cost (snapD_nr _ a382 rfl) (snapD_nr _ a386 rfl) (fun c390 => ?_)
                    refine sim_let2 (hand_plain (by rfl) _ _) ?_
                    refine sim_let (v := iv (wr (c370 + c390))) (aBin_add _ _) ?_
                    refine sim_get (O19.tab (A := Int) (s := w17) 0 rfl) (fun m392 a391 hi393 hm394 => ?_)
                    refine sim_set (A := Int) O19 0 (wr (c370 + c390)) rfl hi393 hm394 rfl (by simp) (by first | rfl | simp) (by first | rfl | simp [splice]) (fun h395 O396 => ?_)
                    replace O396 : Hold B h395 [(x1, obS ((setS w17 (wr ((wr (w9 * (((b_.getD []).length : Nat) : Int))) + w20)) (wr (c370 + c390))) : Sl Int))] := O396
                    refine sim_let (v := iv (wr (w20 + 1))) (aBin_add _ _) ?_
                    exact sim_ret ⟨rfl, rfl, O396⟩
              · refine sim_let (v := bv (decide (c298 = 1000000000))) (aCmp_eq _ _) ?_
                refine sim_guardF (e := bv) (fun hb398 => ?_) (fun c400 => ?_)
                · refine sim_let (v := iv (wr (w9 - w20))) (aBin_sub _ _) ?_
                  refine sim_call1 he_spec_l09Size (snapD_int _ _) (fun c399 => ?_)
                  refine sim_let2 (hand_plain (by rfl) _ _) ?_
                  refine sim_let (v := bv (decide (band_ < c399))) (aBin_gtr _ _) ?_
                  exact sim_ret rfl
                · refine sim_let (v := bv (bif decide (c298 = 1000000000) then true else c400)) (pick_b' _ _ _) ?_
                  refine sim_cond (fun c401 => ?_) (fun c401 => ?_)
                  · refine sim_let (v := iv (wr (w9 * (((b_.getD []).length : Nat) : Int)))) (aBin_mul _ _) ?_
                    refine sim_let (v := iv (wr ((wr (w9 * (((b_.getD []).length : Nat) : Int))) + w20))) (aBin_add _ _) ?_
                    refine sim_get (O19.tab (A := Int) (s := w17) 0 rfl) (fun m403 a402 hi404 hm405 => ?_)
                    refine sim_set (A := Int) O19 0 1000000000 rfl hi404 hm405 rfl (by simp) (by first | rfl | simp) (by first | rfl | simp [splice]) (fun h406 O407 => ?_)
                    replace O407 : Hold B h406 [(x1, obS ((setS w17 (wr ((wr (w9 * (((b_.getD []).length : Nat) : Int))) + w20)) 1000000000) : Sl Int))] := O407
                    refine sim_let (v := iv (wr (w20 + 1))) (aBin_add _ _) ?_
                    exact sim_ret ⟨rfl, rfl, O407⟩
                  · refine sim_let (v := iv (wr (w9 * (((b_.getD []).length : Nat) : Int)))) (aBin_mul _ _) ?_
                    refine sim_let (v := iv (wr ((wr (w9 * (((b_.getD []).length : Nat) : Int))) + w20))) (aBin_add _ _) ?_
                    refine sim_get (Tab.enc h18 a_) (fun m410 a409 hi411 hm412 => ?_)
                    refine sim_let (v := AV.agg [iv a409.x, iv a409.y, iv a409.d]) ((Tab.enc h18 a_).ld hm412 true 3 0) ?_
                    refine sim_get (Tab.enc h18 b_) (fun m414 a413 hi415 hm416 => ?_)
                    refine sim_let (v := AV.agg [iv a413.x, iv a413.y, iv a413.d]) ((Tab.enc h18 b_).ld hm416 true 3 0) ?_
                    refine sim_callQ2 he_spec_l09Cost (snapD_nr _ a409 rfl) (snapD_nr _ a413 rfl) (fun c417 => ?_)
                    refine sim_let2 (hand_plain (by rfl) _ _) ?_
                    refine sim_let (v := iv (wr (c298 + c417))) (aBin_add _ _) ?_
                    refine sim_get (O19.tab (A := Int) (s := w17) 0 rfl) (fun m419 a418 hi420 hm421 => ?_)
                    refine sim_set (A := Int) O19 0 (wr (c298 + c417)) rfl hi420 hm421 rfl (by simp) (by first | rfl | simp) (by first | rfl | simp [splice]) (fun h422 O423 => ?_)
                    replace O423 : Hold B h422 [(x1, obS ((setS w17 (wr ((wr (w9 * (((b_.getD []).length : Nat) : Int))) + w20)) (wr (c298 + c417))) : Sl Int))] := O423
                    refine sim_let (v := iv (wr (w20 + 1))) (aBin_add _ _) ?_
                    exact sim_ret ⟨rfl, rfl, O423⟩
          · refine sim_let (v := bv (decide (0 < w9))) (aBin_gtr _ _) ?_
            refine sim_cond (fun c425 => ?_) (fun c425 => ?_)
            · refine sim_let (v := iv (wr (w9 - 1))) (aBin_sub _ _) ?_
              refine sim_let (v := iv (wr ((wr (w9 - 1)) * (((b_.getD []).length : Nat) : Int)))) (aBin_mul _ _) ?_
              refine sim_let (v := iv (wr ((wr ((wr (w9 - 1)) * (((b_.getD []).length : Nat) : Int))) + w20))) (aBin_add _ _) ?_
              refine sim_get (O19.tab (A := Int) (s := w17) 0 rfl) (fun m427 a426 hi428 hm429 => ?_)
              refine sim_let (v := iv a426) ((O19.tab (A := Int) (s := w17) 0 rfl).ld hm429 false 1 0) ?_
              refine sim_callV2 (t := (fun a b : Int => min a b)) he_spec_l00Min (snapD_int _ _) (snapD_int _ _) (fun c430 => ?_)
              refine sim_let (v := bv (decide (0 < w20))) (aBin_gtr _ _) ?_
              refine sim_cond (fun c431 => ?_) (fun c431 => ?_)
              · refine sim_let (v := iv (wr (w9 * (((b_.getD []).length : Nat) : Int)))) (aBin_mul _ _) ?_
                refine sim_let (v := iv (wr ((wr (w9 * (((b_.getD []).length : Nat) : Int))) + w20))) (aBin_add _ _) ?_
                refine sim_let (v := iv (wr ((wr ((wr (w9 * (((b_.getD []).length : Nat) : Int))) + w20)) - 1))) (aBin_sub _ _) ?_
                refine sim_get (O19.tab (A := Int) (s := w17) 0 rfl) (fun m433 a432 hi434 hm435 => ?_)
                refine sim_let (v := iv a432) ((O19.tab (A := Int) (s := w17) 0 rfl).ld hm435 false 1 0) ?_
                refine sim_callV2 (t := (fun a b : Int => min a b)) he_spec_l00Min (snapD_int _ _) (snapD_int _ _) (fun c436 => ?_)
                refine sim_let (v := bv (decide (c436 = 1000000000))) (aCmp_eq _ _) ?_
                refine sim_guardF (e := bv) (fun hb437 => ?_) (fun c439 => ?_)
                · refine sim_let (v := iv (wr (w9 - w20))) (aBin_sub _ _) ?_
                  refine sim_call1 he_spec_l09Size (snapD_int _ _) (fun c438 => ?_)
                  refine sim_let2 (hand_plain (by rfl) _ _) ?_
                  refine sim_let (v := bv (decide (band_ < c438))) (aBin_gtr _ _) ?_
                  exact sim_ret rfl
                · refine sim_let (v := bv (bif decide (c436 = 1000000000) then true else c439)) (pick_b' _ _ _) ?_
                  refine sim_cond (fun c440 => ?_) (fun c440 => ?_)
                  · refine sim_let (v := iv (wr (w9 * (((b_.getD []).length : Nat) : Int)))) (aBin_mul _ _) ?_
                    refine sim_let (v := iv (wr ((wr (w9 * (((b_.getD []).length : Nat) : Int))) + w20))) (aBin_add _ _) ?_
                    refine sim_get (O19.tab (A := Int) (s := w17) 0 rfl) (fun m442 a441 hi443 hm444 => ?_)
                    refine sim_set (A := Int) O19 0 1000000000 rfl hi443 hm444 rfl (by simp) (by first | rfl | simp) (by first | rfl | simp [splice]) (fun h445 O446 => ?_)
                    replace O446 : Hold B h445 [(x1, obS ((setS w17 (wr ((wr (w9 * (((b_.getD []).length : Nat) : Int))) + w20)) 1000000000) : Sl Int))] := O446
                    refine sim_let (v := iv (wr (w20 + 1))) (aBin_add _ _) ?_
                    exact sim_ret ⟨rfl, rfl, O446⟩
                  · refine sim_let (v := iv (wr (w9 * (((b_.getD []).length : Nat) : Int)))) (aBin_mul _ _) ?_
                    refine sim_let (v := iv (wr ((wr (w9 * (((b_.getD []).length : Nat) : Int))) + w20))) (aBin_add _ _) ?_
                    refine sim_get (Tab.enc h18 a_) (fun m449 a448 hi450 hm451 => ?_)
                    refine sim_let (v := AV.agg [iv a448.x, iv a448.y, iv a448.d]) ((Tab.enc h18 a_).ld hm451 true 3 0) ?_
                    refine sim_get (Tab.enc h18 b_) (fun m453 a452 hi454 hm455 => ?_)
                    refine sim_let (v := AV.agg [iv a452.x, iv a452.y, iv a452.d]) ((Tab.enc h18 b_).ld hm455 true 3 0) ?_
                    refine sim_callQ2 he_spec_l09Cost (snapD_nr _ a448 rfl) (snapD_nr _ a452 rfl) (fun c456 => ?_)
                    refine sim_let2 (hand_plain (by rfl) _ _) ?_
                    refine sim_let (v := iv (wr (c436 + c456))) (aBin_add _ _) ?_
                    refine sim_get (O19.tab (A := Int) (s := w17) 0 rfl) (fun m458 a457 hi459 hm460 => ?_)
                    refine sim_set (A := Int) O19 0 (wr (c436 + c456)) rfl hi459 hm460 rfl (by simp) (by first | rfl | simp) (by first | rfl | simp [splice]) (fun h461 O462 => ?_)
                    replace O462 : Hold B h461 [(x1, obS ((setS w17 (wr ((wr (w9 * (((b_.getD []).length : Nat) : Int))) + w20)) (wr (c436 + c456))) : Sl Int))] := O462
                    refine sim_let (v := iv (wr (w20 + 1))) (aBin_add _ _) ?_
                    exact sim_ret ⟨rfl, rfl, O462⟩
              · refine sim_let (v := bv (decide (c430 = 1000000000))) (aCmp_eq _ _) ?_
                refine sim_guardF (e := bv) (fun hb464 => ?_) (fun c466 => ?_)
                · refine sim_let (v := iv (wr (w9 - w20))) (aBin_sub _ _) ?_
                  refine sim_call1 he_spec_l09Size (snapD_int _ _) (fun c465 => ?_)
                  refine sim_let2 (hand_plain (by rfl) _ _) ?_
                  refine sim_let (v := bv (decide (band_ < c465))) (aBin_gtr _ _) ?_
                  exact sim_ret rfl
                · refine sim_let (v := bv (bif decide (c430 = 1000000000) then true else c466)) (pick_b' _ _ _) ?_
                  refine sim_cond (fun c467 => ?_) (fun c467 => ?_)
                  · refine sim_let (v := iv (wr (w9 * (((b_.getD []).length : Nat) : Int)))) (aBin_mul _ _) ?_
                    refine sim_let (v := iv (wr ((wr (w9 * (((b_.getD []).length : Nat) : Int))) + w20))) (aBin_add _ _) ?_
                    refine sim_get (O19.tab (A := Int) (s := w17) 0 rfl) (fun m469 a468 hi470 hm471 => ?_)
                    refine sim_set (A := Int) O19 0 1000000000 rfl hi470 hm471 rfl (by simp) (by first | rfl | simp) (by first | rfl | simp [splice]) (fun h472 O473 => ?_)
                    replace O473 : Hold B h472 [(x1, obS ((setS w17 (wr ((wr (w9 * (((b_.getD []).length : Nat) : Int))) + w20)) 1000000000) : Sl Int))] := O473
                    refine sim_let (v := iv (wr (w20 + 1))) (aBin_add _ _) ?_
                    exact sim_ret ⟨rfl, rfl, O473⟩
                  · refine sim_let (v := iv (wr (w9 * (((b_.getD []).length : Nat) : Int)))) (aBin_mul _ _) ?_
                    refine sim_let (v := iv (wr ((wr (w9 * (((b_.getD []).length : Nat) : Int))) + w20))) (aBin_add _ _) ?_
                    refine sim_get (Tab.enc h18 a_) (fun m476 a475 hi477 hm478 => ?_)
                    refine sim_let (v := AV.agg [iv a475.x, iv a475.y, iv a475.d]) ((Tab.enc h18 a_).ld hm478 true 3 0) ?_
                    refine sim_get (Tab.enc h18 b_) (fun m480 a479 hi481 hm482 => ?_)
                    refine sim_let (v := AV.agg [iv a479.x, iv a479.y, iv a479.d]) ((Tab.enc h18 b_).ld hm482 true 3 0) ?_
                    refine sim_callQ2 he_spec_l09Cost (snapD_nr _ a475 rfl) (snapD_nr _ a479 rfl) (fun c483 => ?_)
                    refine sim_let2 (hand_plain (by rfl) _ _) ?_
                    refine sim_let (v := iv (wr (c430 + c483))) (aBin_add _ _) ?_
                    refine sim_get (O19.tab (A := Int) (s := w17) 0 rfl) (fun m485 a484 hi486 hm487 => ?_)
                    refine sim_set (A := Int) O19 0 (wr (c430 + c483)) rfl hi486 hm487 rfl (by simp) (by first | rfl | simp) (by first | rfl | simp [splice]) (fun h488 O489 => ?_)
                    replace O489 : Hold B h488 [(x1, obS ((setS w17 (wr ((wr (w9 * (((b_.getD []).length : Nat) : Int))) + w20)) (wr (c430 + c483))) : Sl Int))] := O489
                    refine sim_let (v := iv (wr (w20 + 1))) (aBin_add _ _) ?_
                    exact sim_ret ⟨rfl, rfl, O489⟩
            · refine sim_let (v := bv (decide (0 < w20))) (aBin_gtr _ _) ?_
              refine sim_cond (fun c491 => ?_) (fun c491 => ?_)
              · refine sim_let (v := iv (wr (w9 * (((b_.getD []).length : Nat) : Int)))) (aBin_mul _ _) ?_
                refine sim_let (v := iv (wr ((wr (w9 * (((b_.getD []).length : Nat) : Int))) + w20))) (aBin_add _ _) ?_
                refine sim_let (v := iv (wr ((wr ((wr (w9 * (((b_.getD []).length : Nat) : Int))) + w20)) - 1))) (aBin_sub _ _) ?_
                refine sim_get (O19.tab (A := Int) (s := w17) 0 rfl) (fun m493 a492 hi494 hm495 => ?_)
                refine sim_let (v := iv a492) ((O19.tab (A := Int) (s := w17) 0 rfl).ld hm495 false 1 0) ?_
                refine sim_callV2 (t := (fun a b : Int => min a b)) he_spec_l00Min (snapD_int _ _) (snapD_int _ _) (fun c496 => ?_)
                refine sim_let (v := bv (decide (c496 = 1000000000))) (aCmp_eq _ _) ?_
                refine sim_guardF (e := bv) (fun hb497 => ?_) (fun c499 => ?_)
                · refine sim_let (v := iv (wr (w9 - w20))) (aBin_sub _ _) ?_
                  refine sim_call1 he_spec_l09Size (snapD_int _ _) (fun c498 => ?_)
                  refine sim_let2 (hand_plain (by rfl) _ _) ?_
                  refine sim_let (v := bv (decide (band_ < c498))) (aBin_gtr _ _) ?_
                  exact sim_ret rfl
                · refine sim_let (v := bv (bif decide (c496 = 1000000000) then true else c499)) (pick_b' _ _ _) ?_
                  refine sim_cond (fun c500 => ?_) (fun c500 => ?_)
                  · refine sim_let (v := iv (wr (w9 * (((b_.getD []).length : Nat) : Int)))) (aBin_mul _ _) ?_
                    refine sim_let (v := iv (wr ((wr (w9 * (((b_.getD []).length : Nat) : Int))) + w20))) (aBin_add _ _) ?_
                    refine sim_get (O19.tab (A := Int) (s := w17) 0 rfl) (fun m502 a501 hi503 hm504 => ?_)
                    refine sim_set (A := Int) O19 0 1000000000 rfl hi503 hm504 rfl (by simp) (by first | rfl | simp) (by first | rfl | simp [splice]) (fun h505 O506 => ?_)
                    replace O506 : Hold B h505 [(x1, obS ((setS w17 (wr ((wr (w9 * (((b_.getD []).length : Nat) : Int))) + w20)) 1000000000) : Sl Int))] := O506
                    refine sim_let (v := iv (wr (w20 + 1))) (aBin_add _ _) ?_
                    exact sim_ret ⟨rfl, rfl, O506⟩
                  · refine sim_let (v := iv (wr (w9 * (((b_.getD []).length : Nat) : Int)))) (aBin_mul _ _) ?_
                    refine sim_let (v := iv (wr ((wr (w9 * (((b_.getD []).length : Nat) : Int))) + w20))) (aBin_add _ _) ?_
                    refine sim_get (Tab.enc h18 a_) (fun m509 a508 hi510 hm511 => ?_)
                    refine sim_let (v := AV.agg [iv a508.x, iv a508.y, iv a508.d]) ((Tab.enc h18 a_).ld hm511 true 3 0) ?_
                    refine sim_get (Tab.enc h18 b_) (fun m513 a512 hi514 hm515 => ?_)
                    refine sim_let (v := AV.agg [iv a512.x, iv a512.y, iv a512.d]) ((Tab.enc h18 b_).ld hm515 true 3 0) ?_
                    refine sim_callQ2 he_spec_l09Cost (snapD_nr _ a508 rfl) (snapD_nr _ a512 rfl) (fun c516 => ?_)
                    refine sim_let2 (hand_plain (by rfl) _ _) ?_
                    refine sim_let (v := iv (wr (c496 + c516))) (aBin_add _ _) ?_
                    refine sim_get (O19.tab (A := Int) (s := w17) 0 rfl) (fun m518 a517 hi519 hm520 => ?_)
                    refine sim_set (A := Int) O19 0 (wr (c496 + c516)) rfl hi519 hm520 rfl (by simp) (by first | rfl | simp) (by first | rfl | simp [splice]) (fun h521 O522 => ?_)
                    replace O522 : Hold B h521 [(x1, obS ((setS w17 (wr ((wr (w9 * (((b_.getD []).length : Nat) : Int))) + w20)) (wr (c496 + c516))) : Sl Int))] := O522
                    refine sim_let (v := iv (wr (w20 + 1))) (aBin_add _ _) ?_
                    exact sim_ret ⟨rfl, rfl, O522⟩
              · refine sim_let (v := bv (decide (1000000000 = 1000000000))) (aCmp_eq _ _) ?_
                refine sim_guardF (e := bv) (fun hb524 => ?_) (fun c526 => ?_)
                · refine sim_let (v := iv (wr (w9 - w20))) (aBin_sub _ _) ?_
                  refine sim_call1 he_spec_l09Size (snapD_int _ _) (fun c525 => ?_)
                  refine sim_let2 (hand_plain (by rfl) _ _) ?_
                  refine sim_let (v := bv (decide (band_ < c525))) (aBin_gtr _ _) ?_
                  exact sim_ret rfl
                · refine sim_let (v := bv (bif decide (1000000000 = 1000000000) then true else c526)) (pick_b' _ _ _) ?_
                  refine sim_cond (fun c527 => ?_) (fun c527 => ?_)
                  · refine sim_let (v := iv (wr (w9 * (((b_.getD []).length : Nat) : Int)))) (aBin_mul _ _) ?_
                    refine sim_let (v := iv (wr ((wr (w9 * (((b_.getD []).length : Nat) : Int))) + w20))) (aBin_add _ _) ?_
                    refine sim_get (O19.tab (A := Int) (s := w17) 0 rfl) (fun m529 a528 hi530 hm531 => ?_)
                    refine sim_set (A := Int) O19 0 1000000000 rfl hi530 hm531 rfl (by simp) (by first | rfl | simp) (by first | rfl | simp [splice]) (fun h532 O533 => ?_)
                    replace O533 : Hold B h532 [(x1, obS ((setS w17 (wr ((wr (w9 * (((b_.getD []).length : Nat) : Int))) + w20)) 1000000000) : Sl Int))] := O533
                    refine sim_let (v := iv (wr (w20 + 1))) (aBin_add _ _) ?_
                    exact sim_ret ⟨rfl, rfl, O533⟩
                  · refine sim_let (v := iv (wr (w9 * (((b_.getD []).length : Nat) : Int)))) (aBin_mul _ _) ?_
                    refine sim_let (v := iv (wr ((wr (w9 * (((b_.getD []).length : Nat) : Int))) + w20))) (aBin_add _ _) ?_
                    refine sim_get (Tab.enc h18 a_) (fun m536 a535 hi537 hm538 => ?_)
                    refine sim_let (v := AV.agg [iv a535.x, iv a535.y, iv a535.d]) ((Tab.enc h18 a_).ld hm538 true 3 0) ?_
                    refine sim_get (Tab.enc h18 b_) (fun m540 a539 hi541 hm542 => ?_)
                    refine sim_let (v := AV.agg [iv a539.x, iv a539.y, iv a539.d]) ((Tab.enc h18 b_).ld hm542 true 3 0) ?_
                    refine sim_callQ2 he_spec_l09Cost (snapD_nr _ a535 rfl) (snapD_nr _ a539 rfl) (fun c543 => ?_)
                    refine sim_let2 (hand_plain (by rfl) _ _) ?_
                    refine sim_let (v := iv (wr (1000000000 + c543))) (aBin_add _ _) ?_
                    refine sim_get (O19.tab (A := Int) (s := w17) 0 rfl) (fun m545 a544 hi546 hm547 => ?_)
                    refine sim_set (A := Int) O19 0 (wr (1000000000 + c543)) rfl hi546 hm547 rfl (by simp) (by first | rfl | simp) (by first | rfl | simp [splice]) (fun h548 O549 => ?_)
                    replace O549 : Hold B h548 [(x1, obS ((setS w17 (wr ((wr (w9 * (((b_.getD []).length : Nat) : Int))) + w20)) (wr (1000000000 + c543))) : Sl Int))] := O549
                    refine sim_let (v := iv (wr (w20 + 1))) (aBin_add _ _) ?_
                    exact sim_ret ⟨rfl, rfl, O549⟩
  · exact sim_ret ⟨nofun, _, _, _, rfl, O19⟩
theorem tl0_spec_l09Table (env : Nat → Contract) {B : Base} (he_spec_l00Min : env n_spec_l00Min = .pure (T2 (fun a b : Int => min a b))) (he_spec_l09Cost : env n_spec_l09Cost = .pure (C2 (fun c : Int => enc c) t_spec_l09Cost)) (he_spec_l09Size : env n_spec_l09Size = .pure (C1 (fun c : Int => enc c) t_spec_l09Size)) (a_ : Sl Feat) (b_ : Sl Feat) (band_ : Int) (x1 : AV)  {st : (Sl Int) × Int} {tm : TM} {h : Heap} (R : (fun (st : (Sl Int) × Int) tm h7 => match st with | (w6, w9) => tm = ((Sl.enc a_) :: (Sl.enc b_) :: (iv band_) :: und :: und :: und :: nilS :: (iv (((a_.getD []).length : Nat) : Int)) :: (iv (((b_.getD []).length : Nat) : Int)) :: x1 :: (iv w9) :: AV.top :: AV.top :: (Sl.enc a_) :: (iv (((a_.getD []).length : Nat) : Int)) :: (Sl.enc b_) :: (iv (((b_.getD []).length : Nat) : Int)) :: (iv (((a_.getD []).length : Nat) : Int)) :: (iv (((b_.getD []).length : Nat) : Int)) :: (iv (wr ((((a_.getD []).length : Nat) : Int) * (((b_.getD []).length : Nat) : Int)))) :: x1 :: AV.top :: AV.top :: AV.top :: AV.top :: AV.top :: AV.top :: AV.top :: AV.top :: AV.top :: AV.top :: AV.top :: AV.top :: AV.top :: AV.top :: AV.top :: AV.top :: AV.top :: AV.top :: AV.top :: AV.top :: AV.top :: AV.top :: AV.top :: AV.top :: AV.top :: AV.top :: AV.top :: AV.top :: AV.top :: AV.top :: AV.top :: AV.top :: AV.top :: AV.top :: AV.top :: AV.top :: AV.top :: AV.top :: AV.top :: AV.top :: AV.top :: AV.top :: AV.top :: AV.top :: AV.top :: AV.top :: AV.top :: AV.top :: AV.top :: AV.top :: AV.top :: AV.top :: AV.top :: AV.top :: AV.top :: AV.top :: AV.top :: AV.top :: AV.top :: AV.top :: AV.top :: AV.top :: AV.top :: AV.top :: AV.top :: AV.top :: AV.top :: AV.top :: AV.top :: AV.top :: AV.top :: AV.top :: AV.top :: AV.top :: AV.top :: AV.top :: AV.top :: AV.top :: AV.top :: AV.top :: AV.top :: AV.top :: AV.top :: AV.top :: AV.top :: AV.top :: AV.top :: AV.top :: AV.top :: AV.top :: AV.top :: AV.top :: AV.top :: AV.top :: AV.top :: und :: []) ∧ Hold B h7 [(x1, obS (w6 : Sl Int))]) st tm h) : Sim (loopP hm0_spec_l09Table xm0_spec_l09Table (lb0_spec_l09Table env) tm h) (loopT (s0_spec_l09Table a_ b_ band_) st) (fun (q : Sl Int) (r : Res) => match q with | q12 => ∃ (q13 : Int) (z14 : AV) (z15 : AV) (h10 : Heap), r = (.exit 0, ((Sl.enc a_) :: (Sl.enc b_) :: (iv band_) :: und :: und :: und :: nilS :: (iv (((a_.getD []).length : Nat) : Int)) :: (iv (((b_.getD []).length : Nat) : Int)) :: x1 :: (iv q13) :: z14 :: z15 :: (Sl.enc a_) :: (iv (((a_.getD []).length : Nat) : Int)) :: (Sl.enc b_) :: (iv (((b_.getD []).length : Nat) : Int)) :: (iv (((a_.getD []).length : Nat) : Int)) :: (iv (((b_.getD []).length : Nat) : Int)) :: (iv (wr ((((a_.getD []).length : Nat) : Int) * (((b_.getD []).length : Nat) : Int)))) :: x1 :: AV.top :: AV.top :: AV.top :: AV.top :: AV.top :: AV.top :: AV.top :: AV.top :: AV.top :: AV.top :: AV.top :: AV.top :: AV.top :: AV.top :: AV.top :: AV.top :: AV.top :: AV.top :: AV.top :: AV.top :: AV.top :: AV.top :: AV.top :: AV.top :: AV.top :: AV.top :: AV.top :: AV.top :: AV.top :: AV.top :: AV.top :: AV.top :: AV.top :: AV.top :: AV.top :: AV.top :: AV.top :: AV.top :: AV.top :: AV.top :: AV.top :: AV.top :: AV.top :: AV.top :: AV.top :: AV.top :: AV.top :: AV.top :: AV.top :: AV.top :: AV.top :: AV.top :: AV.top :: AV.top :: AV.top :: AV.top :: AV.top :: AV.top :: AV.top :: AV.top :: AV.top :: AV.top :: AV.top :: AV.top :: AV.top :: AV.top :: AV.top :: AV.top :: AV.top :: AV.top :: AV.top :: AV.top :: AV.top :: AV.top :: AV.top :: AV.top :: AV.top :: AV.top :: AV.top :: AV.top :: AV.top :: AV.top :: AV.top :: AV.top :: AV.top :: AV.top :: AV.top :: AV.top :: AV.top :: AV.top :: AV.top :: AV.top :: AV.top :: AV.top :: AV.top :: und :: []), h10) ∧ Hold B h10 [(x1, obS (q12 : Sl Int))]) := by
  refine loop_sim (Rel := fun (st : (Sl Int) × Int) tm h7 => match st with | (w6, w9) => tm = ((Sl.enc a_) :: (Sl.enc b_) :: (iv band_) :: und :: und :: und :: nilS :: (iv (((a_.getD []).length : Nat) : Int)) :: (iv (((b_.getD []).length : Nat) : Int)) :: x1 :: (iv w9) :: AV.top :: AV.top :: (Sl.enc a_) :: (iv (((a_.getD []).length : Nat) : Int)) :: (Sl.enc b_) :: (iv (((b_.getD []).length : Nat) : Int)) :: (iv (((a_.getD []).length : Nat) : Int)) :: (iv (((b_.getD []).length : Nat) : Int)) :: (iv (wr ((((a_.getD []).length : Nat) : Int) * (((b_.getD []).length : Nat) : Int)))) :: x1 :: AV.top :: AV.top :: AV.top :: AV.top :: AV.top :: AV.top :: AV.top :: AV.top :: AV.top :: AV.top :: AV.top :: AV.top :: AV.top :: AV.top :: AV.top :: AV.top :: AV.top :: AV.top :: AV.top :: AV.top :: AV.top :: AV.top :: AV.top :: AV.top :: AV.top :: AV.top :: AV.top :: AV.top :: AV.top :: AV.top :: AV.top :: AV.top :: AV.top :: AV.top :: AV.top :: AV.top :: AV.top :: AV.top :: AV.top :: AV.top :: AV.top :: AV.top :: AV.top :: AV.top :: AV.top :: AV.top :: AV.top :: AV.top :: AV.top :: AV.top :: AV.top :: AV.top :: AV.top :: AV.top :: AV.top :: AV.top :: AV.top :: AV.top :: AV.top :: AV.top :: AV.top :: AV.top :: AV.top :: AV.top :: AV.top :: AV.top :: AV.top :: AV.top :: AV.top :: AV.top :: AV.top :: AV.top :: AV.top :: AV.top :: AV.top :: AV.top :: AV.top :: AV.top :: AV.top :: AV.top :: AV.top :: AV.top :: AV.top :: AV.top :: AV.top :: AV.top :: AV.top :: AV.top :: AV.top :: AV.top :: AV.top :: AV.top :: AV.top :: AV.top :: AV.top :: und :: []) ∧ Hold B h7 [(x1, obS (w6 : Sl Int))]) (fun st tm h7 R => ?_) R
  obtain ⟨w6, w9⟩ := st
  obtain ⟨rfl, O8⟩ := R
  rw [e_lb0_spec_l09Table]
  unfold s0_spec_l09Table
  dsimp only
  refine sim_let (v := bv (decide (w9 < (((a_.getD []).length : Nat) : Int)))) (aBin_lss _ _) ?_
  refine sim_cond (fun c16 => ?_) (fun c16 => ?_)
  · refine sim_bind ((tl1_spec_l09Table env he_spec_l00Min he_spec_l09Cost he_spec_l09Size a_ b_ band_ x1 w9) ⟨rfl, O8⟩) (fun qq553 r hq => ?_)
    revert hq
    revert qq553
    intro q23 hq
    obtain ⟨q24, z25, h21, rfl, O22⟩ := hq
    rw [e_lk1x2_spec_l09Table]
    refine sim_let (v := iv (wr (w9 + 1))) (aBin_add _ _) ?_
    exact sim_ret ⟨rfl, rfl, O22⟩
  · exact sim_ret ⟨nofun, _, _, _, _, rfl, O8⟩
theorem ts_spec_l09Table (env : Nat → Contract) (he_spec_l00Min : env n_spec_l00Min = .pure (T2 (fun a b : Int => min a b))) (he_spec_l09Cost : env n_spec_l09Cost = .pure (C2 (fun c : Int => enc c) t_spec_l09Cost)) (he_spec_l09Size : env n_spec_l09Size = .pure (C1 (fun c : Int => enc c) t_spec_l09Size)) (a_ : Sl Feat) (b_ : Sl Feat) (band_ : Int) : Sim (denFn Try.prog env n_spec_l09Table [Sl.enc a_, Sl.enc b_, iv band_] []) (t_spec_l09Table a_ b_ band_) fun c p => release p.2 depth p.1 = some ((fun c : (Sl Int) => rS c) c) := by
  have O := Hold.nil []
  generalize hB : (⟨[], []⟩ : Base) = B at O
  clear hB
  rw [e_spec_l09Table]
  unfold t_spec_l09Table
  refine sim_let (v := iv (((a_.getD []).length : Nat) : Int)) (Tab.enc [] a_).len ?_
  refine sim_let (v := iv (((b_.getD []).length : Nat) : Int)) (Tab.enc [] b_).len ?_
  refine sim_let (v := iv (wr ((((a_.getD []).length : Nat) : Int) * (((b_.getD []).length : Nat) : Int)))) (aBin_mul _ _) ?_
  refine sim_make (A := Int) O 0 rfl (by decide) (fun l5 x1 h2 O3 => ?_)
  replace O3 : Hold B h2 [(x1, obS ((some l5) : Sl Int))] := O3
  refine sim_bind ((tl0_spec_l09Table env he_spec_l00Min he_spec_l09Cost he_spec_l09Size a_ b_ band_ x1) ⟨rfl, O3⟩) (fun qq556 r hq => ?_)
  revert hq
  revert qq556
  intro q12 hq
  obtain ⟨q13, z14, z15, h10, rfl, O11⟩ := hq
  rw [e_lk0x0_spec_l09Table]
  exact sim_ret (O11.rel (A := Int) (s := q12) 0 rfl)
theorem tt_spec_l09Table : PureOK Try.prog n_spec_l09Table (C3 (fun c : (Sl Int) => rS c) t_spec_l09Table) := pureC3 (Econs ok_spec_l00Min (Econs tt_spec_l09Cost (Econs tt_spec_l09Size E0))) mixed hb_spec_l09Table fun a_ b_ band_ => ts_spec_l09Table _ (by simp [envL]) (by simp [envL]) (by simp [envL]) a_ b_ band_

def t_spec_l09Least (a_ : Sl Feat) (b_ : Sl Feat) (band_ : Int) : Option Int :=
  obind (t_spec_l09Table a_ b_ band_) fun c1 =>
  obind (getI (c1.getD []) (wr ((((c1.getD []).length : Nat) : Int) - 1))) fun a6 =>
  some a6

theorem ts_spec_l09Least (env : Nat → Contract) (he_spec_l09Table : env n_spec_l09Table = .pure (C3 (fun c : (Sl Int) => rS c) t_spec_l09Table)) (a_ : Sl Feat) (b_ : Sl Feat) (band_ : Int) : Sim (denFn Try.prog env n_spec_l09Least [Sl.enc a_, Sl.enc b_, iv band_] []) (t_spec_l09Least a_ b_ band_) fun c p => release p.2 depth p.1 = some ((fun c : Int => enc c) c) := by
  have O := Hold.nil []
  generalize hB : (⟨[], []⟩ : Base) = B at O
  clear hB
  rw [e_spec_l09Least]
  unfold t_spec_l09Least
  refine sim_call3 he_spec_l09Table (snapD_enc _ _) (snapD_enc _ _) (snapD_int _ _) (fun c1 => ?_)
  refine sim_hand (A := Int) O (fun x3 h4 O5 => ?_)
  replace O5 : Hold B h4 [(x3, obS (c1 : Sl Int))] := O5
  refine sim_let (v := iv (((c1.getD []).length : Nat) : Int)) (O5.tab (A := Int) (s := c1) 0 rfl).len ?_
  refine sim_let (v := iv (wr ((((c1.getD []).length : Nat) : Int) - 1))) (aBin_sub _ _) ?_
  refine sim_get (O5.tab (A := Int) (s := c1) 0 rfl) (fun m7 a6 hi8 hm9 => ?_)
  refine sim_let (v := iv a6) ((O5.tab (A := Int) (s := c1) 0 rfl).ld hm9 false 1 0) ?_
  exact sim_ret (release_plain (by rfl) _)
theorem tt_spec_l09Least : PureOK Try.prog n_spec_l09Least (C3 (fun c : Int => enc c) t_spec_l09Least) := pureC3 (Econs tt_spec_l09Table E0) mixed hb_spec_l09Least fun a_ b_ band_ => ts_spec_l09Least _ (by simp [envL]) a_ b_ band_

def t_spec_Elastic (a_ : Sl Feat) (b_ : Sl Feat) (band_ : Int) : Option (Int × Int) :=
  obind (t_spec_l09Code a_ b_ band_) fun c1 =>
  bif !decide (c1 = 0) then
    some (0, c1)
  else
    obind (t_spec_l09Least a_ b_ band_) fun c3 =>
    some (c3, 0)

theorem ts_spec_Elastic (env : Nat → Contract) (he_spec_l09Code : env n_spec_l09Code = .pure (C3 (fun c : Int => enc c) t_spec_l09Code)) (he_spec_l09Least : env n_spec_l09Least = .pure (C3 (fun c : Int => enc c) t_spec_l09Least)) (a_ : Sl Feat) (b_ : Sl Feat) (band_ : Int) : Sim (denFn Try.prog env n_spec_Elastic [Sl.enc a_, Sl.enc b_, iv band_] []) (t_spec_Elastic a_ b_ band_) fun c p => release p.2 depth p.1 = some ((fun c : Int × Int => AV.tup [enc c.1, enc c.2]) c) := by
  have O := Hold.nil []
  generalize hB : (⟨[], []⟩ : Base) = B at O
  clear hB
  rw [e_spec_Elastic]
  unfold t_spec_Elastic
  refine sim_call3 he_spec_l09Code (snapD_enc _ _) (snapD_enc _ _) (snapD_int _ _) (fun c1 => ?_)
  refine sim_let2 (hand_plain (by rfl) _ _) ?_
  refine sim_let (v := bv (!decide (c1 = 0))) (aCmp_ne _ _) ?_
  refine sim_cond (fun c2 => ?_) (fun c2 => ?_)
  · exact sim_ret (release_plain (by rfl) _)
  · refine sim_call3 he_spec_l09Least (snapD_enc _ _) (snapD_enc _ _) (snapD_int _ _) (fun c3 => ?_)
    refine sim_let2 (hand_plain (by rfl) _ _) ?_
    exact sim_ret (release_plain (by rfl) _)
theorem tt_spec_Elastic : PureOK Try.prog n_spec_Elastic (C3 (fun c : Int × Int => AV.tup [enc c.1, enc c.2]) t_spec_Elastic) := pureC3 (Econs tt_spec_l09Code (Econs tt_spec_l09Least E0)) mixed hb_spec_Elastic fun a_ b_ band_ => ts_spec_Elastic _ (by simp [envL]) (by simp [envL]) a_ b_ band_

def t_impl_EndsBound (a_ : Sl Feat) (b_ : Sl Feat) : Option (Int × Int) :=
  obind (t_impl_ValidSeq a_) fun c1 =>
  obind (bif !c1 then some false else (obind (t_impl_ValidSeq b_) fun c3 => some (!c3))) fun c4 =>
  bif (bif !c1 then true else c4) then
    some (0, 1)
  else
    obind (t_impl_endsBound a_ b_) fun c6 =>
    some (c6, 0)

theorem ts_impl_EndsBound (env : Nat → Contract) (he_impl_ValidSeq : env n_impl_ValidSeq = .pure (C1 (fun c : Bool => enc c) t_impl_ValidSeq)) (he_impl_endsBound : env n_impl_endsBound = .pure (C2 (fun c : Int => enc c) t_impl_endsBound)) (a_ : Sl Feat) (b_ : Sl Feat) : Sim (denFn Try.prog env n_impl_EndsBound [Sl.enc a_, Sl.enc b_] []) (t_impl_EndsBound a_ b_) fun c p => release p.2 depth p.1 = some ((fun c : Int × Int => AV.tup [enc c.1, enc c.2]) c) := by
  have O := Hold.nil []
  generalize hB : (⟨[], []⟩ : Base) = B at O
  clear hB
  rw [e_impl_EndsBound]
  unfold t_impl_EndsBound
  refine sim_call1 he_impl_ValidSeq (snapD_enc _ _) (fun c1 => ?_)
  refine sim_let2 (hand_plain (by rfl) _ _) ?_
  refine sim_let (v := bv (!c1)) (aUn_not _) ?_
  refine sim_guardF (e := bv) (fun hb2 => ?_) (fun c4 => ?_)
  · refine sim_call1 he_impl_ValidSeq (snapD_enc _ _) (fun c3 => ?_)
    refine sim_let2 (hand_plain (by rfl) _ _) ?_
    refine sim_let (v := bv (!c3)) (aUn_not _) ?_
    exact sim_ret rfl
  · refine sim_let (v := bv (bif !c1 then true else c4)) (pick_b' _ _ _) ?_
    refine sim_cond (fun c5 => ?_) (fun c5 => ?_)
    · exact sim_ret (release_plain (by rfl) _)
    · refine sim_call2 he_impl_endsBound (snapD_enc _ _) (snapD_enc _ _) (fun c6 => ?_)
      refine sim_let2 (hand_plain (by rfl) _ _) ?_
      exact sim_ret (release_plain (by rfl) _)
theorem tt_impl_EndsBound : PureOK Try.prog n_impl_EndsBound (C2 (fun c : Int × Int => AV.tup [enc c.1, enc c.2]) t_impl_EndsBound) := pureC2 (Econs tt_impl_ValidSeq (Econs tt_impl_endsBound E0)) mixed hb_impl_EndsBound fun a_ b_ => ts_impl_EndsBound _ (by simp [envL]) (by simp [envL]) a_ b_

end Go.Proofs.Ytpdkgjfefhiaiaa
