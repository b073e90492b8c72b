/-
  The law FnExactReadModel holds, for all arguments: it returns true, and its arguments read behind the call as before. No condition.
-/
import Derived.Test.YtielmmmoldloeaaDoorFnExactReadModelPartA
import Derived.Test.YtielmmmoldloeaaDoorRows
import Derived.Test.YtielmmmoldloeaaDoorCards
import Derived.Test.YtielmmmoldloeaaDoorTie
import Derived.SevenTiedAt
import Derived.Lay
namespace Go.Proofs.YtielmmmoldloeaaDoor
open Go Go.Eng Go.Eng.Cod
set_option maxRecDepth 100000
set_option linter.unusedVariables false
set_option linter.unusedSimpArgs false

section
open Go.Shelf Go.RowKit
/-! ### strings.Builder: the library's contracts at this program -/
def layBWrite_ren : Go.Shelf.Ren := ⟨fun | 166 => 30 | 240 => 59 | 276 => 82 | n => n, fun | 70 => 53 | 9 => 9 | 3 => 3 | 75 => 58 | 0 => 0 | 72 => 56 | 37 => 54 | 4 => 4 | 164 => 115 | 5 => 5 | 80 => 64 | 20 => 20 | n => n, fun | n => n⟩
theorem layBWrite : Go.Proofs.Lays.n166 Tryd.prog layBWrite_ren := {
  mixed := by kernel_rfl
  f166 := Tryd.func30.trans (congrArg some (by kernel_rfl))
  f240 := Tryd.func59.trans (congrArg some (by kernel_rfl))
  f276 := Tryd.func82.trans (congrArg some (by kernel_rfl))
  t0 := Tryd.underlying0
  a0 := Tryd.isAgg0
  z0 := Tryd.sizeOf0
  v0 := Tryd.zeroValue0
  t3 := Tryd.underlying3
  a3 := Tryd.isAgg3
  z3 := Tryd.sizeOf3
  v3 := Tryd.zeroValue3
  t4 := Tryd.underlying4
  a4 := Tryd.isAgg4
  z4 := Tryd.sizeOf4
  v4 := Tryd.zeroValue4
  t9 := Tryd.underlying9
  a9 := Tryd.isAgg9
  z9 := Tryd.sizeOf9
  v9 := Tryd.zeroValue9
  t20 := Tryd.underlying20
  a20 := Tryd.isAgg20
  z20 := Tryd.sizeOf20
  v20 := Tryd.zeroValue20
  t37 := Tryd.underlying54
  a37 := Tryd.isAgg54
  z37 := Tryd.sizeOf54
  v37 := Tryd.zeroValue54
  t70 := Tryd.underlying53
  a70 := Tryd.isAgg53
  z70 := Tryd.sizeOf53
  v70 := Tryd.zeroValue53
  t72 := Tryd.underlying56
  a72 := Tryd.isAgg56
  z72 := Tryd.sizeOf56
  v72 := Tryd.zeroValue56
  t75 := Tryd.underlying58
  a75 := Tryd.isAgg58
  z75 := Tryd.sizeOf58
  v75 := Tryd.zeroValue58
  t164 := Tryd.underlying115
  a164 := Tryd.isAgg115
  z164 := Tryd.sizeOf115
  v164 := Tryd.zeroValue115 }
theorem extraBW : Builder.Extra Tryd.prog layBWrite_ren where
  sizeBuilder := by kernel_rfl
  liesBuilder := by kernel_rfl
  t5 := Tryd.underlying5
  a5 := Tryd.isAgg5
  z5 := Tryd.sizeOf5
  v5 := Tryd.zeroValue5
  infoByte := by kernel_rfl
  cellsByte := by kernel_rfl
  sizeByte := by kernel_rfl
  neB5 := by decide
theorem extraBS : Builder.Extra Tryd.prog layBStr_ren where
  sizeBuilder := by kernel_rfl
  liesBuilder := by kernel_rfl
  t5 := Tryd.underlying5
  a5 := Tryd.isAgg5
  z5 := Tryd.sizeOf5
  v5 := Tryd.zeroValue5
  infoByte := by kernel_rfl
  cellsByte := by kernel_rfl
  sizeByte := by kernel_rfl
  neB5 := by decide
/-- A builder that holds these bytes. -/
abbrev BuildB (B b : Nat) (l : List UInt8) (w : World) : Prop := Lib.IsBuilderF 56 5 B b (Lib.byteCells l) w
theorem bwriteB (B b : Nat) (l : List UInt8) (s : ByteArray) (w : World) (h : BuildB B b l w) (hlen : l.length + s.size ≤ 1000000) (hB : B ≤ w.heap.size) :
    Calls Tryd.prog 30 #[.pointer (some ⟨b, 0, none⟩), .string s] w fun e w' => e = .returned (.tuple #[.int .i64 s.size, .nilIface]) ∧ BuildB B b (l ++ bl s) w' ∧ Below B w w' :=
  (Any.Builder_WriteString_f layBWrite extraBW B b (Lib.byteCells l) s w h (by rw [Lib.byteCells_length]; omega) hB).mono fun e w' ⟨h1, h2, h3⟩ => ⟨h1, by
    rw [Lib.strCells_eq, ← Lib.byteCells_append] at h2
    exact Or.inr h2, h3⟩
theorem bstrB (B b : Nat) (l : List UInt8) (w : World) (h : BuildB B b l w) (hB : B ≤ w.heap.size) :
    Calls Tryd.prog 32 #[.pointer (some ⟨b, 0, none⟩)] w fun e w' => e = .returned (.string (strL l)) ∧ Below B w w' :=
  (Any.Builder_String_any_f layBStr extraBS B b l w h hB).mono fun e w' ⟨h1, _, h3⟩ => ⟨h1, h3⟩
theorem keepCellB {B A o : Nat} {w w' : World} {v : Value} (hb : Below B w w') (hA : A < B) (h : w.cell? ⟨A, o, none⟩ = some v) : w'.cell? ⟨A, o, none⟩ = some v := by
  rw [World.cell?_of_block (w := w) (a := ⟨A, o, none⟩) (hb.block A hA)]
  exact h
theorem freshB {B : Nat} {w : World} (hB : B ≤ w.heap.size) : BuildB B w.heap.size [] (w.alloc (.cells #[.pointer none, .slice none 0 0] 56)) :=
  .inl ⟨hB, .slice none 0 0, heap_alloc_new w _, World.ownsRowF_nil _ _ _ _, by simp [Value.ownBlock]⟩
/-- What an engine's contract says, as the kit says it. -/
theorem callsB {P : Program} {g : Nat} {vs : Array Value} {w : World} {R : Ending → World → Prop} (hb : HasBody P g) (h : CallF P g vs w R) : Calls P g vs w R := by
  unfold CallF at h
  rw [callFunc_body hb] at h
  exact h
theorem glob_belowB {P : Program} {w w' : World} (h : Glob P w) (hb : Below w.heap.size w w') : Glob P w' := fun t ht g hg => tabIs_block hg (h t ht g hg) fun hlt => hb.block g hlt
theorem repN_svB {X : Nat → Prop} {B : Nat} {w : World} {s : ByteArray} {v : Value} (h : RepN X B w (sv s) v) : v = .string s := by
  obtain ⟨ρ0, h1, h2⟩ := h
  obtain ⟨h3, h4⟩ := h2 0
  obtain ⟨_, h5⟩ := h4 (mat depth (sv s) 0).2 (fun i ob e => by rw [Nat.zero_add]; exact e)
  have e : (mat depth (sv s) 0).1 = sv s := rfl
  rw [e] at h5
  cases h5
  rfl
theorem repN_bvB {X : Nat → Prop} {B : Nat} {w : World} {b : Bool} {v : Value} (h : RepN X B w (bv b) v) : v = .bool b := by
  obtain ⟨ρ0, h1, h2⟩ := h
  obtain ⟨h3, h4⟩ := h2 0
  obtain ⟨_, h5⟩ := h4 (mat depth (bv b) 0).2 (fun i ob e => by rw [Nat.zero_add]; exact e)
  have e : (mat depth (bv b) 0).1 = bv b := rfl
  rw [e] at h5
  cases h5
  rfl
theorem decB {n : Int} (h0 : 0 ≤ n) (h1 : n ≤ 1000000) {w : World} (hg : Glob Tryd.prog w) :
    Calls Tryd.prog 31 #[.int .i64 n] w fun e w' => e = .returned (.string (itS n)) ∧ Below w.heap.size w w' := by
  have e0 : (C1 (fun c : ByteArray => enc c) t_impl_Decimal) [iv n] = some (sv (itS n)) := by
    have : (C1 (fun c : ByteArray => enc c) t_impl_Decimal) [enc n] = obind (t_impl_Decimal n) fun c => some (enc c) := R1_enc _ _
    rw [show (iv n : AV) = enc n from rfl, this, decimal_ok (by omega) (by omega)]
    rfl
  have hp := tt_impl_Decimal [iv n] _ e0 (fun _ => False) w #[.int .i64 n] hg rfl (fun i d v h2 h3 => by
    match i, h2, h3 with
    | 0, h2, h3 => cases h2; cases h3; exact .sc rfl)
  refine (callsB hb_impl_Decimal hp).mono fun e w' ⟨v, e1, e2, e3⟩ => ⟨?_, e2.toBelow⟩
  rw [e1, repN_svB e3]
end

section
open Go.Shelf Go.RowKit
/-- What stands while a line is made, beside the element's own cells. -/
structure KeepB (w : World) (t o b : Nat) (W : World) : Prop where
  g0 : Glob Tryd.prog w
  ne : o ≠ b
  nt : t ≠ 5
  blk : ∃ c fz, W.heap[o]? = some (.cells c t fz)
  blw : Below w.heap.size w W
theorem KeepB.lt {w : World} {t o b : Nat} {W : World} (h : KeepB w t o b W) : o < W.heap.size := by
  obtain ⟨c, fz, h⟩ := h.blk
  exact (Array.getElem?_eq_some_iff.1 h).1
theorem KeepB.glob {w : World} {t o b : Nat} {W : World} (h : KeepB w t o b W) : Glob Tryd.prog W := glob_belowB h.g0 h.blw
theorem KeepB.keep {w : World} {t o b : Nat} {W W' : World} (hd : Below W.heap.size W W') (h : KeepB w t o b W) : KeepB w t o b W' := by
  obtain ⟨c, fz, hc⟩ := h.blk
  exact ⟨h.g0, h.ne, h.nt, ⟨c, fz, by rw [hd.block o h.lt]; exact hc⟩, h.blw.trans (hd.mono h.blw.size)⟩
theorem KeepB.drew {w : World} {t o b : Nat} {W : World} (h : KeepB w t o b W) : KeepB w t o b W.drew := h.keep (Below.refl _ _).drew
theorem KeepB.others {w : World} {t o b : Nat} {W W' : World} (hw : Below w.heap.size W W') (ho : Lib.OthersKept 5 (some b) W W') (h : KeepB w t o b W) : W'.heap[o]? = W.heap[o]? ∧ KeepB w t o b W' := by
  obtain ⟨c, fz, hc⟩ := h.blk
  have e := ho o _ hc (fun e => h.ne (Option.some.inj e)) (fun c' fz' e => by
    have e2 := congrArg (fun x => match x with | Obj.cells _ t _ => t | _ => 0) e
    exact h.nt e2)
  exact ⟨by rw [e, hc], h.g0, h.ne, h.nt, ⟨c, fz, e⟩, h.blw.trans hw⟩
theorem keepB_start {w wr : World} {t b : Nat} {cs : Array Value} (hb : Below w.heap.size w wr) (hg : Glob Tryd.prog w) (hlt : b < wr.heap.size) (nt : t ≠ 5) : KeepB w t wr.heap.size b (wr.alloc (.cells cs t)) :=
  ⟨hg, by omega, nt, ⟨cs, _, heap_alloc_new wr _⟩, hb.alloc hb.size _⟩
theorem bwriteK (B b : Nat) (l : List UInt8) (s : ByteArray) (w : World) (h : BuildB B b l w) (hlen : l.length + s.size ≤ 1000000) (hB : B ≤ w.heap.size) :
    Calls Tryd.prog 30 #[.pointer (some ⟨b, 0, none⟩), .string s] w fun e w' => e = .returned (.tuple #[.int .i64 s.size, .nilIface]) ∧ BuildB B b (l ++ bl s) w' ∧ Below B w w' ∧ Lib.OthersKept 5 (some b) w w' :=
  (Any.Builder_WriteString_k layBWrite extraBW B b (Lib.byteCells l) s w h (by rw [Lib.byteCells_length]; omega) hB).mono fun e w' ⟨h1, h2, h3, h4⟩ => ⟨h1, by
    rw [Lib.strCells_eq, ← Lib.byteCells_append] at h2
    exact Or.inr h2, h3, h4⟩
theorem build_lt {B b : Nat} {l : List UInt8} {w : World} (h : BuildB B b l w) : b < w.heap.size := by
  rcases h with ⟨_, v, h, _⟩ | ⟨_, v, h, _⟩
  · exact (Array.getElem?_eq_some_iff.1 h).1
  · exact (Array.getElem?_eq_some_iff.1 h).1
theorem build4 {B b : Nat} {l : List UInt8} {W0 W1 W2 W3 W4 : World} (h4 : Below W3.heap.size W3 W4) (h3 : Below W2.heap.size W2 W3) (h2 : Below W1.heap.size W1 W2) (h1 : Below W0.drew.heap.size W0.drew W1) (h : BuildB B b l W0) : BuildB B b l W4 :=
  (((Lib.IsBuilderF.below (Lib.IsBuilderF.below h (Below.refl _ _).drew) h1).below h2).below h3).below h4
abbrev SymS (w : World) (o b : Nat) (s : Symbol) (W : World) : Prop :=
  W.cell? ⟨o, 0, none⟩ = some (.string s.label) ∧ W.cell? ⟨o, 1, none⟩ = some (.int .i64 s.box.x1) ∧ W.cell? ⟨o, 2, none⟩ = some (.int .i64 s.box.y1) ∧ W.cell? ⟨o, 3, none⟩ = some (.int .i64 s.box.x2) ∧ W.cell? ⟨o, 4, none⟩ = some (.int .i64 s.box.y2) ∧ KeepB w 74 o b W
theorem symS_keep {w : World} {o b : Nat} {s : Symbol} {W W' : World} (hd : Below W.heap.size W W') (h : SymS w o b s W) : SymS w o b s W' := by
  obtain ⟨g0, g1, g2, g3, g4, g5⟩ := h
  exact ⟨keepCellB hd g5.lt g0, keepCellB hd g5.lt g1, keepCellB hd g5.lt g2, keepCellB hd g5.lt g3, keepCellB hd g5.lt g4, g5.keep hd⟩
theorem symS_others {w : World} {o b : Nat} {s : Symbol} {W W' : World} (ho : Lib.OthersKept 5 (some b) W W') (hw : Below w.heap.size W W') (h : SymS w o b s W) : SymS w o b s W' := by
  obtain ⟨g0, g1, g2, g3, g4, g5⟩ := h
  obtain ⟨e, g6⟩ := g5.others hw ho
  have hc : ∀ j, W'.cell? ⟨o, j, none⟩ = W.cell? ⟨o, j, none⟩ := fun j => World.cell?_of_block (w := W) (a := ⟨o, j, none⟩) e
  exact ⟨by rw [hc]; exact g0, by rw [hc]; exact g1, by rw [hc]; exact g2, by rw [hc]; exact g3, by rw [hc]; exact g4, g6⟩
theorem symS_glob {w : World} {o b : Nat} {s : Symbol} {W : World} (h : SymS w o b s W) : Glob Tryd.prog W := h.2.2.2.2.2.glob
theorem symS_size {w : World} {o b : Nat} {s : Symbol} {W : World} (h : SymS w o b s W) : w.heap.size ≤ W.heap.size := h.2.2.2.2.2.blw.size
theorem symS_below {w : World} {o b : Nat} {s : Symbol} {W : World} (h : SymS w o b s W) : Below w.heap.size w W := h.2.2.2.2.2.blw
theorem symLine_bl (s : Symbol) : bl (s.label ++ ⟨#[32]⟩ ++ itS s.box.x1 ++ ⟨#[32]⟩ ++ itS s.box.y1 ++ ⟨#[32]⟩ ++ itS s.box.x2 ++ ⟨#[32]⟩ ++ itS s.box.y2 ++ ⟨#[10]⟩) = symLineB s := by
  have ha : ∀ a b : ByteArray, bl (a ++ b) = bl a ++ bl b := fun a b => by
    rw [← strL_bl a, ← strL_bl b, strL_app, bl_strL, bl_strL, bl_strL]
  have h1 : bl (⟨#[32]⟩ : ByteArray) = [32] := rfl
  have h2 : bl (⟨#[10]⟩ : ByteArray) = [10] := rfl
  unfold symLineB
  simp only [ha, h1, h2]
set_option maxHeartbeats 4000000 in
theorem symWalkB (l : List Symbol) (hok : okSys l = true) (base : Option Addr) (cap : Nat) (w : World) (hg : Glob Tryd.prog w)
    (hcells : ∀ (k : Nat) s, l[k]? = some s → ∃ A off, base = some ⟨A, off, none⟩ ∧ w.cell? ⟨A, off + k * 5, none⟩ = some (.string s.label) ∧ w.cell? ⟨A, off + k * 5 + 1, none⟩ = some (.int .i64 s.box.x1) ∧ w.cell? ⟨A, off + k * 5 + 2, none⟩ = some (.int .i64 s.box.y1) ∧ w.cell? ⟨A, off + k * 5 + 3, none⟩ = some (.int .i64 s.box.x2) ∧ w.cell? ⟨A, off + k * 5 + 4, none⟩ = some (.int .i64 s.box.y2))
    (hval : Calls Tryd.prog 38 #[.slice base l.length cap] w fun e w' => e = .returned (.bool true) ∧ Below w.heap.size w w') :
    Calls Tryd.prog 15 #[.slice base l.length cap] w fun e w' => e = .returned (.string (strL (symTextB l))) ∧ Below w.heap.size w w' := by
  have mixed : Tryd.prog.follows .mixedOrders = true := by kernel_rfl
  go_enter Tryd.func15, Tryd.ntmps15
  go_wp2_with (go_at_call 38; refine hval.mono ?_)
  rintro e w1 ⟨rfl, b1⟩
  go_wp2
  go_loopw [11] (fun i wr => ∃ k : Nat, i = .int .i64 k ∧ k ≤ l.length ∧ BuildB w.heap.size w1.heap.size (symTextB (l.take k)) wr ∧ Below w.heap.size w wr) (fun i _ => l.length - (intOf i).toNat)
  case atStart => exact ⟨0, rfl, Nat.zero_le _, freshB b1.size, b1.alloc b1.size _⟩
  case round =>
    obtain ⟨k, rfl, hk, hI, hb⟩ := hrel
    by_cases hkl : k < l.length
    · obtain ⟨s, hs⟩ : ∃ s, l[k]? = some s := ⟨_, List.getElem?_eq_getElem hkl⟩
      obtain ⟨A, off, rfl, c0, c1, c2, c3, c4⟩ := hcells k s hs
      have hok' := okSys_mem hok s (List.mem_of_getElem? hs)
      obtain ⟨v0, v1, v2, v3, v4⟩ := okSym_v hok'
      have hA := block_lt_of_cell c0
      replace c0 := keepCellB hb hA c0
      replace c1 := keepCellB hb hA c1
      replace c2 := keepCellB hb hA c2
      replace c3 := keepCellB hb hA c3
      replace c4 := keepCellB hb hA c4
      have hi0 : (0 : Int) ≤ (k : Int) := by omega
      have hi1 : (k : Int) < (l.length : Int) := by omega
      go_wp2
      have hK : KeepB w 74 wr.heap.size w1.heap.size (wr.alloc (Obj.cells #[Value.string s.label, Value.int IntKind.i64 s.box.x1, Value.int IntKind.i64 s.box.y1, Value.int IntKind.i64 s.box.x2, Value.int IntKind.i64 s.box.y2] 74)) := keepB_start hb hg (build_lt hI) (by decide)
      have hJ := hI.alloc (Obj.cells #[Value.string s.label, Value.int IntKind.i64 s.box.x1, Value.int IntKind.i64 s.box.y1, Value.int IntKind.i64 s.box.x2, Value.int IntKind.i64 s.box.y2] 74)
      have hc : ∀ j, (wr.alloc (Obj.cells #[Value.string s.label, Value.int IntKind.i64 s.box.x1, Value.int IntKind.i64 s.box.y1, Value.int IntKind.i64 s.box.x2, Value.int IntKind.i64 s.box.y2] 74)).cell? ⟨wr.heap.size, j, none⟩ = #[Value.string s.label, Value.int IntKind.i64 s.box.x1, Value.int IntKind.i64 s.box.y1, Value.int IntKind.i64 s.box.x2, Value.int IntKind.i64 s.box.y2][j]? := fun j => World.cell?_alloc_at _ _ _ _ rfl
      have hwk : IntKind.i64.wrap ((k : Int) + 1) = (k : Int) + 1 := by rw [IntKind.wrap_i64]; have := okSys_len hok; omega
      have d1 : s.box.x1 ≤ 1000000 := by omega
      have d2 : s.box.y1 ≤ 1000000 := by omega
      have d3 : s.box.x2 ≤ 1000000 := by omega
      have d4 : s.box.y2 ≤ 1000000 := by omega
      have i1 := (l01Dec_ok (n := s.box.x1) (by omega) (by omega)).2
      have i2 := (l01Dec_ok (n := s.box.y1) (by omega) (by omega)).2
      have i3 := (l01Dec_ok (n := s.box.x2) (by omega) (by omega)).2
      have i4 := (l01Dec_ok (n := s.box.y2) (by omega) (by omega)).2
      have n1 : ¬ (9223372036854775807 < s.label.size + 1) := by omega
      have n2 : ¬ (9223372036854775807 < s.label.size + 1 + (itS s.box.x1).size) := by omega
      have n3 : ¬ (9223372036854775807 < s.label.size + 1 + (itS s.box.x1).size + 1) := by omega
      have n4 : ¬ (9223372036854775807 < s.label.size + 1 + (itS s.box.x1).size + 1 + (itS s.box.y1).size) := by omega
      have n5 : ¬ (9223372036854775807 < s.label.size + 1 + (itS s.box.x1).size + 1 + (itS s.box.y1).size + 1) := by omega
      have n6 : ¬ (9223372036854775807 < s.label.size + 1 + (itS s.box.x1).size + 1 + (itS s.box.y1).size + 1 + (itS s.box.x2).size) := by omega
      have n7 : ¬ (9223372036854775807 < s.label.size + 1 + (itS s.box.x1).size + 1 + (itS s.box.y1).size + 1 + (itS s.box.x2).size + 1) := by omega
      have n8 : ¬ (9223372036854775807 < s.label.size + 1 + (itS s.box.x1).size + 1 + (itS s.box.y1).size + 1 + (itS s.box.x2).size + 1 + (itS s.box.y2).size) := by omega
      have n9 : ¬ (9223372036854775807 < s.label.size + 1 + (itS s.box.x1).size + 1 + (itS s.box.y1).size + 1 + (itS s.box.x2).size + 1 + (itS s.box.y2).size + 1) := by omega
      have n10 : (symTextB (l.take k)).length + (s.label ++ ⟨#[32]⟩ ++ itS s.box.x1 ++ ⟨#[32]⟩ ++ itS s.box.y1 ++ ⟨#[32]⟩ ++ itS s.box.x2 ++ ⟨#[32]⟩ ++ itS s.box.y2 ++ ⟨#[10]⟩).size ≤ 1000000 := by
        have h6 := flat_len (f := symLineB) (c := 86) (l := l.take k) (fun a ha => symLine_len (okSys_mem hok a (List.mem_of_mem_take ha)))
        have h7 : (l.take k).length ≤ 8 := by rw [List.length_take]; have := okSys_len hok; omega
        have h8 : 86 * (l.take k).length ≤ 86 * 8 := Nat.mul_le_mul_left _ h7
        have e1 : (⟨#[32]⟩ : ByteArray).size = 1 := rfl
        have e2 : (⟨#[10]⟩ : ByteArray).size = 1 := rfl
        simp only [ByteArray.size_append, e1, e2]
        unfold symTextB
        omega
      clear v0 i1 i2 i3 i4
      have g0 := hc 0
      have g1 := hc 1
      have g2 := hc 2
      have g3 := hc 3
      have g4 := hc 4
      go_region_held3 (fun w' => w'.cell? ⟨wr.heap.size, 0, none⟩ = some (.string s.label) ∧ w'.cell? ⟨wr.heap.size, 1, none⟩ = some (.int .i64 s.box.x1) ∧ w'.cell? ⟨wr.heap.size, 2, none⟩ = some (.int .i64 s.box.y1) ∧ w'.cell? ⟨wr.heap.size, 3, none⟩ = some (.int .i64 s.box.x2) ∧ w'.cell? ⟨wr.heap.size, 4, none⟩ = some (.int .i64 s.box.y2) ∧ KeepB w 74 wr.heap.size w1.heap.size w')
        (first | (exact symS_keep (by assumption) (by assumption)) | (exact symS_others (by assumption) (by assumption) (by assumption)) | (refine ⟨?_, ?_, ?_, ?_, ?_, ?_⟩ <;> first | assumption | exact KeepB.drew (by assumption)))
        (first
          | (go_at_call_of 31 (Value.int .i64 s.box.x1); refine (decB v1.1 d1 ?_).mono ?_; (exact symS_glob (by assumption)); rintro e w' ⟨rfl, hd⟩)
          | (go_at_call_of 31 (Value.int .i64 s.box.y1); refine (decB v2.1 d2 ?_).mono ?_; (exact symS_glob (by assumption)); rintro e w' ⟨rfl, hd⟩)
          | (go_at_call_of 31 (Value.int .i64 s.box.x2); refine (decB v3.1 d3 ?_).mono ?_; (exact symS_glob (by assumption)); rintro e w' ⟨rfl, hd⟩)
          | (go_at_call_of 31 (Value.int .i64 s.box.y2); refine (decB v4.1 d4 ?_).mono ?_; (exact symS_glob (by assumption)); rintro e w' ⟨rfl, hd⟩)
          | (go_at_call 30; refine (bwriteK w.heap.size w1.heap.size (symTextB (l.take k)) _ _ ?_ n10 ?_).mono ?_; (exact build4 (by assumption) (by assumption) (by assumption) (by assumption) (by assumption)); (exact symS_size (by assumption)); rintro e w' ⟨rfl, hw1, hw2, hw3⟩))
      go_wp2
      go_roundw
      case rel =>
        refine ⟨k + 1, by push_cast; rfl, by omega, ?_, symS_below (by assumption)⟩
        rw [show symTextB (l.take (k + 1)) = symTextB (l.take k) ++ symLineB s from flat_take _ hs, ← symLine_bl]
        exact hw1
      case measure =>
        simp [intOf]
        omega
    · go_wp2_with (go_at_call 32; refine (bstrB w.heap.size w1.heap.size (symTextB (l.take k)) _ hI hb.size).mono ?_)
      rintro e w2 ⟨rfl, b2⟩
      go_wp2
      go_ret
      have e : k = l.length := by omega
      subst e
      rw [List.take_length]
      exact ⟨rfl, hb.trans b2⟩
end

section
open Go.Shelf Go.RowKit
abbrev ModS (w : World) (o b : Nat) (g : Bigram) (W : World) : Prop :=
  W.cell? ⟨o, 0, none⟩ = some (.string g.first) ∧ W.cell? ⟨o, 1, none⟩ = some (.string g.second) ∧ W.cell? ⟨o, 2, none⟩ = some (.int .i64 g.cost) ∧ KeepB w 63 o b W
theorem modS_keep {w : World} {o b : Nat} {g : Bigram} {W W' : World} (hd : Below W.heap.size W W') (h : ModS w o b g W) : ModS w o b g W' := by
  obtain ⟨g0, g1, g2, g5⟩ := h
  exact ⟨keepCellB hd g5.lt g0, keepCellB hd g5.lt g1, keepCellB hd g5.lt g2, g5.keep hd⟩
theorem modS_others {w : World} {o b : Nat} {g : Bigram} {W W' : World} (ho : Lib.OthersKept 5 (some b) W W') (hw : Below w.heap.size W W') (h : ModS w o b g W) : ModS w o b g W' := by
  obtain ⟨g0, g1, g2, g5⟩ := h
  obtain ⟨e, g6⟩ := g5.others hw ho
  have hc : ∀ j, W'.cell? ⟨o, j, none⟩ = W.cell? ⟨o, j, none⟩ := fun j => World.cell?_of_block (w := W) (a := ⟨o, j, none⟩) e
  exact ⟨by rw [hc]; exact g0, by rw [hc]; exact g1, by rw [hc]; exact g2, g6⟩
theorem modS_glob {w : World} {o b : Nat} {g : Bigram} {W : World} (h : ModS w o b g W) : Glob Tryd.prog W := h.2.2.2.glob
theorem modS_size {w : World} {o b : Nat} {g : Bigram} {W : World} (h : ModS w o b g W) : w.heap.size ≤ W.heap.size := h.2.2.2.blw.size
theorem modS_below {w : World} {o b : Nat} {g : Bigram} {W : World} (h : ModS w o b g W) : Below w.heap.size w W := h.2.2.2.blw
theorem build1 {B b : Nat} {l : List UInt8} {W0 W1 : World} (h1 : Below W0.drew.heap.size W0.drew W1) (h : BuildB B b l W0) : BuildB B b l W1 :=
  Lib.IsBuilderF.below (Lib.IsBuilderF.below h (Below.refl _ _).drew) h1
theorem emptyB {s : ByteArray} : s.toList.isEmpty = true ↔ s = ⟨#[]⟩ := by
  rw [ByteArray.toList_eq]
  constructor
  · intro h
    apply ByteArray.ext
    simpa using h
  · rintro rfl
    rfl
theorem bl_appB (a b : ByteArray) : bl (a ++ b) = bl a ++ bl b := by
  rw [← strL_bl a, ← strL_bl b, strL_app, bl_strL, bl_strL, bl_strL]
theorem modHead_bl (d : Int) : bl ((⟨#[100, 101, 102, 97, 117, 108, 116, 32]⟩ : ByteArray) ++ itS d ++ ⟨#[10]⟩) = modHeadB d := by
  have h1 : bl (⟨#[100, 101, 102, 97, 117, 108, 116, 32]⟩ : ByteArray) = [100, 101, 102, 97, 117, 108, 116, 32] := rfl
  have h2 : bl (⟨#[10]⟩ : ByteArray) = [10] := rfl
  unfold modHeadB
  simp only [bl_appB, h1, h2]
theorem bigLine_bl (f : ByteArray) (g : Bigram) (hf : g.first = ⟨#[]⟩ ∧ f = ⟨#[45]⟩ ∨ g.first ≠ ⟨#[]⟩ ∧ f = g.first) : bl (f ++ ⟨#[32]⟩ ++ g.second ++ ⟨#[32]⟩ ++ itS g.cost ++ ⟨#[10]⟩) = bigLineB g := by
  have h1 : bl (⟨#[32]⟩ : ByteArray) = [32] := rfl
  have h2 : bl (⟨#[10]⟩ : ByteArray) = [10] := rfl
  have h3 : bl (⟨#[45]⟩ : ByteArray) = [45] := rfl
  unfold bigLineB
  rcases hf with ⟨e, rfl⟩ | ⟨e, rfl⟩
  · rw [decide_eq_true e]
    simp only [bl_appB, h1, h2, h3, cond_true]
  · rw [decide_eq_false e]
    simp only [bl_appB, h1, h2, cond_false]
set_option maxHeartbeats 4000000 in
theorem modWalkB (m : Model) (l : List Bigram) (hm : m.bigrams.getD [] = l) (hok : modB m = true) (base : Option Addr) (cap : Nat) (w : World) (hg : Glob Tryd.prog w)
    (hcells : ∀ (k : Nat) g, l[k]? = some g → ∃ A off, base = some ⟨A, off, none⟩ ∧ w.cell? ⟨A, off + k * 3, none⟩ = some (.string g.first) ∧ w.cell? ⟨A, off + k * 3 + 1, none⟩ = some (.string g.second) ∧ w.cell? ⟨A, off + k * 3 + 2, none⟩ = some (.int .i64 g.cost))
    (hval : Calls Tryd.prog 29 #[.agg #[.int .i64 m.default, .slice base l.length cap]] (w.alloc (.cells #[.int .i64 m.default, .slice base l.length cap] 29)) fun e w' => e = .returned (.bool true) ∧ Below (w.heap.size + 1) (w.alloc (.cells #[.int .i64 m.default, .slice base l.length cap] 29)) w') :
    Calls Tryd.prog 10 #[.agg #[.int .i64 m.default, .slice base l.length cap]] w fun e w' => e = .returned (.string (strL (modTextB m))) ∧ Below w.heap.size w w' := by
  have mixed : Tryd.prog.follows .mixedOrders = true := by kernel_rfl
  obtain ⟨hbig, hd, hl60⟩ := modB_v hok
  rw [hm] at hbig hl60
  obtain ⟨w0, hw0⟩ : ∃ w0, w0 = w.alloc (.cells #[.int .i64 m.default, .slice base l.length cap] 29) := ⟨_, rfl⟩
  have hs0 : w0.heap.size = w.heap.size + 1 := by rw [hw0]; simp
  have bw : Below w.heap.size w w0 := by rw [hw0]; exact (Below.refl _ w).alloc (Nat.le_refl _) _
  have hc0 : ∀ j, w0.cell? ⟨w.heap.size, j, none⟩ = #[Value.int .i64 m.default, .slice base l.length cap][j]? := fun j => by rw [hw0]; exact World.cell?_alloc_at _ _ _ _ rfl
  go_enter Tryd.func10, Tryd.ntmps10
  go_wp2_with (go_at_call 29; refine hval.mono ?_)
  rintro e w1 ⟨rfl, b1⟩
  rw [← hw0, ← hs0] at b1
  have g1 : Glob Tryd.prog w1 := glob_belowB (glob_belowB hg bw) b1
  have c0 : w1.cell? ⟨w.heap.size, 0, none⟩ = some (.int .i64 m.default) := keepCellB b1 (by omega) (hc0 0)
  have hlt1 : w.heap.size < w1.heap.size := by have := b1.size; omega
  have d0 : (w1.alloc (Obj.cells #[Value.pointer none, Value.slice none 0 0] 56)).cell? ⟨w.heap.size, 0, none⟩ = some (.int .i64 m.default) := by
    rw [World.cell?_alloc_past (w := w1) _ w.heap.size 0 hlt1]
    exact c0
  have b2 : Below w0.heap.size w0 (w1.alloc (Obj.cells #[Value.pointer none, Value.slice none 0 0] 56)) := b1.alloc b1.size _
  have g2 : Glob Tryd.prog (w1.alloc (Obj.cells #[Value.pointer none, Value.slice none 0 0] 56)) := glob_belowB g1 ((Below.refl _ w1).alloc (Nat.le_refl _) _)
  have hJ := freshB (B := w0.heap.size) (w := w1) b1.size
  have i0 := (l01Dec_ok (n := m.default) (by omega) (by omega)).2
  have n1 : ¬ (9223372036854775807 < 8 + (itS m.default).size) := by omega
  have n2 : ¬ (9223372036854775807 < 8 + (itS m.default).size + 1) := by omega
  have n3 : ([] : List UInt8).length + ((⟨#[100, 101, 102, 97, 117, 108, 116, 32]⟩ : ByteArray) ++ itS m.default ++ ⟨#[10]⟩).size ≤ 1000000 := by
    have e1 : (⟨#[100, 101, 102, 97, 117, 108, 116, 32]⟩ : ByteArray).size = 8 := rfl
    have e2 : (⟨#[10]⟩ : ByteArray).size = 1 := rfl
    simp only [ByteArray.size_append, e1, e2, List.length_nil]
    omega
  clear i0
  go_wp2_with (go_at_call 31; refine (decB (n := m.default) hd.1 hd.2 g2).mono ?_)
  rintro e w3 ⟨rfl, b3⟩
  have hJ3 : BuildB w0.heap.size w1.heap.size [] w3 := Lib.IsBuilderF.below hJ b3
  have b3' : Below w0.heap.size w0 w3 := b2.trans (b3.mono b2.size)
  go_wp2_with (go_at_call 30; refine (bwriteB w0.heap.size w1.heap.size [] _ w3 hJ3 n3 b3'.size).mono ?_)
  rintro e w4 ⟨rfl, hJ4, b4⟩
  rw [List.nil_append, modHead_bl] at hJ4
  have b4' : Below w0.heap.size w0 w4 := b3'.trans b4
  have c1 : w4.cell? ⟨w.heap.size, 1, none⟩ = some (.slice base l.length cap) := keepCellB b4' (by omega) (hc0 1)
  go_wp2
  go_loopw [19] (fun i wr => ∃ k : Nat, i = .int .i64 k ∧ k ≤ l.length ∧ BuildB w0.heap.size w1.heap.size (modHeadB m.default ++ (l.take k).flatMap bigLineB) wr ∧ Below w0.heap.size w0 wr) (fun i _ => l.length - (intOf i).toNat)
  case atStart => exact ⟨0, rfl, Nat.zero_le _, by simpa using hJ4, b4'⟩
  case round =>
    obtain ⟨k, rfl, hk, hI, hb⟩ := hrel
    by_cases hkl : k < l.length
    · obtain ⟨g, hs⟩ : ∃ g, l[k]? = some g := ⟨_, List.getElem?_eq_getElem hkl⟩
      obtain ⟨A, off, rfl, c0, c1, c2⟩ := hcells k g hs
      obtain ⟨v0, v1, v2⟩ := valBig_v (hbig g (List.mem_of_getElem? hs))
      have hA := block_lt_of_cell c0
      replace c0 := keepCellB hb (by omega) (keepCellB bw hA c0)
      replace c1 := keepCellB hb (by omega) (keepCellB bw hA c1)
      replace c2 := keepCellB hb (by omega) (keepCellB bw hA c2)
      have hi0 : (0 : Int) ≤ (k : Int) := by omega
      have hi1 : (k : Int) < (l.length : Int) := by omega
      have hwk : IntKind.i64.wrap ((k : Int) + 1) = (k : Int) + 1 := by rw [IntKind.wrap_i64]; omega
      have hK : KeepB w0 63 wr.heap.size w1.heap.size (wr.alloc (Obj.cells #[Value.string g.first, Value.string g.second, Value.int IntKind.i64 g.cost] 63)) := keepB_start hb (glob_belowB hg bw) (build_lt hI) (by decide)
      have hJ := hI.alloc (Obj.cells #[Value.string g.first, Value.string g.second, Value.int IntKind.i64 g.cost] 63)
      have hc : ∀ j, (wr.alloc (Obj.cells #[Value.string g.first, Value.string g.second, Value.int IntKind.i64 g.cost] 63)).cell? ⟨wr.heap.size, j, none⟩ = #[Value.string g.first, Value.string g.second, Value.int IntKind.i64 g.cost][j]? := fun j => World.cell?_alloc_at _ _ _ _ rfl
      have q0 := hc 0
      have q1 := hc 1
      have q2 := hc 2
      have i1 := (l01Dec_ok (n := g.cost) (by omega) (by omega)).2
      have acc : (modHeadB m.default ++ (l.take k).flatMap bigLineB).length ≤ 100000 := by
        have h6 := flat_len (f := bigLineB) (c := 43) (l := l.take k) (fun a ha => bigLine_len (hbig a (List.mem_of_mem_take ha)))
        have h7 : (l.take k).length ≤ 60 := by rw [List.length_take]; omega
        have h8 : 43 * (l.take k).length ≤ 43 * 60 := Nat.mul_le_mul_left _ h7
        have h9 : (modHeadB m.default).length ≤ 29 := by
          obtain ⟨D, _, e0, l0, _⟩ := itL (n := m.default) (by omega) (by omega)
          unfold modHeadB
          rw [e0]
          simp only [List.length_append, List.length_cons, List.length_nil]
          omega
        rw [List.length_append]
        omega
      cases he : g.first.toList.isEmpty with
      | true =>
        go_wp2
        generalize hfs : (⟨#[45]⟩ : ByteArray) = f
        have hfd : f.data = #[45] := by rw [← hfs]
        replace hfs : f.size = 1 := by rw [← hfs]; rfl
        have n1 : ¬ (9223372036854775807 < f.size + 1) := by omega
        have n2 : ¬ (9223372036854775807 < f.size + 1 + g.second.size) := by omega
        have n3 : ¬ (9223372036854775807 < f.size + 1 + g.second.size + 1) := by omega
        have n4 : ¬ (9223372036854775807 < f.size + 1 + g.second.size + 1 + (itS g.cost).size) := by omega
        have n5 : ¬ (9223372036854775807 < f.size + 1 + g.second.size + 1 + (itS g.cost).size + 1) := by omega
        have n6 : (modHeadB m.default ++ (l.take k).flatMap bigLineB).length + (f ++ ⟨#[32]⟩ ++ g.second ++ ⟨#[32]⟩ ++ itS g.cost ++ ⟨#[10]⟩).size ≤ 1000000 := by
          have e1 : (⟨#[32]⟩ : ByteArray).size = 1 := rfl
          have e2 : (⟨#[10]⟩ : ByteArray).size = 1 := rfl
          simp only [ByteArray.size_append, e1, e2]
          omega
        clear i1 v0 v1 hfs
        go_region_held3 (fun w' => w'.cell? ⟨wr.heap.size, 0, none⟩ = some (.string g.first) ∧ w'.cell? ⟨wr.heap.size, 1, none⟩ = some (.string g.second) ∧ w'.cell? ⟨wr.heap.size, 2, none⟩ = some (.int .i64 g.cost) ∧ KeepB w0 63 wr.heap.size w1.heap.size w')
          (first | (exact modS_keep (by assumption) (by assumption)) | (exact modS_others (by assumption) (by assumption) (by assumption)) | (refine ⟨?_, ?_, ?_, ?_⟩ <;> first | assumption | exact KeepB.drew (by assumption)))
          (first
            | (go_at_call_of 31 (Value.int .i64 g.cost); refine (decB v2.1 v2.2 ?_).mono ?_; (exact modS_glob (by assumption)); rintro e w' ⟨rfl, hd⟩)
            | (go_at_call 30; refine (bwriteK w0.heap.size w1.heap.size (modHeadB m.default ++ (l.take k).flatMap bigLineB) _ _ ?_ n6 ?_).mono ?_; (exact build1 (by assumption) (by assumption)); (exact modS_size (by assumption)); rintro e w' ⟨rfl, hw1, hw2, hw3⟩))
        go_wp2
        go_roundw
        case rel =>
          refine ⟨k + 1, by push_cast; rfl, by omega, ?_, modS_below (by assumption)⟩
          rw [flat_take _ hs, ← List.append_assoc, ← bigLine_bl f g (.inl ⟨emptyB.1 he, ByteArray.ext hfd⟩)]
          exact hw1
        case measure =>
          simp [intOf]
          omega
      | false =>
        go_wp2
        have hfs := v0
        have n1 : ¬ (9223372036854775807 < g.first.size + 1) := by omega
        have n2 : ¬ (9223372036854775807 < g.first.size + 1 + g.second.size) := by omega
        have n3 : ¬ (9223372036854775807 < g.first.size + 1 + g.second.size + 1) := by omega
        have n4 : ¬ (9223372036854775807 < g.first.size + 1 + g.second.size + 1 + (itS g.cost).size) := by omega
        have n5 : ¬ (9223372036854775807 < g.first.size + 1 + g.second.size + 1 + (itS g.cost).size + 1) := by omega
        have n6 : (modHeadB m.default ++ (l.take k).flatMap bigLineB).length + (g.first ++ ⟨#[32]⟩ ++ g.second ++ ⟨#[32]⟩ ++ itS g.cost ++ ⟨#[10]⟩).size ≤ 1000000 := by
          have e1 : (⟨#[32]⟩ : ByteArray).size = 1 := rfl
          have e2 : (⟨#[10]⟩ : ByteArray).size = 1 := rfl
          simp only [ByteArray.size_append, e1, e2]
          omega
        clear i1 v0 v1 hfs
        go_region_held3 (fun w' => w'.cell? ⟨wr.heap.size, 0, none⟩ = some (.string g.first) ∧ w'.cell? ⟨wr.heap.size, 1, none⟩ = some (.string g.second) ∧ w'.cell? ⟨wr.heap.size, 2, none⟩ = some (.int .i64 g.cost) ∧ KeepB w0 63 wr.heap.size w1.heap.size w')
          (first | (exact modS_keep (by assumption) (by assumption)) | (exact modS_others (by assumption) (by assumption) (by assumption)) | (refine ⟨?_, ?_, ?_, ?_⟩ <;> first | assumption | exact KeepB.drew (by assumption)))
          (first
            | (go_at_call_of 31 (Value.int .i64 g.cost); refine (decB v2.1 v2.2 ?_).mono ?_; (exact modS_glob (by assumption)); rintro e w' ⟨rfl, hd⟩)
            | (go_at_call 30; refine (bwriteK w0.heap.size w1.heap.size (modHeadB m.default ++ (l.take k).flatMap bigLineB) _ _ ?_ n6 ?_).mono ?_; (exact build1 (by assumption) (by assumption)); (exact modS_size (by assumption)); rintro e w' ⟨rfl, hw1, hw2, hw3⟩))
        go_wp2
        go_roundw
        case rel =>
          refine ⟨k + 1, by push_cast; rfl, by omega, ?_, modS_below (by assumption)⟩
          rw [flat_take _ hs, ← List.append_assoc, ← bigLine_bl g.first g (.inr ⟨fun e => Bool.noConfusion (he.symm.trans (emptyB.2 e)), rfl⟩)]
          exact hw1
        case measure =>
          simp [intOf]
          omega
    · go_wp2_with (go_at_call 32; refine (bstrB w0.heap.size w1.heap.size _ _ hI hb.size).mono ?_)
      rintro e w5 ⟨rfl, b5⟩
      go_wp2
      go_ret
      have e : k = l.length := by omega
      subst e
      rw [List.take_length]
      rw [show modTextB m = modHeadB m.default ++ l.flatMap bigLineB by unfold modTextB; rw [hm]]
      exact ⟨rfl, bw.trans ((hb.trans b5).mono (by omega))⟩
end

section
open Go.Shelf Go.RowKit
/-! ### The contracts of the two functions -/
theorem hasSymB : HasBody Tryd.prog 15 := ⟨Tryd.f15, _, Tryd.func15, rfl, rfl⟩
theorem hasModB : HasBody Tryd.prog 10 := ⟨Tryd.f10, _, Tryd.func10, rfl, rfl⟩
theorem belowD_of {B : Nat} {w w' : World} (h : Below B w w') : BelowD B w w' := ⟨h, fun c => c.elim⟩
theorem c1_inv {A Z : Type} [Cod A] {e : Z → AV} {t : A → Option Z} {ds : List AV} {r : AV} (h : C1 e t ds = some r) : ∃ a z, ds = [enc a] ∧ t a = some z ∧ r = e z := by
  match ds, h with
  | [x], h =>
    have h2 : obind (dec x) (fun a0 => obind (t a0) fun c => some (e c)) = some r := h
    obtain ⟨a, h3, h4⟩ := obind_some h2
    obtain ⟨z, h5, h6⟩ := obind_some h4
    cases h6
    exact ⟨a, z, by rw [Cod.ed _ _ h3], h5, rfl⟩
theorem arr_one {vs : Array Value} {x : AV} (h : vs.size = [x].length) : ∃ v, vs = #[v] := by
  match vs, h with
  | ⟨[v]⟩, _ => exact ⟨v, rfl⟩
theorem valSysB {l : Sl Symbol} {X : Nat → Prop} {w : World} {v : Value} (hl : (l.getD []).length ≤ 4294967296) (hg : Glob Tryd.prog w) (hv : Rep (Own X RM.none) w RM.none (Sl.enc l) v) :
    Calls Tryd.prog 38 #[v] w fun e w' => e = .returned (.bool (okSys (l.getD []))) ∧ Below w.heap.size w w' := by
  have e0 : (C1 (fun c : Bool => enc c) t_impl_ValidSymbols) [enc l] = some (bv (okSys (l.getD []))) := by
    have : (C1 (fun c : Bool => enc c) t_impl_ValidSymbols) [enc l] = obind (t_impl_ValidSymbols l) fun c => some (enc c) := R1_enc _ _
    rw [this, validSys_ok l hl]
    rfl
  have hp := tt_impl_ValidSymbols [enc l] _ e0 X w #[v] hg rfl (fun i d u h2 h3 => by
    match i, h2, h3 with
    | 0, h2, h3 => cases h2; cases h3; exact hv)
  refine (callsB hb_impl_ValidSymbols hp).mono fun e w' ⟨u, e1, e2, e3⟩ => ⟨?_, e2.toBelow⟩
  rw [e1, repN_bvB e3]
theorem symNoB (v : Value) (w : World) (hval : Calls Tryd.prog 38 #[v] w fun e w' => e = .returned (.bool false) ∧ Below w.heap.size w w') :
    Calls Tryd.prog 15 #[v] w fun e w' => e = .returned (.string ⟨#[]⟩) ∧ Below w.heap.size w w' := by
  have mixed : Tryd.prog.follows .mixedOrders = true := by kernel_rfl
  go_enter Tryd.func15, Tryd.ntmps15
  go_wp2_with (go_at_call 38; refine hval.mono ?_)
  rintro e w1 ⟨rfl, b1⟩
  go_wp2
  go_ret
  exact ⟨rfl, b1⟩
theorem rowB {A : Type} [Row A] {l : List A} {k j : Nat} {a : A} {c : AV} (h : l[k]? = some a) (hj : (Row.cells a)[j]? = some c) : cellAt (l.map Row.cells) k j = some c := by
  unfold cellAt
  rw [List.getElem?_map, h]
  exact hj
theorem rep_svB {own : Nat → Prop} {w : World} {ρ : RM} {s : ByteArray} {v : Value} (h : Rep own w ρ (sv s) v) : v = .string s := by cases h; rfl
theorem rep_ivB {own : Nat → Prop} {w : World} {ρ : RM} {n : Int} {v : Value} (h : Rep own w ρ (iv n) v) : v = .int .i64 n := by cases h; rfl
/-- A slice of rows that is read: where its cells lie. -/
theorem slB {A : Type} [Row A] {l : Sl A} {own : Nat → Prop} {w : World} {ρ : RM} {v : Value} (h : Rep own w ρ (Sl.enc l) v) :
    ∃ base cap, v = .slice base (l.getD []).length cap ∧ ∀ (k : Nat) a, (l.getD [])[k]? = some a → ∃ B off, base = some ⟨B, off, none⟩ ∧ ∀ (j : Nat) c, (Row.cells a)[j]? = some c → ∃ u, w.cell? ⟨B, off + k * Row.w A + j, none⟩ = some u ∧ Rep own w RM.none c u := by
  cases l with
  | none =>
    cases h
    exact ⟨none, 0, rfl, fun k a h => by simp at h⟩
  | some l =>
    generalize hr : Sl.enc (some l) = d at h
    cases h with
    | @fs _ k rows a cap cf hk hc ha hown hcell hh =>
      have hr2 : (AV.fs (Row.w A) (l.map Row.cells)) = .fs k rows := hr
      cases hr2
      refine ⟨some a, cap, by simp, fun i x hx => ?_⟩
      have hlt : i < l.length := (List.getElem?_eq_some_iff.1 hx).1
      have hs := ha (by simp; omega)
      obtain ⟨B, off, spot⟩ := a
      simp only at hs
      subst hs
      exact ⟨B, off, rfl, fun j c hj => ⟨cf i j, hcell i j c (rowB hx hj), hh i j c (rowB hx hj)⟩⟩
    | sc _ => cases hr
    | top => cases hr
    | agg _ _ _ => cases hr
    | tup _ _ => cases hr
    | ptr _ _ _ => cases hr
    | sl _ _ _ => cases hr
    | fptr _ _ _ _ => cases hr
    | fn _ _ => cases hr
theorem tt_impl_SymbolsText : PureOK Tryd.prog n_impl_SymbolsText (C1 (fun c : ByteArray => enc c) t_impl_SymbolsText) := by
  intro ds r hf X w vs hg hn hvs
  obtain ⟨l, z, rfl, ht, rfl⟩ := c1_inv hf
  obtain ⟨v, rfl⟩ := arr_one hn
  have hv := hvs 0 _ v rfl rfl
  unfold t_impl_SymbolsText at ht
  cases hl : decide ((l.getD []).length ≤ 4294967296) with
  | false => rw [hl, cond_false] at ht; cases ht
  | true =>
    rw [hl, cond_true] at ht
    have hl := of_decide_eq_true hl
    unfold CallF
    rw [callFunc_body hasSymB]
    show Calls Tryd.prog 15 _ w _
    have hval := valSysB hl hg hv
    cases ho : okSys (l.getD []) with
    | false =>
      rw [ho, cond_false] at ht
      cases ht
      rw [ho] at hval
      refine (symNoB v w hval).mono fun e w' ⟨h1, h2⟩ => ⟨_, h1, belowD_of h2, repN_sc rfl⟩
    | true =>
      rw [ho, cond_true] at ht
      cases ht
      rw [ho] at hval
      obtain ⟨base, cap, rfl, hc⟩ := slB hv
      refine (symWalkB (l.getD []) ho base cap w hg (fun k s hs => ?_) hval).mono fun e w' ⟨h1, h2⟩ => ⟨_, h1, belowD_of h2, repN_sc rfl⟩
      obtain ⟨B, off, hb, hcc⟩ := hc k s hs
      obtain ⟨u0, c0, r0⟩ := hcc 0 (sv s.label) rfl
      obtain ⟨u1, c1, r1⟩ := hcc 1 (iv s.box.x1) rfl
      obtain ⟨u2, c2, r2⟩ := hcc 2 (iv s.box.y1) rfl
      obtain ⟨u3, c3, r3⟩ := hcc 3 (iv s.box.x2) rfl
      obtain ⟨u4, c4, r4⟩ := hcc 4 (iv s.box.y2) rfl
      rw [rep_svB r0] at c0
      rw [rep_ivB r1] at c1
      rw [rep_ivB r2] at c2
      rw [rep_ivB r3] at c3
      rw [rep_ivB r4] at c4
      exact ⟨B, off, hb, c0, c1, c2, c3, c4⟩
end

section
open Go.Shelf Go.RowKit
theorem modNoB (x : Value) (d base : Value) (hx : x = .agg #[d, base]) (hd1 : d.oneCell' = true) (hb1 : base.oneCell' = true) (w : World) (hval : Calls Tryd.prog 29 #[x] (w.alloc (.cells #[d, base] 29)) fun e w' => e = .returned (.bool false) ∧ Below (w.heap.size + 1) (w.alloc (.cells #[d, base] 29)) w') :
    Calls Tryd.prog 10 #[x] w fun e w' => e = .returned (.string ⟨#[]⟩) ∧ Below w.heap.size w w' := by
  subst hx
  have mixed : Tryd.prog.follows .mixedOrders = true := by kernel_rfl
  go_enter Tryd.func10, Tryd.ntmps10
  go_wp2_with (go_at_call 29; refine hval.mono ?_)
  rintro e w1 ⟨rfl, b1⟩
  go_wp2
  go_ret
  exact ⟨rfl, ((Below.refl _ w).alloc (Nat.le_refl _) _).trans (b1.mono (by omega))⟩
theorem valModB {m : Model} {X : Nat → Prop} {w W : World} {v : Value} (hs : smallBigs m) (hg : Glob Tryd.prog w) (hb : Below w.heap.size w W) (hv : Rep (Own X RM.none) w RM.none (enc m) v) :
    Calls Tryd.prog 29 #[v] W fun e w' => e = .returned (.bool (modB m)) ∧ Below W.heap.size W w' := by
  have e0 : (C1 (fun c : Bool => enc c) t_impl_ValidModel) [enc m] = some (bv (modB m)) := by
    have : (C1 (fun c : Bool => enc c) t_impl_ValidModel) [enc m] = obind (t_impl_ValidModel m) fun c => some (enc c) := R1_enc _ _
    rw [this, implMod_ok hs]
    rfl
  have hv' : Rep (Own (fun b => X b ∨ w.heap.size ≤ b) RM.none) W RM.none (enc m) v := hv.mono (fun b hlt hn => ⟨fun hh => by
      rcases hh with (hh | hh) | ⟨x, i, e, _⟩
      · exact hn (.inl hh)
      · omega
      · exact absurd e (by simp [RM.none]), hb.block b hlt⟩) RM.none (fun o io e => by cases e)
  have hp := tt_impl_ValidModel [enc m] _ e0 _ W #[v] (glob_belowB hg hb) rfl (fun i d u h2 h3 => by
    match i, h2, h3 with
    | 0, h2, h3 => cases h2; cases h3; exact hv')
  refine (callsB hb_impl_ValidModel hp).mono fun e w' ⟨u, e1, e2, e3⟩ => ⟨?_, e2.toBelow⟩
  rw [e1, repN_bvB e3]
theorem rep_modelB {m : Model} {own : Nat → Prop} {w : World} {ρ : RM} {v : Value} (h : Rep own w ρ (enc m) v) : ∃ u, v = .agg #[.int .i64 m.default, u] ∧ Rep own w ρ (Sl.enc m.bigrams) u := by
  have e : (enc m : AV) = .agg [iv m.default, Sl.enc m.bigrams] := rfl
  rw [e] at h
  cases h with
  | @agg _ cs vs hf hn hh =>
    match vs, hn with
    | ⟨[a, u]⟩, _ =>
      have h0 := hh 0 _ a rfl rfl
      have h1 := hh 1 _ u rfl rfl
      cases rep_ivB h0
      exact ⟨u, rfl, h1⟩
theorem tt_impl_ModelText : PureOK Tryd.prog n_impl_ModelText (C1 (fun c : ByteArray => enc c) t_impl_ModelText) := by
  intro ds r hf X w vs hg hn hvs
  obtain ⟨m, z, rfl, ht, rfl⟩ := c1_inv hf
  obtain ⟨v, rfl⟩ := arr_one hn
  have hv := hvs 0 _ v rfl rfl
  unfold t_impl_ModelText at ht
  cases hl : fitBigs m with
  | false => rw [hl, cond_false] at ht; cases ht
  | true =>
    rw [hl, cond_true] at ht
    have hs := fitBigs_small hl
    unfold CallF
    rw [callFunc_body hasModB]
    show Calls Tryd.prog 10 _ w _
    obtain ⟨u, rfl, hu⟩ := rep_modelB hv
    obtain ⟨base, cap, rfl, hc⟩ := slB hu
    have hval := valModB (W := w.alloc (.cells #[.int .i64 m.default, .slice base (m.bigrams.getD []).length cap] 29)) hs hg ((Below.refl _ w).alloc (Nat.le_refl _) _) hv
    rw [show (w.alloc (.cells #[.int .i64 m.default, .slice base (m.bigrams.getD []).length cap] 29)).heap.size = w.heap.size + 1 by simp] at hval
    cases ho : modB m with
    | false =>
      rw [ho, cond_false] at ht
      cases ht
      rw [ho] at hval
      exact (modNoB _ _ _ rfl rfl rfl w hval).mono fun e w' ⟨h1, h2⟩ => ⟨_, h1, belowD_of h2, repN_sc rfl⟩
    | true =>
      rw [ho, cond_true] at ht
      cases ht
      rw [ho] at hval
      refine (modWalkB m (m.bigrams.getD []) rfl ho base cap w hg (fun k s hs => ?_) hval).mono fun e w' ⟨h1, h2⟩ => ⟨_, h1, belowD_of h2, repN_sc rfl⟩
      obtain ⟨B, off, hb, hcc⟩ := hc k s hs
      obtain ⟨u0, c0, r0⟩ := hcc 0 (sv s.first) rfl
      obtain ⟨u1, c1, r1⟩ := hcc 1 (sv s.second) rfl
      obtain ⟨u2, c2, r2⟩ := hcc 2 (iv s.cost) rfl
      rw [rep_svB r0] at c0
      rw [rep_svB r1] at c1
      rw [rep_ivB r2] at c2
      exact ⟨B, off, hb, c0, c1, c2⟩
end

section
open Go.Shelf Go.RowKit
/-- A decimal text of at most 18 digits. -/
def readDecB (s : ByteArray) : Int × Bool :=
  match Lib.parseIntB 64 s.data.toList with
  | .ok v => bif decide (1 ≤ (Lib.trimPrefix s.data.toList [45]).length) && (decide ((Lib.trimPrefix s.data.toList [45]).length ≤ 18) && decide (itS v = s)) then (v, true) else (0, false)
  | _ => (0, false)
def t_impl_ReadDecimal (s_ : ByteArray) : Option (Int × Bool) := bif decide (s_.size ≤ 4294967000) then some (readDecB s_) else none
theorem decB2 {n : Int} (h0 : -9223372036854775808 ≤ n) (h1 : n ≤ 9223372036854775807) {w : World} (hg : Glob Tryd.prog w) :
    Calls Tryd.prog 31 #[.int .i64 n] w fun e w' => e = .returned (.string (itS n)) ∧ Below w.heap.size w w' := by
  have e0 : (C1 (fun c : ByteArray => enc c) t_impl_Decimal) [iv n] = some (sv (itS n)) := by
    have : (C1 (fun c : ByteArray => enc c) t_impl_Decimal) [enc n] = obind (t_impl_Decimal n) fun c => some (enc c) := R1_enc _ _
    rw [show (iv n : AV) = enc n from rfl, this, decimal_ok h0 h1]
    rfl
  have hp := tt_impl_Decimal [iv n] _ e0 (fun _ => False) w #[.int .i64 n] hg rfl (fun i d v h2 h3 => by
    match i, h2, h3 with
    | 0, h2, h3 => cases h2; cases h3; exact .sc rfl)
  refine (callsB hb_impl_Decimal hp).mono fun e w' ⟨v, e1, e2, e3⟩ => ⟨?_, e2.toBelow⟩
  rw [e1, repN_svB e3]
theorem glob_err {w : World} (hg : Glob Tryd.prog w) : (∃ t p, w.cell? ⟨layPInt_ren.g 15, 0, none⟩ = some (.iface t p)) ∧ ∃ t p, w.cell? ⟨layPInt_ren.g 16, 0, none⟩ = some (.iface t p) := by
  have n1 : Tryd.prog.globalNamed "strconv.ErrSyntax" = some (layPInt_ren.g 15) := by kernel_rfl
  have n2 : Tryd.prog.globalNamed "strconv.ErrRange" = some (layPInt_ren.g 16) := by kernel_rfl
  have h1 := hg ("strconv.ErrSyntax", .u8, []) (by simp [libTabs]) _ n1
  have h2 := hg ("strconv.ErrRange", .u8, []) (by simp [libTabs]) _ n2
  constructor
  · rcases h1 with ⟨h, _⟩ | ⟨_, t, p, h⟩
    · cases h
    · exact ⟨t, p, by have h0 := World.var?_cell n1 h 0; simpa using h0⟩
  · rcases h2 with ⟨h, _⟩ | ⟨_, t, p, h⟩
    · cases h
    · exact ⟨t, p, by have h0 := World.var?_cell n2 h 0; simpa using h0⟩
set_option maxHeartbeats 4000000 in
theorem readDecWalk (s : ByteArray) (hs : s.size ≤ 4294967000) (w : World) (hg : Glob Tryd.prog w) :
    Calls Tryd.prog 44 #[.string s] w fun e w' => e = .returned (.tuple #[.int .i64 (readDecB s).1, .bool (readDecB s).2]) ∧ Below w.heap.size w w' := by
  have mixed : Tryd.prog.follows .mixedOrders = true := by kernel_rfl
  obtain ⟨D, hD⟩ : ∃ D, Lib.trimPrefix s.data.toList [45] = D := ⟨_, rfl⟩
  have ht : Calls Tryd.prog 47 #[.string s, .string ⟨#[45]⟩] w fun e w' => e = .returned (.string ⟨D.toArray⟩) ∧ w' = w := by
    rw [← hD]
    exact Any.strings_TrimPrefix layTrimP s ⟨#[45]⟩ w
  have hsz : (⟨D.toArray⟩ : ByteArray).size = D.length := rfl
  go_enter Tryd.func44, Tryd.ntmps44
  go_wp2_with (go_at_call 47; refine ht.mono ?_)
  rintro e w1 ⟨rfl, hw⟩
  obtain rfl : w = w1 := hw.symm
  have no : ¬ (1 ≤ D.length ∧ D.length ≤ 18) → readDecB s = (0, false) := fun h => by
    unfold readDecB
    rw [hD]
    cases Lib.parseIntB 64 s.data.toList with
    | ok v =>
      have : (decide (1 ≤ D.length) && (decide (D.length ≤ 18) && decide (itS v = s))) = false := by
        by_cases h1 : 1 ≤ D.length
        · rw [decide_eq_false (fun h2 => h ⟨h1, h2⟩ : ¬ D.length ≤ 18), Bool.false_and, Bool.and_false]
        · rw [decide_eq_false h1, Bool.false_and]
      simp only [this, cond_false]
    | range => rfl
    | _ => rfl
  by_cases h1 : D.length < 1
  · have a1 : ((D.length : Nat) : Int) < 1 := by omega
    go_wp2
    go_ret2
    rw [no (by omega)]
    exact ⟨rfl, Below.refl _ _⟩
  by_cases h2 : 18 < D.length
  · have a1 : ¬ ((D.length : Nat) : Int) < 1 := by omega
    have a2 : (18 : Int) < ((D.length : Nat) : Int) := by omega
    go_wp2
    go_ret2
    rw [no (by omega)]
    exact ⟨rfl, Below.refl _ _⟩
  have a1 : ¬ ((D.length : Nat) : Int) < 1 := by omega
  have a2 : ¬ (18 : Int) < ((D.length : Nat) : Int) := by omega
  obtain ⟨⟨t1, p1, e1⟩, t2, p2, e2⟩ := glob_err hg
  cases hp : Lib.parseIntB 64 s.data.toList with
  | range =>
    have hr : readDecB s = (0, false) := by unfold readDecB; rw [hp]
    have pc : Calls Tryd.prog 74 #[.string s, .int .i64 10, .int .i64 64] w fun e w' => ∃ n t x, e = .returned (.tuple #[.int .i64 n, .iface t x]) ∧ Below w.heap.size w w' := (Any.strconv_ParseInt_10_at64_range layPInt s (by omega) hp _ w e2 (.inr ⟨t2, p2, rfl⟩)).mono fun e w' ⟨N, h1, _, _, h2⟩ => ⟨_, _, _, h1, h2⟩
    go_wp2_with (go_at_call 74; refine pc.mono ?_)
    rintro e w2 ⟨n, t, x, rfl, b3⟩
    go_wp2
    go_ret2
    rw [hr]
    exact ⟨rfl, b3⟩
  | ok v =>
    have hv := Lib.parseIntB_bounds hp
    have hr : readDecB s = bif decide (itS v = s) then (v, true) else (0, false) := by
      unfold readDecB
      rw [hp, hD]
      have : (decide (1 ≤ D.length) && (decide (D.length ≤ 18) && decide (itS v = s))) = decide (itS v = s) := by
        rw [decide_eq_true (show 1 ≤ D.length by omega), decide_eq_true (show D.length ≤ 18 by omega)]
        rfl
      simp only [this]
    have pc : Calls Tryd.prog 74 #[.string s, .int .i64 10, .int .i64 64] w fun e w' => e = .returned (.tuple #[.int .i64 v, .nilIface]) ∧ Below w.heap.size w w' := (Any.strconv_ParseInt_10_at64_ok layPInt s (by omega) v hp w).mono fun e w' ⟨h1, h2⟩ => ⟨h1, by
      rcases h2 with rfl | ⟨t, rfl⟩
      · exact Below.refl _ _
      · exact Lib.bytesWorld_below _ _ _⟩
    go_wp2_with (go_at_call 74; refine pc.mono ?_)
    rintro e w2 ⟨rfl, b2⟩
    have dc := decB2 (n := v) (by omega) (by omega) (glob_belowB hg b2)
    go_wp2_with (go_at_call 31; refine dc.mono ?_)
    rintro e w3 ⟨rfl, b3⟩
    have b4 : Below w.heap.size w w3 := b2.trans (b3.mono b2.size)
    cases he : (itS v).toList == s.toList with
    | true =>
      have hq : itS v = s := toList_inj.1 (eq_of_beq he)
      go_wp2
      go_ret2
      rw [hr, decide_eq_true hq]
      exact ⟨rfl, b4⟩
    | false =>
      have hq : ¬ itS v = s := fun h => by rw [h] at he; simp at he
      go_wp2
      go_ret2
      rw [hr, decide_eq_false hq]
      exact ⟨rfl, b4⟩
  | _ =>
    have hr : readDecB s = (0, false) := by unfold readDecB; rw [hp]
    have pc : Calls Tryd.prog 74 #[.string s, .int .i64 10, .int .i64 64] w fun e w' => ∃ t x, e = .returned (.tuple #[.int .i64 0, .iface t x]) ∧ Below w.heap.size w w' := (Any.strconv_ParseInt_10_at64_syntax layPInt s (by omega) hp _ w e1 (.inr ⟨t1, p1, rfl⟩)).mono fun e w' ⟨N, h1, _, _, h2⟩ => ⟨_, _, h1, h2⟩
    go_wp2_with (go_at_call 74; refine pc.mono ?_)
    rintro e w2 ⟨t, x, rfl, b3⟩
    go_wp2
    go_ret2
    rw [hr]
    exact ⟨rfl, b3⟩
end

section
open Go.Shelf Go.RowKit
theorem hasReadDec : HasBody Tryd.prog 44 := ⟨Tryd.f44, _, Tryd.func44, rfl, rfl⟩
theorem repN_tupB {X : Nat → Prop} {B : Nat} {w : World} {n : Int} {b : Bool} : RepN X B w (.tup [iv n, bv b]) (.tuple #[.int .i64 n, .bool b]) := by
  refine ⟨RM.none, (fun o io e => by cases e), fun base => ⟨(fun o io e => by cases e), fun H _ => ?_⟩⟩
  have hs : sh base RM.none = RM.none := by
    funext o
    unfold sh RM.none
    split <;> rfl
  rw [hs]
  refine ⟨⟨fun o io e => (by cases e), fun o o' io io' e => (by cases e)⟩, ?_⟩
  exact .tup rfl fun i c v h1 h2 => by
    match i, h1, h2 with
    | 0, h1, h2 => cases h1; cases h2; exact .sc rfl
    | 1, h1, h2 => cases h1; cases h2; exact .sc rfl
theorem tt_impl_ReadDecimal : PureOK Tryd.prog n_impl_ReadDecimal (C1 (fun c : Int × Bool => AV.tup [enc c.1, enc c.2]) t_impl_ReadDecimal) := by
  intro ds r hf X w vs hg hn hvs
  obtain ⟨s, z, rfl, ht, rfl⟩ := c1_inv hf
  obtain ⟨v, rfl⟩ := arr_one hn
  cases rep_svB (hvs 0 _ v rfl rfl)
  unfold t_impl_ReadDecimal at ht
  cases c : decide (s.size ≤ 4294967000) with
  | false => rw [c] at ht; cases ht
  | true =>
    rw [c] at ht
    cases ht
    refine callsB0 hasReadDec ((readDecWalk s (of_decide_eq_true c) w hg).mono fun e w' ⟨h1, h2⟩ => ⟨_, h1, belowD0 h2, repN_tupB⟩)
end

def t_internal_stringslite_HasSuffix (s_ : ByteArray) (suffix_ : ByteArray) : Option Bool :=
  obind (bif decide ((suffix_.size : Int) ≤ (s_.size : Int)) then (obind (subB s_ (some (wr ((s_.size : Int) - (suffix_.size : Int)))) none) fun s2 => some (decide (s2 = suffix_))) else some false) fun c3 =>
  some (bif decide ((suffix_.size : Int) ≤ (s_.size : Int)) then c3 else false)

theorem ts_internal_stringslite_HasSuffix (env : Nat → Contract)  (s_ : ByteArray) (suffix_ : ByteArray) : Sim (denFn Tryd.prog env n_internal_stringslite_HasSuffix [sv s_, sv suffix_] []) (t_internal_stringslite_HasSuffix s_ suffix_) fun c p => release p.2 depth p.1 = some ((fun c : Bool => enc c) c) := by
  have O := Hold.nil []
  generalize hB : (⟨[], []⟩ : Base) = B at O
  clear hB
  rw [e_internal_stringslite_HasSuffix]
  unfold t_internal_stringslite_HasSuffix
  refine sim_let (v := iv (s_.size : Int)) rfl ?_
  refine sim_let (v := iv (suffix_.size : Int)) rfl ?_
  refine sim_let (v := bv (decide ((suffix_.size : Int) ≤ (s_.size : Int)))) (aBin_geq _ _) ?_
  refine sim_guardT (e := bv) (fun hb1 => ?_) (fun c3 => ?_)
  · refine sim_let (v := iv (s_.size : Int)) rfl ?_
    refine sim_let (v := iv (suffix_.size : Int)) rfl ?_
    refine sim_let (v := iv (wr ((s_.size : Int) - (suffix_.size : Int)))) (aBin_sub _ _) ?_
    refine sim_subB10 (fun s2 => ?_)
    refine sim_let (v := bv (decide (s2 = suffix_))) (aCmp_eqS _ _) ?_
    exact sim_ret rfl
  · refine sim_let (v := bv (bif decide ((suffix_.size : Int) ≤ (s_.size : Int)) then c3 else false)) (pick_b _ _ _) ?_
    exact sim_ret (release_plain (by rfl) _)
theorem tt_internal_stringslite_HasSuffix : PureOK Tryd.prog n_internal_stringslite_HasSuffix (C2 (fun c : Bool => enc c) t_internal_stringslite_HasSuffix) := pureC2 E0 mixed hb_internal_stringslite_HasSuffix fun s_ suffix_ => ts_internal_stringslite_HasSuffix _  s_ suffix_

def t_strings_HasSuffix (s_ : ByteArray) (suffix_ : ByteArray) : Option Bool :=
  obind (t_internal_stringslite_HasSuffix s_ suffix_) fun c1 =>
  some c1

theorem ts_strings_HasSuffix (env : Nat → Contract) (he_internal_stringslite_HasSuffix : env n_internal_stringslite_HasSuffix = .pure (C2 (fun c : Bool => enc c) t_internal_stringslite_HasSuffix)) (s_ : ByteArray) (suffix_ : ByteArray) : Sim (denFn Tryd.prog env n_strings_HasSuffix [sv s_, sv suffix_] []) (t_strings_HasSuffix s_ suffix_) fun c p => release p.2 depth p.1 = some ((fun c : Bool => enc c) c) := by
  have O := Hold.nil []
  generalize hB : (⟨[], []⟩ : Base) = B at O
  clear hB
  rw [e_strings_HasSuffix]
  unfold t_strings_HasSuffix
  refine sim_call2 he_internal_stringslite_HasSuffix (snapD_str _ _) (snapD_str _ _) (fun c1 => ?_)
  refine sim_let2 (hand_plain (by rfl) _ _) ?_
  exact sim_ret (release_plain (by rfl) _)
theorem tt_strings_HasSuffix : PureOK Tryd.prog n_strings_HasSuffix (C2 (fun c : Bool => enc c) t_strings_HasSuffix) := pureC2 (Econs tt_internal_stringslite_HasSuffix E0) mixed hb_strings_HasSuffix fun s_ suffix_ => ts_strings_HasSuffix _ (by simp [envL]) s_ suffix_

def t_internal_stringslite_TrimSuffix (s_ : ByteArray) (suffix_ : ByteArray) : Option ByteArray :=
  obind (t_internal_stringslite_HasSuffix s_ suffix_) fun c1 =>
  bif c1 then
    obind (subB s_ none (some (wr ((s_.size : Int) - (suffix_.size : Int))))) fun s3 =>
    some s3
  else
    some s_

theorem ts_internal_stringslite_TrimSuffix (env : Nat → Contract) (he_internal_stringslite_HasSuffix : env n_internal_stringslite_HasSuffix = .pure (C2 (fun c : Bool => enc c) t_internal_stringslite_HasSuffix)) (s_ : ByteArray) (suffix_ : ByteArray) : Sim (denFn Tryd.prog env n_internal_stringslite_TrimSuffix [sv s_, sv suffix_] []) (t_internal_stringslite_TrimSuffix s_ suffix_) fun c p => release p.2 depth p.1 = some ((fun c : ByteArray => enc c) c) := by
  have O := Hold.nil []
  generalize hB : (⟨[], []⟩ : Base) = B at O
  clear hB
  rw [e_internal_stringslite_TrimSuffix]
  unfold t_internal_stringslite_TrimSuffix
  refine sim_call2 he_internal_stringslite_HasSuffix (snapD_str _ _) (snapD_str _ _) (fun c1 => ?_)
  refine sim_let2 (hand_plain (by rfl) _ _) ?_
  refine sim_cond (fun c2 => ?_) (fun c2 => ?_)
  · refine sim_let (v := iv (s_.size : Int)) rfl ?_
    refine sim_let (v := iv (suffix_.size : Int)) rfl ?_
    refine sim_let (v := iv (wr ((s_.size : Int) - (suffix_.size : Int)))) (aBin_sub _ _) ?_
    refine sim_subB01 (fun s3 => ?_)
    exact sim_ret (release_plain (by rfl) _)
  · exact sim_ret (release_plain (by rfl) _)
theorem tt_internal_stringslite_TrimSuffix : PureOK Tryd.prog n_internal_stringslite_TrimSuffix (C2 (fun c : ByteArray => enc c) t_internal_stringslite_TrimSuffix) := pureC2 (Econs tt_internal_stringslite_HasSuffix E0) mixed hb_internal_stringslite_TrimSuffix fun s_ suffix_ => ts_internal_stringslite_TrimSuffix _ (by simp [envL]) s_ suffix_

def t_strings_TrimSuffix (s_ : ByteArray) (suffix_ : ByteArray) : Option ByteArray :=
  obind (t_internal_stringslite_TrimSuffix s_ suffix_) fun c1 =>
  some c1

theorem ts_strings_TrimSuffix (env : Nat → Contract) (he_internal_stringslite_TrimSuffix : env n_internal_stringslite_TrimSuffix = .pure (C2 (fun c : ByteArray => enc c) t_internal_stringslite_TrimSuffix)) (s_ : ByteArray) (suffix_ : ByteArray) : Sim (denFn Tryd.prog env n_strings_TrimSuffix [sv s_, sv suffix_] []) (t_strings_TrimSuffix s_ suffix_) fun c p => release p.2 depth p.1 = some ((fun c : ByteArray => enc c) c) := by
  have O := Hold.nil []
  generalize hB : (⟨[], []⟩ : Base) = B at O
  clear hB
  rw [e_strings_TrimSuffix]
  unfold t_strings_TrimSuffix
  refine sim_call2 he_internal_stringslite_TrimSuffix (snapD_str _ _) (snapD_str _ _) (fun c1 => ?_)
  refine sim_let2 (hand_plain (by rfl) _ _) ?_
  exact sim_ret (release_plain (by rfl) _)
theorem tt_strings_TrimSuffix : PureOK Tryd.prog n_strings_TrimSuffix (C2 (fun c : ByteArray => enc c) t_strings_TrimSuffix) := pureC2 (Econs tt_internal_stringslite_TrimSuffix E0) mixed hb_strings_TrimSuffix fun s_ suffix_ => ts_strings_TrimSuffix _ (by simp [envL]) s_ suffix_

def t_impl_linesOf (s_ : ByteArray) : Option ((Sl ByteArray) × Bool) :=
  bif decide (s_ = (⟨#[]⟩ : ByteArray)) then
    some ((none : Sl ByteArray), true)
  else
    obind (t_strings_HasSuffix s_ (⟨#[10]⟩ : ByteArray)) fun c2 =>
    bif !c2 then
      some ((none : Sl ByteArray), false)
    else
      obind (t_strings_TrimSuffix s_ (⟨#[10]⟩ : ByteArray)) fun c4 =>
      obind (splitO c4 (⟨#[10]⟩ : ByteArray)) fun c5 =>
      some (c5, true)

theorem ts_impl_linesOf (env : Nat → Contract) (he_strings_HasSuffix : env n_strings_HasSuffix = .pure (C2 (fun c : Bool => enc c) t_strings_HasSuffix)) (he_strings_Split : env n_strings_Split = .pure (C2 (fun c : Sl ByteArray => rS c) splitO)) (he_strings_TrimSuffix : env n_strings_TrimSuffix = .pure (C2 (fun c : ByteArray => enc c) t_strings_TrimSuffix)) (s_ : ByteArray) : Sim (denFn Tryd.prog env n_impl_linesOf [sv s_] []) (t_impl_linesOf s_) fun c p => release p.2 depth p.1 = some ((fun c : (Sl ByteArray) × Bool => AV.tup [rS c.1, enc c.2]) c) := by
  have O := Hold.nil []
  generalize hB : (⟨[], []⟩ : Base) = B at O
  clear hB
  rw [e_impl_linesOf]
  unfold t_impl_linesOf
  refine sim_let (v := bv (decide (s_ = (⟨#[]⟩ : ByteArray)))) (aCmp_eqS _ _) ?_
  refine sim_cond (fun c1 => ?_) (fun c1 => ?_)
  · exact sim_ret (release_plain (by rfl) _)
  · refine sim_call2 he_strings_HasSuffix (snapD_str _ _) (snapD_str _ _) (fun c2 => ?_)
    refine sim_let2 (hand_plain (by rfl) _ _) ?_
    refine sim_let (v := bv (!c2)) (aUn_not _) ?_
    refine sim_cond (fun c3 => ?_) (fun c3 => ?_)
    · exact sim_ret (release_plain (by rfl) _)
    · refine sim_call2 he_strings_TrimSuffix (snapD_str _ _) (snapD_str _ _) (fun c4 => ?_)
      refine sim_let2 (hand_plain (by rfl) _ _) ?_
      refine sim_call2 he_strings_Split (snapD_str _ _) (snapD_str _ _) (fun c5 => ?_)
      refine sim_hand (A := ByteArray) O (fun x7 h8 O9 => ?_)
      replace O9 : Hold B h8 [(x7, obS (c5 : Sl ByteArray))] := O9
      have O10 : Hold B h8 [(x7, obS (c5 : Sl ByteArray))] := O9.sel [0] (by decide) rfl
      exact sim_ret (release_of (by simp only [ids_tup, ids_aggD, ids_agg, ids_iv, ids_bv, ids_sv, ids_bt, ids_nilS, ids_enc, O10.idsD (A := ByteArray) (s := c5) 0 rfl, List.map_append, List.map_nil, List.flatMap_cons, List.flatMap_nil, List.append_nil, List.nil_append]; simpa only [List.flatMap_cons, List.flatMap_nil, List.append_nil, List.nil_append] using O10.nd2) (by simp only [rel_tup, rel_aggD, rel_agg, rel_iv, rel_bv, rel_sv, rel_bt, rel_nilS, rel_enc, O10.relD (A := ByteArray) (s := c5) 0 rfl, omapc, omapn, obind_sm] <;> rfl))
theorem tt_impl_linesOf : PureOK Tryd.prog n_impl_linesOf (C1 (fun c : (Sl ByteArray) × Bool => AV.tup [rS c.1, enc c.2]) t_impl_linesOf) := pureC1 (Econs tt_strings_HasSuffix (Econs tt_strings_Split (Econs tt_strings_TrimSuffix E0))) mixed hb_impl_linesOf fun s_ => ts_impl_linesOf _ (by simp [envL]) (by simp [envL]) (by simp [envL]) s_

def t_impl_wordsOf (s_ : ByteArray) : Option (Sl ByteArray) :=
  obind (splitO s_ (⟨#[32]⟩ : ByteArray)) fun c1 =>
  some c1

theorem ts_impl_wordsOf (env : Nat → Contract) (he_strings_Split : env n_strings_Split = .pure (C2 (fun c : Sl ByteArray => rS c) splitO)) (s_ : ByteArray) : Sim (denFn Tryd.prog env n_impl_wordsOf [sv s_] []) (t_impl_wordsOf s_) fun c p => release p.2 depth p.1 = some ((fun c : (Sl ByteArray) => rS c) c) := by
  have O := Hold.nil []
  generalize hB : (⟨[], []⟩ : Base) = B at O
  clear hB
  rw [e_impl_wordsOf]
  unfold t_impl_wordsOf
  refine sim_call2 he_strings_Split (snapD_str _ _) (snapD_str _ _) (fun c1 => ?_)
  refine sim_hand (A := ByteArray) O (fun x3 h4 O5 => ?_)
  replace O5 : Hold B h4 [(x3, obS (c1 : Sl ByteArray))] := O5
  exact sim_ret (O5.rel (A := ByteArray) (s := c1) 0 rfl)
theorem tt_impl_wordsOf : PureOK Tryd.prog n_impl_wordsOf (C1 (fun c : (Sl ByteArray) => rS c) t_impl_wordsOf) := pureC1 (Econs tt_strings_Split E0) mixed hb_impl_wordsOf fun s_ => ts_impl_wordsOf _ (by simp [envL]) s_

def t_internal_stringslite_HasPrefix (s_ : ByteArray) (prefix_ : ByteArray) : Option Bool :=
  obind (bif decide ((prefix_.size : Int) ≤ (s_.size : Int)) then (obind (subB s_ none (some (prefix_.size : Int))) fun s2 => some (decide (s2 = prefix_))) else some false) fun c3 =>
  some (bif decide ((prefix_.size : Int) ≤ (s_.size : Int)) then c3 else false)

theorem ts_internal_stringslite_HasPrefix (env : Nat → Contract)  (s_ : ByteArray) (prefix_ : ByteArray) : Sim (denFn Tryd.prog env n_internal_stringslite_HasPrefix [sv s_, sv prefix_] []) (t_internal_stringslite_HasPrefix s_ prefix_) fun c p => release p.2 depth p.1 = some ((fun c : Bool => enc c) c) := by
  have O := Hold.nil []
  generalize hB : (⟨[], []⟩ : Base) = B at O
  clear hB
  rw [e_internal_stringslite_HasPrefix]
  unfold t_internal_stringslite_HasPrefix
  refine sim_let (v := iv (s_.size : Int)) rfl ?_
  refine sim_let (v := iv (prefix_.size : Int)) rfl ?_
  refine sim_let (v := bv (decide ((prefix_.size : Int) ≤ (s_.size : Int)))) (aBin_geq _ _) ?_
  refine sim_guardT (e := bv) (fun hb1 => ?_) (fun c3 => ?_)
  · refine sim_let (v := iv (prefix_.size : Int)) rfl ?_
    refine sim_subB01 (fun s2 => ?_)
    refine sim_let (v := bv (decide (s2 = prefix_))) (aCmp_eqS _ _) ?_
    exact sim_ret rfl
  · refine sim_let (v := bv (bif decide ((prefix_.size : Int) ≤ (s_.size : Int)) then c3 else false)) (pick_b _ _ _) ?_
    exact sim_ret (release_plain (by rfl) _)
theorem tt_internal_stringslite_HasPrefix : PureOK Tryd.prog n_internal_stringslite_HasPrefix (C2 (fun c : Bool => enc c) t_internal_stringslite_HasPrefix) := pureC2 E0 mixed hb_internal_stringslite_HasPrefix fun s_ prefix_ => ts_internal_stringslite_HasPrefix _  s_ prefix_

def t_internal_stringslite_TrimPrefix (s_ : ByteArray) (prefix_ : ByteArray) : Option ByteArray :=
  obind (t_internal_stringslite_HasPrefix s_ prefix_) fun c1 =>
  bif c1 then
    obind (subB s_ (some (prefix_.size : Int)) none) fun s3 =>
    some s3
  else
    some s_

theorem ts_internal_stringslite_TrimPrefix (env : Nat → Contract) (he_internal_stringslite_HasPrefix : env n_internal_stringslite_HasPrefix = .pure (C2 (fun c : Bool => enc c) t_internal_stringslite_HasPrefix)) (s_ : ByteArray) (prefix_ : ByteArray) : Sim (denFn Tryd.prog env n_internal_stringslite_TrimPrefix [sv s_, sv prefix_] []) (t_internal_stringslite_TrimPrefix s_ prefix_) fun c p => release p.2 depth p.1 = some ((fun c : ByteArray => enc c) c) := by
  have O := Hold.nil []
  generalize hB : (⟨[], []⟩ : Base) = B at O
  clear hB
  rw [e_internal_stringslite_TrimPrefix]
  unfold t_internal_stringslite_TrimPrefix
  refine sim_call2 he_internal_stringslite_HasPrefix (snapD_str _ _) (snapD_str _ _) (fun c1 => ?_)
  refine sim_let2 (hand_plain (by rfl) _ _) ?_
  refine sim_cond (fun c2 => ?_) (fun c2 => ?_)
  · refine sim_let (v := iv (prefix_.size : Int)) rfl ?_
    refine sim_subB10 (fun s3 => ?_)
    exact sim_ret (release_plain (by rfl) _)
  · exact sim_ret (release_plain (by rfl) _)
theorem tt_internal_stringslite_TrimPrefix : PureOK Tryd.prog n_internal_stringslite_TrimPrefix (C2 (fun c : ByteArray => enc c) t_internal_stringslite_TrimPrefix) := pureC2 (Econs tt_internal_stringslite_HasPrefix E0) mixed hb_internal_stringslite_TrimPrefix fun s_ prefix_ => ts_internal_stringslite_TrimPrefix _ (by simp [envL]) s_ prefix_

def t_strings_TrimPrefix (s_ : ByteArray) (prefix_ : ByteArray) : Option ByteArray :=
  obind (t_internal_stringslite_TrimPrefix s_ prefix_) fun c1 =>
  some c1

theorem ts_strings_TrimPrefix (env : Nat → Contract) (he_internal_stringslite_TrimPrefix : env n_internal_stringslite_TrimPrefix = .pure (C2 (fun c : ByteArray => enc c) t_internal_stringslite_TrimPrefix)) (s_ : ByteArray) (prefix_ : ByteArray) : Sim (denFn Tryd.prog env n_strings_TrimPrefix [sv s_, sv prefix_] []) (t_strings_TrimPrefix s_ prefix_) fun c p => release p.2 depth p.1 = some ((fun c : ByteArray => enc c) c) := by
  have O := Hold.nil []
  generalize hB : (⟨[], []⟩ : Base) = B at O
  clear hB
  rw [e_strings_TrimPrefix]
  unfold t_strings_TrimPrefix
  refine sim_call2 he_internal_stringslite_TrimPrefix (snapD_str _ _) (snapD_str _ _) (fun c1 => ?_)
  refine sim_let2 (hand_plain (by rfl) _ _) ?_
  exact sim_ret (release_plain (by rfl) _)
theorem tt_strings_TrimPrefix : PureOK Tryd.prog n_strings_TrimPrefix (C2 (fun c : ByteArray => enc c) t_strings_TrimPrefix) := pureC2 (Econs tt_internal_stringslite_TrimPrefix E0) mixed hb_strings_TrimPrefix fun s_ prefix_ => ts_strings_TrimPrefix _ (by simp [envL]) s_ prefix_

def s0_impl_ReadModel (c5 : (Sl ByteArray) × Bool) : (Int × (Sl Bigram) × Int) → Option (Sum (Int × (Sl Bigram) × Int) (Sum (Int × (Sl Bigram)) Bool)) := fun (w19, w21, w24) =>
  bif decide (w24 < (((c5.1.getD []).length : Nat) : Int)) then
    obind (getI (c5.1.getD []) w24) fun a58 =>
    obind (t_impl_wordsOf a58) fun c62 =>
    obind (bif decide (w24 = 0) then (some (decide ((((c62.getD []).length : Nat) : Int) = 2))) else some false) fun c68 =>
    bif (bif decide (w24 = 0) then c68 else false) then
      obind (getI (c62.getD []) 1) fun a70 =>
      obind (t_impl_ReadDecimal a70) fun c74 =>
      some (.inl (c74.1, w21, wr (w24 + 1)))
    else
      obind (bif decide (0 < w24) then (some (decide ((((c62.getD []).length : Nat) : Int) = 3))) else some false) fun c79 =>
      bif (bif decide (0 < w24) then c79 else false) then
        obind (getI (c62.getD []) 2) fun a81 =>
        obind (t_impl_ReadDecimal a81) fun c85 =>
        obind (getI (c62.getD []) 0) fun a86 =>
        obind (t_strings_TrimPrefix a86 (⟨#[45]⟩ : ByteArray)) fun c90 =>
        obind (getI (c62.getD []) 1) fun a91 =>
        obind (appO w21 ([(⟨c90, a91, c85.1⟩ : Bigram)] : List Bigram)) fun _ =>
        some (.inl (w19, (appS w21 ([(⟨c90, a91, c85.1⟩ : Bigram)] : List Bigram)), wr (w24 + 1)))
      else
        some (.inr (.inr false))
  else
    some (.inr (.inl (w19, w21)))
def t_impl_ReadModel (s_ : ByteArray) : Option (Model × Bool) :=
  obind (t_impl_linesOf s_) fun c5 =>
  bif !c5.2 then
    some ((⟨0, (none : Sl Bigram)⟩ : Model), false)
  else
    obind (loopT (s0_impl_ReadModel c5) (0, (none : Sl Bigram), 0)) fun qq113 => match qq113 with
    | (.inl (q27, q29)) =>
        obind (t_impl_ValidModel (⟨q27, q29⟩ : Model)) fun c36 =>
        obind (bif !c36 then some false else (obind (t_impl_ModelText (⟨q27, q29⟩ : Model)) fun c38 => some (!decide (c38 = s_)))) fun c39 =>
        bif (bif !c36 then true else c39) then
          some ((⟨0, (none : Sl Bigram)⟩ : Model), false)
        else
          some ((⟨q27, q29⟩ : Model), true)
    | (.inr q51) =>
        some ((⟨0, (none : Sl Bigram)⟩ : Model), q51)

theorem tl0_impl_ReadModel (env : Nat → Contract) {B : Base} (he_impl_ModelText : env n_impl_ModelText = .pure (C1 (fun c : ByteArray => enc c) t_impl_ModelText)) (he_impl_ReadDecimal : env n_impl_ReadDecimal = .pure (C1 (fun c : Int × Bool => AV.tup [enc c.1, enc c.2]) t_impl_ReadDecimal)) (he_impl_ValidModel : env n_impl_ValidModel = .pure (C1 (fun c : Bool => enc c) t_impl_ValidModel)) (he_impl_linesOf : env n_impl_linesOf = .pure (C1 (fun c : (Sl ByteArray) × Bool => AV.tup [rS c.1, enc c.2]) t_impl_linesOf)) (he_impl_wordsOf : env n_impl_wordsOf = .pure (C1 (fun c : (Sl ByteArray) => rS c) t_impl_wordsOf)) (he_strings_TrimPrefix : env n_strings_TrimPrefix = .pure (C2 (fun c : ByteArray => enc c) t_strings_TrimPrefix)) (s_ : ByteArray) (o1 : Nat) (c5 : (Sl ByteArray) × Bool) (x7 : AV) (o13 : Nat)  {st : Int × (Sl Bigram) × Int} {tm : TM} {h : Heap} (R : (fun (st : Int × (Sl Bigram) × Int) tm h22 => match st with | (w19, w21, w24) => ∃ z20, tm = ((sv s_) :: und :: (AV.ptr o1 1 0 0) :: AV.top :: x7 :: (bv c5.2) :: (AV.ptr o13 1 0 0) :: AV.top :: AV.top :: AV.top :: AV.top :: AV.top :: (AV.tup [x7, bv c5.2]) :: (sv s_) :: (AV.tup [x7, bv c5.2]) :: x7 :: (bv c5.2) :: (bv c5.2) :: (bv (!c5.2)) :: und :: x7 :: (iv (((c5.1.getD []).length : Nat) : Int)) :: (iv w24) :: AV.top :: AV.top :: AV.top :: AV.top :: AV.top :: AV.top :: AV.top :: AV.top :: AV.top :: AV.top :: AV.top :: AV.top :: AV.top :: AV.top :: AV.top :: AV.top :: AV.top :: AV.top :: AV.top :: AV.top :: AV.top :: AV.top :: AV.top :: AV.top :: AV.top :: AV.top :: AV.top :: AV.top :: AV.top :: AV.top :: AV.top :: AV.top :: AV.top :: AV.top :: AV.top :: AV.top :: AV.top :: AV.top :: AV.top :: AV.top :: AV.top :: AV.top :: AV.top :: AV.top :: AV.top :: AV.top :: AV.top :: AV.top :: AV.top :: AV.top :: AV.top :: AV.top :: AV.top :: und :: und :: und :: und :: und :: und :: und :: und :: und :: und :: und :: []) ∧ Hold B h22 [(AV.ptr o1 1 0 0, .pt 2 [iv 0, nilS]), (x7, obS (c5.1 : Sl ByteArray)), (AV.ptr o13 1 0 0, .pt 2 [iv w19, z20]), (z20, obS (w21 : Sl Bigram))]) st tm h) : Sim (loopP hm0_impl_ReadModel xm0_impl_ReadModel (lb0_impl_ReadModel env) tm h) (loopT (s0_impl_ReadModel c5) st) (fun (q : Sum (Int × (Sl Bigram)) Bool) (r : Res) => match q with | .inl (q27, q29) => ∃ (z28 : AV) (z30 : AV) (z31 : AV) (z32 : AV) (z33 : AV) (z34 : AV) (z35 : AV) (h25 : Heap), r = (.exit 0, ((sv s_) :: und :: (AV.ptr o1 1 0 0) :: z30 :: x7 :: (bv c5.2) :: (AV.ptr o13 1 0 0) :: z31 :: z32 :: z33 :: z34 :: z35 :: (AV.tup [x7, bv c5.2]) :: (sv s_) :: (AV.tup [x7, bv c5.2]) :: x7 :: (bv c5.2) :: (bv c5.2) :: (bv (!c5.2)) :: und :: x7 :: (iv (((c5.1.getD []).length : Nat) : Int)) :: AV.top :: AV.top :: AV.top :: AV.top :: AV.top :: AV.top :: AV.top :: AV.top :: AV.top :: AV.top :: AV.top :: AV.top :: AV.top :: AV.top :: AV.top :: AV.top :: AV.top :: AV.top :: AV.top :: AV.top :: AV.top :: AV.top :: AV.top :: AV.top :: AV.top :: AV.top :: AV.top :: AV.top :: AV.top :: AV.top :: AV.top :: AV.top :: AV.top :: AV.top :: AV.top :: AV.top :: AV.top :: AV.top :: AV.top :: AV.top :: AV.top :: AV.top :: AV.top :: AV.top :: AV.top :: AV.top :: AV.top :: AV.top :: AV.top :: AV.top :: AV.top :: AV.top :: AV.top :: AV.top :: und :: und :: und :: und :: und :: und :: und :: und :: und :: und :: und :: []), h25) ∧ Hold B h25 [(AV.ptr o1 1 0 0, .pt 2 [iv 0, nilS]), (x7, obS (c5.1 : Sl ByteArray)), (AV.ptr o13 1 0 0, .pt 2 [iv q27, z28]), (z28, obS (q29 : Sl Bigram))] | .inr q51 => ∃ (q48 : Int) (q50 : Sl Bigram) (q52 : Int) (q53 : ByteArray) (z49 : AV) (z54 : AV) (z55 : AV) (z56 : AV) (h46 : Heap), r = (.ret, ((sv s_) :: und :: (AV.ptr o1 1 0 0) :: (bv q51) :: x7 :: (bv c5.2) :: (AV.ptr o13 1 0 0) :: (iv q52) :: (sv q53) :: z54 :: z55 :: z56 :: (AV.tup [x7, bv c5.2]) :: (sv s_) :: (AV.tup [x7, bv c5.2]) :: x7 :: (bv c5.2) :: (bv c5.2) :: (bv (!c5.2)) :: und :: x7 :: (iv (((c5.1.getD []).length : Nat) : Int)) :: AV.top :: AV.top :: AV.top :: AV.top :: AV.top :: AV.top :: AV.top :: AV.top :: AV.top :: AV.top :: AV.top :: AV.top :: AV.top :: AV.top :: AV.top :: AV.top :: AV.top :: AV.top :: AV.top :: AV.top :: AV.top :: AV.top :: AV.top :: AV.top :: AV.top :: AV.top :: AV.top :: AV.top :: AV.top :: AV.top :: AV.top :: AV.top :: AV.top :: AV.top :: AV.top :: AV.top :: AV.top :: AV.top :: AV.top :: AV.top :: AV.top :: AV.top :: AV.top :: AV.top :: AV.top :: AV.top :: AV.top :: AV.top :: AV.top :: AV.top :: AV.top :: AV.top :: AV.top :: AV.top :: und :: und :: und :: und :: und :: und :: und :: und :: und :: und :: und :: []), h46) ∧ Hold B h46 [(AV.ptr o1 1 0 0, .pt 2 [iv 0, nilS]), (x7, obS (c5.1 : Sl ByteArray)), (AV.ptr o13 1 0 0, .pt 2 [iv q48, z49]), (z49, obS (q50 : Sl Bigram))]) := by
  refine loop_sim (Rel := fun (st : Int × (Sl Bigram) × Int) tm h22 => match st with | (w19, w21, w24) => ∃ z20, tm = ((sv s_) :: und :: (AV.ptr o1 1 0 0) :: AV.top :: x7 :: (bv c5.2) :: (AV.ptr o13 1 0 0) :: AV.top :: AV.top :: AV.top :: AV.top :: AV.top :: (AV.tup [x7, bv c5.2]) :: (sv s_) :: (AV.tup [x7, bv c5.2]) :: x7 :: (bv c5.2) :: (bv c5.2) :: (bv (!c5.2)) :: und :: x7 :: (iv (((c5.1.getD []).length : Nat) : Int)) :: (iv w24) :: AV.top :: AV.top :: AV.top :: AV.top :: AV.top :: AV.top :: AV.top :: AV.top :: AV.top :: AV.top :: AV.top :: AV.top :: AV.top :: AV.top :: AV.top :: AV.top :: AV.top :: AV.top :: AV.top :: AV.top :: AV.top :: AV.top :: AV.top :: AV.top :: AV.top :: AV.top :: AV.top :: AV.top :: AV.top :: AV.top :: AV.top :: AV.top :: AV.top :: AV.top :: AV.top :: AV.top :: AV.top :: AV.top :: AV.top :: AV.top :: AV.top :: AV.top :: AV.top :: AV.top :: AV.top :: AV.top :: AV.top :: AV.top :: AV.top :: AV.top :: AV.top :: AV.top :: AV.top :: und :: und :: und :: und :: und :: und :: und :: und :: und :: und :: und :: []) ∧ Hold B h22 [(AV.ptr o1 1 0 0, .pt 2 [iv 0, nilS]), (x7, obS (c5.1 : Sl ByteArray)), (AV.ptr o13 1 0 0, .pt 2 [iv w19, z20]), (z20, obS (w21 : Sl Bigram))]) (fun st tm h22 R => ?_) R
  obtain ⟨w19, w21, w24⟩ := st
  obtain ⟨z20, rfl, O23⟩ := R
  rw [e_lb0_impl_ReadModel]
  unfold s0_impl_ReadModel
  dsimp only
  refine sim_let (v := bv (decide (w24 < (((c5.1.getD []).length : Nat) : Int)))) (aBin_lss _ _) ?_
  refine sim_cond (fun c57 => ?_) (fun c57 => ?_)
  · refine sim_get (O23.tab (A := ByteArray) (s := c5.1) 1 rfl) (fun m59 a58 hi60 hm61 => ?_)
    refine sim_let (v := sv a58) ((O23.tab (A := ByteArray) (s := c5.1) 1 rfl).ld hm61 false 1 0) ?_
    refine sim_call1 he_impl_wordsOf (snapD_str _ _) (fun c62 => ?_)
    refine sim_hand (A := ByteArray) O23 (fun x64 h65 O66 => ?_)
    replace O66 : Hold B h65 [(AV.ptr o1 1 0 0, .pt 2 [iv 0, nilS]), (x7, obS (c5.1 : Sl ByteArray)), (AV.ptr o13 1 0 0, .pt 2 [iv w19, z20]), (z20, obS (w21 : Sl Bigram)), (x64, obS (c62 : Sl ByteArray))] := O66
    refine sim_let (v := bv (decide (w24 = 0))) (aCmp_eq _ _) ?_
    refine sim_guardT (e := bv) (fun hb67 => ?_) (fun c68 => ?_)
    · refine sim_let (v := iv (((c62.getD []).length : Nat) : Int)) (O66.tab (A := ByteArray) (s := c62) 4 rfl).len ?_
      refine sim_let (v := bv (decide ((((c62.getD []).length : Nat) : Int) = 2))) (aCmp_eq _ _) ?_
      exact sim_ret rfl
    · refine sim_let (v := bv (bif decide (w24 = 0) then c68 else false)) (pick_b _ _ _) ?_
      refine sim_cond (fun c69 => ?_) (fun c69 => ?_)
      · refine sim_get (O66.tab (A := ByteArray) (s := c62) 4 rfl) (fun m71 a70 hi72 hm73 => ?_)
        refine sim_let (v := sv a70) ((O66.tab (A := ByteArray) (s := c62) 4 rfl).ld hm73 false 1 0) ?_
        refine sim_call1 he_impl_ReadDecimal (snapD_str _ _) (fun c74 => ?_)
        refine sim_let2 (hand_plain (by rfl) _ _) ?_
        refine sim_let (v := iv c74.1) rfl ?_
        refine sim_let (v := bv c74.2) rfl ?_
        refine sim_let (v := AV.ptr o13 1 0 0) rfl ?_
        refine sim_store O66 2 (cs' := [iv c74.1, z20]) rfl (by first | rfl | simp) (by simp) (by first | rfl | simp) (by first | rfl | simp [splice]) (fun h75 O76 => ?_)
        replace O76 : Hold B h75 [(AV.ptr o1 1 0 0, .pt 2 [iv 0, nilS]), (x7, obS (c5.1 : Sl ByteArray)), (AV.ptr o13 1 0 0, .pt 2 [iv c74.1, z20]), (z20, obS (w21 : Sl Bigram)), (x64, obS (c62 : Sl ByteArray))] := O76
        refine sim_let (v := iv (wr (w24 + 1))) (aBin_add _ _) ?_
        have O77 : Hold B h75 [(AV.ptr o1 1 0 0, .pt 2 [iv 0, nilS]), (x7, obS (c5.1 : Sl ByteArray)), (AV.ptr o13 1 0 0, .pt 2 [iv c74.1, z20]), (z20, obS (w21 : Sl Bigram))] := O76.sel [0, 1, 2, 3] (by decide) rfl
        exact sim_ret ⟨rfl, _, rfl, O77⟩
      · refine sim_let (v := bv (decide (0 < w24))) (aBin_gtr _ _) ?_
        refine sim_guardT (e := bv) (fun hb78 => ?_) (fun c79 => ?_)
        · refine sim_let (v := iv (((c62.getD []).length : Nat) : Int)) (O66.tab (A := ByteArray) (s := c62) 4 rfl).len ?_
          refine sim_let (v := bv (decide ((((c62.getD []).length : Nat) : Int) = 3))) (aCmp_eq _ _) ?_
          exact sim_ret rfl
        · refine sim_let (v := bv (bif decide (0 < w24) then c79 else false)) (pick_b _ _ _) ?_
          refine sim_cond (fun c80 => ?_) (fun c80 => ?_)
          · refine sim_get (O66.tab (A := ByteArray) (s := c62) 4 rfl) (fun m82 a81 hi83 hm84 => ?_)
            refine sim_let (v := sv a81) ((O66.tab (A := ByteArray) (s := c62) 4 rfl).ld hm84 false 1 0) ?_
            refine sim_call1 he_impl_ReadDecimal (snapD_str _ _) (fun c85 => ?_)
            refine sim_let2 (hand_plain (by rfl) _ _) ?_
            refine sim_let (v := iv c85.1) rfl ?_
            refine sim_let (v := bv c85.2) rfl ?_
            refine sim_let (v := AV.ptr o13 1 0 1) rfl ?_
            refine sim_let (v := z20) (O66.ld 2 rfl false 1 1) ?_
            refine sim_get (O66.tab (A := ByteArray) (s := c62) 4 rfl) (fun m87 a86 hi88 hm89 => ?_)
            refine sim_let (v := sv a86) ((O66.tab (A := ByteArray) (s := c62) 4 rfl).ld hm89 false 1 0) ?_
            refine sim_callQ2 he_strings_TrimPrefix (snapD_str _ _) (snapD_str _ _) (fun c90 => ?_)
            refine sim_let2 (hand_plain (by rfl) _ _) ?_
            refine sim_get (O66.tab (A := ByteArray) (s := c62) 4 rfl) (fun m92 a91 hi93 hm94 => ?_)
            refine sim_let (v := sv a91) ((O66.tab (A := ByteArray) (s := c62) 4 rfl).ld hm94 false 1 0) ?_
            refine sim_let (v := AV.agg [sv c90, sv a91, iv c85.1]) (by first | rfl | simp [aBuild, aFill, splice]) ?_
            refine sim_build (A := Bigram) O66 ([(⟨c90, a91, c85.1⟩ : Bigram)] : List Bigram) rfl (by first | rfl | simp [aFillRows, zrows]) rfl (fun x95 h96 O97 => ?_)
            replace O97 : Hold B h96 [(AV.ptr o1 1 0 0, .pt 2 [iv 0, nilS]), (x7, obS (c5.1 : Sl ByteArray)), (AV.ptr o13 1 0 0, .pt 2 [iv w19, z20]), (z20, obS (w21 : Sl Bigram)), (x64, obS (c62 : Sl ByteArray)), (x95, obS ((some ([(⟨c90, a91, c85.1⟩ : Bigram)] : List Bigram)) : Sl Bigram))] := O97
            refine sim_append (A := Bigram) (s := w21) O97 3 ([(⟨c90, a91, c85.1⟩ : Bigram)] : List Bigram) rfl (O97.src (A := Bigram) (s := (some ([(⟨c90, a91, c85.1⟩ : Bigram)] : List Bigram))) 5 rfl) (by decide) (fun x100 h101 O102 => ?_)
            replace O102 : Hold B h101 [(AV.ptr o1 1 0 0, .pt 2 [iv 0, nilS]), (x7, obS (c5.1 : Sl ByteArray)), (AV.ptr o13 1 0 0, .pt 2 [iv w19, z20]), (x100, obS ((appS w21 ([(⟨c90, a91, c85.1⟩ : Bigram)] : List Bigram)) : Sl Bigram)), (x64, obS (c62 : Sl ByteArray)), (x95, obS ((some ([(⟨c90, a91, c85.1⟩ : Bigram)] : List Bigram)) : Sl Bigram))] := O102
            have O104 : Hold B h101 [(AV.ptr o1 1 0 0, .pt 2 [iv 0, nilS]), (x7, obS (c5.1 : Sl ByteArray)), (AV.ptr o13 1 0 0, .pt 2 [iv w19, z20]), (x100, obS ((appS w21 ([(⟨c90, a91, c85.1⟩ : Bigram)] : List Bigram)) : Sl Bigram)), (x64, obS (c62 : Sl ByteArray))] := O102.sel [0, 1, 2, 3, 4] (by decide) rfl
            refine sim_let (v := AV.ptr o13 1 0 1) rfl ?_
            refine sim_store O104 2 (cs' := [iv w19, x100]) rfl (by first | rfl | simp [(O104.one (A := Bigram) (s := (appS w21 ([(⟨c90, a91, c85.1⟩ : Bigram)] : List Bigram))) 3 rfl).1, (O104.one (A := Bigram) (s := (appS w21 ([(⟨c90, a91, c85.1⟩ : Bigram)] : List Bigram))) 3 rfl).2]) (by simp) (by first | rfl | simp [(O104.one (A := Bigram) (s := (appS w21 ([(⟨c90, a91, c85.1⟩ : Bigram)] : List Bigram))) 3 rfl).1, (O104.one (A := Bigram) (s := (appS w21 ([(⟨c90, a91, c85.1⟩ : Bigram)] : List Bigram))) 3 rfl).2]) (by first | rfl | simp [splice, (O104.one (A := Bigram) (s := (appS w21 ([(⟨c90, a91, c85.1⟩ : Bigram)] : List Bigram))) 3 rfl).1, (O104.one (A := Bigram) (s := (appS w21 ([(⟨c90, a91, c85.1⟩ : Bigram)] : List Bigram))) 3 rfl).2]) (fun h105 O106 => ?_)
            replace O106 : Hold B h105 [(AV.ptr o1 1 0 0, .pt 2 [iv 0, nilS]), (x7, obS (c5.1 : Sl ByteArray)), (AV.ptr o13 1 0 0, .pt 2 [iv w19, x100]), (x100, obS ((appS w21 ([(⟨c90, a91, c85.1⟩ : Bigram)] : List Bigram)) : Sl Bigram)), (x64, obS (c62 : Sl ByteArray))] := O106
            refine sim_let (v := iv (wr (w24 + 1))) (aBin_add _ _) ?_
            have O107 : Hold B h105 [(AV.ptr o1 1 0 0, .pt 2 [iv 0, nilS]), (x7, obS (c5.1 : Sl ByteArray)), (AV.ptr o13 1 0 0, .pt 2 [iv w19, x100]), (x100, obS ((appS w21 ([(⟨c90, a91, c85.1⟩ : Bigram)] : List Bigram)) : Sl Bigram))] := O106.sel [0, 1, 2, 3] (by decide) rfl
            exact sim_ret ⟨rfl, _, rfl, O107⟩
          · refine sim_let (v := AV.agg [iv 0, nilS]) (by first | rfl | simp [aBuild, aFill, splice]) ?_
            refine sim_store O66 0 (cs' := [iv 0, nilS]) rfl (by first | rfl | simp) (by simp) (by first | rfl | simp) (by first | rfl | simp [splice]) (fun h108 O109 => ?_)
            replace O109 : Hold B h108 [(AV.ptr o1 1 0 0, .pt 2 [iv 0, nilS]), (x7, obS (c5.1 : Sl ByteArray)), (AV.ptr o13 1 0 0, .pt 2 [iv w19, z20]), (z20, obS (w21 : Sl Bigram)), (x64, obS (c62 : Sl ByteArray))] := O109
            have O110 : Hold B h108 [(AV.ptr o1 1 0 0, .pt 2 [iv 0, nilS]), (x7, obS (c5.1 : Sl ByteArray)), (AV.ptr o13 1 0 0, .pt 2 [iv w19, z20]), (z20, obS (w21 : Sl Bigram))] := O109.sel [0, 1, 2, 3] (by decide) rfl
            exact sim_ret ⟨nofun, _, _, _, _, _, _, _, _, _, rfl, O110⟩
  · exact sim_ret ⟨nofun, _, _, _, _, _, _, _, _, rfl, O23⟩
theorem ts_impl_ReadModel (env : Nat → Contract) (he_impl_ModelText : env n_impl_ModelText = .pure (C1 (fun c : ByteArray => enc c) t_impl_ModelText)) (he_impl_ReadDecimal : env n_impl_ReadDecimal = .pure (C1 (fun c : Int × Bool => AV.tup [enc c.1, enc c.2]) t_impl_ReadDecimal)) (he_impl_ValidModel : env n_impl_ValidModel = .pure (C1 (fun c : Bool => enc c) t_impl_ValidModel)) (he_impl_linesOf : env n_impl_linesOf = .pure (C1 (fun c : (Sl ByteArray) × Bool => AV.tup [rS c.1, enc c.2]) t_impl_linesOf)) (he_impl_wordsOf : env n_impl_wordsOf = .pure (C1 (fun c : (Sl ByteArray) => rS c) t_impl_wordsOf)) (he_strings_TrimPrefix : env n_strings_TrimPrefix = .pure (C2 (fun c : ByteArray => enc c) t_strings_TrimPrefix)) (s_ : ByteArray) : Sim (denFn Tryd.prog env n_impl_ReadModel [sv s_] []) (t_impl_ReadModel s_) fun c p => release p.2 depth p.1 = some ((fun c : Model × Bool => AV.tup [AV.agg [iv c.1.default, rS c.1.bigrams], enc c.2]) c) := by
  have O := Hold.nil []
  generalize hB : (⟨[], []⟩ : Base) = B at O
  clear hB
  rw [e_impl_ReadModel]
  unfold t_impl_ReadModel
  refine sim_box O (cs := [iv 0, nilS]) (by first | rfl | simp) (fun o1 h2 O3 => ?_)
  replace O3 : Hold B h2 [(AV.ptr o1 1 0 0, .pt 2 [iv 0, nilS])] := O3
  refine sim_call1 he_impl_linesOf (snapD_str _ _) (fun c5 => ?_)
  refine sim_hand1 O3 (c5.1 : Sl ByteArray) (fun z1 => AV.tup [z1, bv c5.2]) (by intro b; simp only [mat_tup, mat_aggD, mat_agg, matLc, matLn, mat_iv, mat_bv, mat_sv, mat_bt, mat_nilS, mat_rS, List.append_nil, List.nil_append, List.length_nil, Nat.add_zero]) (by simp only [noF_tup, noF_aggD, noF_agg, noF_iv, noF_bv, noF_sv, noF_bt, noF_nilS, noF_rS, List.all_cons, List.all_nil, Bool.and_self]) (fun x7 h8 O9 => ?_)
  replace O9 : Hold B h8 [(AV.ptr o1 1 0 0, .pt 2 [iv 0, nilS]), (x7, obS (c5.1 : Sl ByteArray))] := O9
  refine sim_let (v := x7) rfl ?_
  refine sim_let (v := bv c5.2) rfl ?_
  refine sim_let (v := bv (!c5.2)) (aUn_not _) ?_
  refine sim_cond (fun c10 => ?_) (fun c10 => ?_)
  · refine sim_let (v := AV.agg [iv 0, nilS]) (by first | rfl | simp [aBuild, aFill, splice]) ?_
    refine sim_store O9 0 (cs' := [iv 0, nilS]) rfl (by first | rfl | simp) (by simp) (by first | rfl | simp) (by first | rfl | simp [splice]) (fun h11 O12 => ?_)
    replace O12 : Hold B h11 [(AV.ptr o1 1 0 0, .pt 2 [iv 0, nilS]), (x7, obS (c5.1 : Sl ByteArray))] := O12
    refine sim_retL (resL_c (v := AV.agg [iv 0, nilS]) (O12.ld 0 rfl true 2 0) (resL_v (v := bv false) (resL_nil _))) ?_
    dsimp only [pack]
    exact sim_ret (release_plain (by rfl) _)
  · refine sim_box O9 (cs := [iv 0, nilS]) (by first | rfl | simp) (fun o13 h14 O15 => ?_)
    replace O15 : Hold B h14 [(AV.ptr o1 1 0 0, .pt 2 [iv 0, nilS]), (x7, obS (c5.1 : Sl ByteArray)), (AV.ptr o13 1 0 0, .pt 2 [iv 0, nilS])] := O15
    refine sim_let (v := iv (((c5.1.getD []).length : Nat) : Int)) (O15.tab (A := ByteArray) (s := c5.1) 1 rfl).len ?_
    have O17 : Hold B h14 [(AV.ptr o1 1 0 0, .pt 2 [iv 0, nilS]), (x7, obS (c5.1 : Sl ByteArray)), (AV.ptr o13 1 0 0, .pt 2 [iv 0, nilS]), (nilS, obS ((none : Sl Bigram) : Sl Bigram))] := O15.addnil
    refine sim_bind ((tl0_impl_ReadModel env he_impl_ModelText he_impl_ReadDecimal he_impl_ValidModel he_impl_linesOf he_impl_wordsOf he_strings_TrimPrefix s_ o1 c5 x7 o13) ⟨_, rfl, O17⟩) (fun qq113 r hq => ?_)
    rcases qq113 with ⟨q27, q29⟩ | q51
    · obtain ⟨z28, z30, z31, z32, z33, z34, z35, h25, rfl, O26⟩ := hq
      rw [e_lk0x0_impl_ReadModel]
      refine sim_let (v := AV.agg [iv q27, z28]) (O26.ld 2 rfl true 2 0) ?_
      refine sim_call1 he_impl_ValidModel (snapD_own h25 (⟨q27, q29⟩ : Model) rfl (by simp [omap, O26.snap7 (A := Bigram) (s := q29) 3 rfl])) (fun c36 => ?_)
      refine sim_let2 (hand_plain (by rfl) _ _) ?_
      refine sim_let (v := bv (!c36)) (aUn_not _) ?_
      refine sim_guardF (e := bv) (fun hb37 => ?_) (fun c39 => ?_)
      · refine sim_let (v := AV.agg [iv q27, z28]) (O26.ld 2 rfl true 2 0) ?_
        refine sim_call1 he_impl_ModelText (snapD_own h25 (⟨q27, q29⟩ : Model) rfl (by simp [omap, O26.snap7 (A := Bigram) (s := q29) 3 rfl])) (fun c38 => ?_)
        refine sim_let2 (hand_plain (by rfl) _ _) ?_
        refine sim_let (v := bv (!decide (c38 = s_))) (aCmp_neS _ _) ?_
        exact sim_ret rfl
      · refine sim_let (v := bv (bif !c36 then true else c39)) (pick_b' _ _ _) ?_
        refine sim_cond (fun c40 => ?_) (fun c40 => ?_)
        · refine sim_let (v := AV.agg [iv 0, nilS]) (by first | rfl | simp [aBuild, aFill, splice]) ?_
          refine sim_store O26 0 (cs' := [iv 0, nilS]) rfl (by first | rfl | simp) (by simp) (by first | rfl | simp) (by first | rfl | simp [splice]) (fun h41 O42 => ?_)
          replace O42 : Hold B h41 [(AV.ptr o1 1 0 0, .pt 2 [iv 0, nilS]), (x7, obS (c5.1 : Sl ByteArray)), (AV.ptr o13 1 0 0, .pt 2 [iv q27, z28]), (z28, obS (q29 : Sl Bigram))] := O42
          refine sim_retL (resL_c (v := AV.agg [iv 0, nilS]) (O42.ld 0 rfl true 2 0) (resL_v (v := bv false) (resL_nil _))) ?_
          dsimp only [pack]
          exact sim_ret (release_plain (by rfl) _)
        · refine sim_let (v := AV.agg [iv q27, z28]) (O26.ld 2 rfl true 2 0) ?_
          refine sim_store O26 0 (cs' := [iv q27, z28]) rfl (by first | rfl | simp [(O26.one (A := Bigram) (s := q29) 3 rfl).1, (O26.one (A := Bigram) (s := q29) 3 rfl).2]) (by simp) (by first | rfl | simp [(O26.one (A := Bigram) (s := q29) 3 rfl).1, (O26.one (A := Bigram) (s := q29) 3 rfl).2]) (by first | rfl | simp [splice, (O26.one (A := Bigram) (s := q29) 3 rfl).1, (O26.one (A := Bigram) (s := q29) 3 rfl).2]) (fun h43 O44 => ?_)
          replace O44 : Hold B h43 [(AV.ptr o1 1 0 0, .pt 2 [iv q27, z28]), (x7, obS (c5.1 : Sl ByteArray)), (AV.ptr o13 1 0 0, .pt 2 [iv q27, z28]), (z28, obS (q29 : Sl Bigram))] := O44
          refine sim_retL (resL_c (v := AV.agg [iv q27, z28]) (O44.ld 0 rfl true 2 0) (resL_v (v := bv true) (resL_nil _))) ?_
          dsimp only [pack]
          have O45 : Hold B h43 [(z28, obS (q29 : Sl Bigram))] := O44.sel [3] (by decide) rfl
          exact sim_ret (release_of (by simp only [ids_tup, ids_aggD, ids_agg, ids_iv, ids_bv, ids_sv, ids_bt, ids_nilS, ids_enc, O45.idsD (A := Bigram) (s := q29) 0 rfl, List.map_append, List.map_nil, List.flatMap_cons, List.flatMap_nil, List.append_nil, List.nil_append]; simpa only [List.flatMap_cons, List.flatMap_nil, List.append_nil, List.nil_append] using O45.nd2) (by simp only [rel_tup, rel_aggD, rel_agg, rel_iv, rel_bv, rel_sv, rel_bt, rel_nilS, rel_enc, O45.relD (A := Bigram) (s := q29) 0 rfl, omapc, omapn, obind_sm] <;> rfl))
    · obtain ⟨q48, q50, q52, q53, z49, z54, z55, z56, h46, rfl, O47⟩ := hq
      rw [e_lk0r_impl_ReadModel]
      refine sim_retL (resL_c (v := AV.agg [iv 0, nilS]) (O47.ld 0 rfl true 2 0) (resL_v (v := bv q51) (resL_nil _))) ?_
      dsimp only [pack]
      exact sim_ret (release_plain (by rfl) _)
theorem tt_impl_ReadModel : PureOK Tryd.prog n_impl_ReadModel (C1 (fun c : Model × Bool => AV.tup [AV.agg [iv c.1.default, rS c.1.bigrams], enc c.2]) t_impl_ReadModel) := pureC1 (Econs tt_impl_ModelText (Econs tt_impl_ReadDecimal (Econs tt_impl_ValidModel (Econs tt_impl_linesOf (Econs tt_impl_wordsOf (Econs tt_strings_TrimPrefix E0)))))) mixed hb_impl_ReadModel fun s_ => ts_impl_ReadModel _ (by simp [envL]) (by simp [envL]) (by simp [envL]) (by simp [envL]) (by simp [envL]) (by simp [envL]) s_

def t_laws_FnExactReadModel (aS_ : ByteArray) : Option Bool :=
  bif decide (1048576 < (aS_.size : Int)) then
    some true
  else
    obind (t_spec_ReadModel aS_) fun c2 =>
    obind (t_impl_ReadModel aS_) fun c13 =>
    obind (t_laws_eqModel c13.1 c2.1) fun c24 =>
    obind (bif !c24 then some false else (some (!(c13.2 == c2.2)))) fun c26 =>
    bif (bif !c24 then true else c26) then
      some false
    else
      obind (t_laws_markBigramS c13.1.bigrams 1) fun (r28, w29) =>
      obind (t_laws_heldModel (⟨c13.1.default, w29⟩ : Model) 1) fun c32 =>
      bif decide (c32 < 0) then
        some false
      else
        bif !decide (c32 = r28) then
          some false
        else
          obind (t_impl_ReadModel aS_) fun c35 =>
          obind (t_laws_eqModel c35.1 c2.1) fun c46 =>
          obind (bif !c46 then some false else (some (!(c35.2 == c2.2)))) fun c48 =>
          bif (bif !c46 then true else c48) then
            some false
          else
            obind (t_laws_heldModel (⟨c13.1.default, w29⟩ : Model) 1) fun c50 =>
            bif decide (c50 < 0) then
              some false
            else
              bif !decide (c50 = r28) then
                some false
              else
                some true

theorem ts_laws_FnExactReadModel (env : Nat → Contract) (he_impl_ReadModel : env n_impl_ReadModel = .pure (C1 (fun c : Model × Bool => AV.tup [AV.agg [iv c.1.default, rS c.1.bigrams], enc c.2]) t_impl_ReadModel)) (he_laws_eqModel : env n_laws_eqModel = .pure (C2 (fun c : Bool => enc c) t_laws_eqModel)) (he_laws_heldModel : env n_laws_heldModel = .pure (C2 (fun c : Int => enc c) t_laws_heldModel)) (he_laws_markModel : env n_laws_markModel = .gen (denFn Tryd.prog ev_laws_markModel n_laws_markModel)) (he_spec_ReadModel : env n_spec_ReadModel = .pure (C1 (fun c : Model × Bool => AV.tup [AV.agg [iv c.1.default, rS c.1.bigrams], enc c.2]) t_spec_ReadModel)) (aS_ : ByteArray) : Sim (denFn Tryd.prog env n_laws_FnExactReadModel [sv aS_] []) (t_laws_FnExactReadModel aS_) fun c p => release p.2 depth p.1 = some ((fun c : Bool => enc c) c) := by
  have O := Hold.nil []
  generalize hB : (⟨[], []⟩ : Base) = B at O
  clear hB
  rw [e_laws_FnExactReadModel]
  unfold t_laws_FnExactReadModel
  refine sim_let (v := iv (aS_.size : Int)) rfl ?_
  refine sim_let (v := bv (decide (1048576 < (aS_.size : Int)))) (aBin_gtr _ _) ?_
  refine sim_cond (fun c1 => ?_) (fun c1 => ?_)
  · exact sim_ret (release_plain (by rfl) _)
  · refine sim_call1 he_spec_ReadModel (snapD_str _ _) (fun c2 => ?_)
    refine sim_hand1 O (c2.1.bigrams : Sl Bigram) (fun z1 => AV.tup [AV.agg [iv c2.1.default, z1], bv c2.2]) (by intro b; simp only [mat_tup, mat_aggD, mat_agg, matLc, matLn, mat_iv, mat_bv, mat_sv, mat_bt, mat_nilS, mat_rS, List.append_nil, List.nil_append, List.length_nil, Nat.add_zero]) (by simp only [noF_tup, noF_aggD, noF_agg, noF_iv, noF_bv, noF_sv, noF_bt, noF_nilS, noF_rS, List.all_cons, List.all_nil, Bool.and_self]) (fun x4 h5 O6 => ?_)
    replace O6 : Hold B h5 [(x4, obS (c2.1.bigrams : Sl Bigram))] := O6
    refine sim_let (v := AV.agg [iv c2.1.default, x4]) rfl ?_
    refine sim_let (v := bv c2.2) rfl ?_
    refine sim_box O6 (cs := [iv 0, nilS]) (by first | rfl | simp) (fun o7 h8 O9 => ?_)
    replace O9 : Hold B h8 [(x4, obS (c2.1.bigrams : Sl Bigram)), (AV.ptr o7 1 0 0, .pt 2 [iv 0, nilS])] := O9
    refine sim_store O9 1 (cs' := [iv c2.1.default, x4]) rfl (by first | rfl | simp [(O9.one (A := Bigram) (s := c2.1.bigrams) 0 rfl).1, (O9.one (A := Bigram) (s := c2.1.bigrams) 0 rfl).2]) (by simp) (by first | rfl | simp [(O9.one (A := Bigram) (s := c2.1.bigrams) 0 rfl).1, (O9.one (A := Bigram) (s := c2.1.bigrams) 0 rfl).2]) (by first | rfl | simp [splice, (O9.one (A := Bigram) (s := c2.1.bigrams) 0 rfl).1, (O9.one (A := Bigram) (s := c2.1.bigrams) 0 rfl).2]) (fun h11 O12 => ?_)
    replace O12 : Hold B h11 [(x4, obS (c2.1.bigrams : Sl Bigram)), (AV.ptr o7 1 0 0, .pt 2 [iv c2.1.default, x4])] := O12
    refine sim_call1 he_impl_ReadModel (snapD_str _ _) (fun c13 => ?_)
    refine sim_hand1 O12 (c13.1.bigrams : Sl Bigram) (fun z1 => AV.tup [AV.agg [iv c13.1.default, z1], bv c13.2]) (by intro b; simp only [mat_tup, mat_aggD, mat_agg, matLc, matLn, mat_iv, mat_bv, mat_sv, mat_bt, mat_nilS, mat_rS, List.append_nil, List.nil_append, List.length_nil, Nat.add_zero]) (by simp only [noF_tup, noF_aggD, noF_agg, noF_iv, noF_bv, noF_sv, noF_bt, noF_nilS, noF_rS, List.all_cons, List.all_nil, Bool.and_self]) (fun x15 h16 O17 => ?_)
    replace O17 : Hold B h16 [(x4, obS (c2.1.bigrams : Sl Bigram)), (AV.ptr o7 1 0 0, .pt 2 [iv c2.1.default, x4]), (x15, obS (c13.1.bigrams : Sl Bigram))] := O17
    refine sim_let (v := AV.agg [iv c13.1.default, x15]) rfl ?_
    refine sim_let (v := bv c13.2) rfl ?_
    refine sim_box O17 (cs := [iv 0, nilS]) (by first | rfl | simp) (fun o18 h19 O20 => ?_)
    replace O20 : Hold B h19 [(x4, obS (c2.1.bigrams : Sl Bigram)), (AV.ptr o7 1 0 0, .pt 2 [iv c2.1.default, x4]), (x15, obS (c13.1.bigrams : Sl Bigram)), (AV.ptr o18 1 0 0, .pt 2 [iv 0, nilS])] := O20
    refine sim_store O20 3 (cs' := [iv c13.1.default, x15]) rfl (by first | rfl | simp [(O20.one (A := Bigram) (s := c13.1.bigrams) 2 rfl).1, (O20.one (A := Bigram) (s := c13.1.bigrams) 2 rfl).2]) (by simp) (by first | rfl | simp [(O20.one (A := Bigram) (s := c13.1.bigrams) 2 rfl).1, (O20.one (A := Bigram) (s := c13.1.bigrams) 2 rfl).2]) (by first | rfl | simp [splice, (O20.one (A := Bigram) (s := c13.1.bigrams) 2 rfl).1, (O20.one (A := Bigram) (s := c13.1.bigrams) 2 rfl).2]) (fun h22 O23 => ?_)
    replace O23 : Hold B h22 [(x4, obS (c2.1.bigrams : Sl Bigram)), (AV.ptr o7 1 0 0, .pt 2 [iv c2.1.default, x4]), (x15, obS (c13.1.bigrams : Sl Bigram)), (AV.ptr o18 1 0 0, .pt 2 [iv c13.1.default, x15])] := O23
    refine sim_let (v := AV.agg [iv c13.1.default, x15]) (O23.ld 3 rfl true 2 0) ?_
    refine sim_let (v := AV.agg [iv c2.1.default, x4]) (O23.ld 1 rfl true 2 0) ?_
    refine sim_call2 he_laws_eqModel (snapD_own h22 c13.1 rfl (by simp [omap, O23.snap7 (A := Bigram) (s := c13.1.bigrams) 2 rfl])) (snapD_own h22 c2.1 rfl (by simp [omap, O23.snap7 (A := Bigram) (s := c2.1.bigrams) 0 rfl])) (fun c24 => ?_)
    refine sim_let2 (hand_plain (by rfl) _ _) ?_
    refine sim_let (v := bv (!c24)) (aUn_not _) ?_
    refine sim_guardF (e := bv) (fun hb25 => ?_) (fun c26 => ?_)
    · refine sim_let (v := bv (!(c13.2 == c2.2))) (aCmp_neB _ _) ?_
      exact sim_ret rfl
    · refine sim_let (v := bv (bif !c24 then true else c26)) (pick_b' _ _ _) ?_
      refine sim_cond (fun c27 => ?_) (fun c27 => ?_)
      · exact sim_ret (release_plain (by rfl) _)
      · refine sim_let (v := AV.agg [iv c13.1.default, x15]) (O23.ld 3 rfl true 2 0) ?_
        refine sim_markG (A := Bigram) (w := 2) (j := 1) O23 2 rfl he_laws_markModel mk_laws_markModel (by simp [(O23.one (A := Bigram) (s := c13.1.bigrams) 2 rfl).2]) rfl rfl (fun r28 w29 h30 O31 => ?_)
        replace O31 : Hold B h30 [(x4, obS (c2.1.bigrams : Sl Bigram)), (AV.ptr o7 1 0 0, .pt 2 [iv c2.1.default, x4]), (x15, obS (w29 : Sl Bigram)), (AV.ptr o18 1 0 0, .pt 2 [iv c13.1.default, x15])] := O31
        refine sim_let (v := AV.agg [iv c13.1.default, x15]) (O31.ld 3 rfl true 2 0) ?_
        refine sim_call2 he_laws_heldModel (snapD_own h30 (⟨c13.1.default, w29⟩ : Model) rfl (by simp [omap, O31.snap7 (A := Bigram) (s := w29) 2 rfl])) (snapD_int _ _) (fun c32 => ?_)
        refine sim_let2 (hand_plain (by rfl) _ _) ?_
        refine sim_let (v := bv (decide (c32 < 0))) (aBin_lss _ _) ?_
        refine sim_cond (fun c33 => ?_) (fun c33 => ?_)
        · exact sim_ret (release_plain (by rfl) _)
        · refine sim_let (v := bv (!decide (c32 = r28))) (aCmp_ne _ _) ?_
          refine sim_cond (fun c34 => ?_) (fun c34 => ?_)
          · exact sim_ret (release_plain (by rfl) _)
          · refine sim_call1 he_impl_ReadModel (snapD_str _ _) (fun c35 => ?_)
            refine sim_hand1 O31 (c35.1.bigrams : Sl Bigram) (fun z1 => AV.tup [AV.agg [iv c35.1.default, z1], bv c35.2]) (by intro b; simp only [mat_tup, mat_aggD, mat_agg, matLc, matLn, mat_iv, mat_bv, mat_sv, mat_bt, mat_nilS, mat_rS, List.append_nil, List.nil_append, List.length_nil, Nat.add_zero]) (by simp only [noF_tup, noF_aggD, noF_agg, noF_iv, noF_bv, noF_sv, noF_bt, noF_nilS, noF_rS, List.all_cons, List.all_nil, Bool.and_self]) (fun x37 h38 O39 => ?_)
            replace O39 : Hold B h38 [(x4, obS (c2.1.bigrams : Sl Bigram)), (AV.ptr o7 1 0 0, .pt 2 [iv c2.1.default, x4]), (x15, obS (w29 : Sl Bigram)), (AV.ptr o18 1 0 0, .pt 2 [iv c13.1.default, x15]), (x37, obS (c35.1.bigrams : Sl Bigram))] := O39
            refine sim_let (v := AV.agg [iv c35.1.default, x37]) rfl ?_
            refine sim_let (v := bv c35.2) rfl ?_
            refine sim_box O39 (cs := [iv 0, nilS]) (by first | rfl | simp) (fun o40 h41 O42 => ?_)
            replace O42 : Hold B h41 [(x4, obS (c2.1.bigrams : Sl Bigram)), (AV.ptr o7 1 0 0, .pt 2 [iv c2.1.default, x4]), (x15, obS (w29 : Sl Bigram)), (AV.ptr o18 1 0 0, .pt 2 [iv c13.1.default, x15]), (x37, obS (c35.1.bigrams : Sl Bigram)), (AV.ptr o40 1 0 0, .pt 2 [iv 0, nilS])] := O42
            refine sim_store O42 5 (cs' := [iv c35.1.default, x37]) rfl (by first | rfl | simp [(O42.one (A := Bigram) (s := c35.1.bigrams) 4 rfl).1, (O42.one (A := Bigram) (s := c35.1.bigrams) 4 rfl).2]) (by simp) (by first | rfl | simp [(O42.one (A := Bigram) (s := c35.1.bigrams) 4 rfl).1, (O42.one (A := Bigram) (s := c35.1.bigrams) 4 rfl).2]) (by first | rfl | simp [splice, (O42.one (A := Bigram) (s := c35.1.bigrams) 4 rfl).1, (O42.one (A := Bigram) (s := c35.1.bigrams) 4 rfl).2]) (fun h44 O45 => ?_)
            replace O45 : Hold B h44 [(x4, obS (c2.1.bigrams : Sl Bigram)), (AV.ptr o7 1 0 0, .pt 2 [iv c2.1.default, x4]), (x15, obS (w29 : Sl Bigram)), (AV.ptr o18 1 0 0, .pt 2 [iv c13.1.default, x15]), (x37, obS (c35.1.bigrams : Sl Bigram)), (AV.ptr o40 1 0 0, .pt 2 [iv c35.1.default, x37])] := O45
            refine sim_let (v := AV.agg [iv c35.1.default, x37]) (O45.ld 5 rfl true 2 0) ?_
            refine sim_let (v := AV.agg [iv c2.1.default, x4]) (O45.ld 1 rfl true 2 0) ?_
            refine sim_call2 he_laws_eqModel (snapD_own h44 c35.1 rfl (by simp [omap, O45.snap7 (A := Bigram) (s := c35.1.bigrams) 4 rfl])) (snapD_own h44 c2.1 rfl (by simp [omap, O45.snap7 (A := Bigram) (s := c2.1.bigrams) 0 rfl])) (fun c46 => ?_)
            refine sim_let2 (hand_plain (by rfl) _ _) ?_
            refine sim_let (v := bv (!c46)) (aUn_not _) ?_
            refine sim_guardF (e := bv) (fun hb47 => ?_) (fun c48 => ?_)
            · refine sim_let (v := bv (!(c35.2 == c2.2))) (aCmp_neB _ _) ?_
              exact sim_ret rfl
            · refine sim_let (v := bv (bif !c46 then true else c48)) (pick_b' _ _ _) ?_
              refine sim_cond (fun c49 => ?_) (fun c49 => ?_)
              · exact sim_ret (release_plain (by rfl) _)
              · refine sim_let (v := AV.agg [iv c13.1.default, x15]) (O45.ld 3 rfl true 2 0) ?_
                refine sim_call2 he_laws_heldModel (snapD_own h44 (⟨c13.1.default, w29⟩ : Model) rfl (by simp [omap, O45.snap7 (A := Bigram) (s := w29) 2 rfl])) (snapD_int _ _) (fun c50 => ?_)
                refine sim_let2 (hand_plain (by rfl) _ _) ?_
                refine sim_let (v := bv (decide (c50 < 0))) (aBin_lss _ _) ?_
                refine sim_cond (fun c51 => ?_) (fun c51 => ?_)
                · exact sim_ret (release_plain (by rfl) _)
                · refine sim_let (v := bv (!decide (c50 = r28))) (aCmp_ne _ _) ?_
                  refine sim_cond (fun c52 => ?_) (fun c52 => ?_)
                  · exact sim_ret (release_plain (by rfl) _)
                  · exact sim_ret (release_plain (by rfl) _)
theorem tt_laws_FnExactReadModel : PureOK Tryd.prog n_laws_FnExactReadModel (C1 (fun c : Bool => enc c) t_laws_FnExactReadModel) := pureC1 (Econs tt_impl_ReadModel (Econs tt_laws_eqModel (Econs tt_laws_heldModel (EconsG (gen_of_den eo_laws_markModel mixed hb_laws_markModel) (Econs tt_spec_ReadModel E0))))) mixed hb_laws_FnExactReadModel fun aS_ => ts_laws_FnExactReadModel _ (by simp [envL]) (by simp [envL]) (by simp [envL]) (by simp [envL]) (by simp [envL]) aS_

/-! ### Texts that are parted at a byte -/
def splitA (c : UInt8) (p : List UInt8) : List UInt8 → List (List UInt8)
  | [] => [p]
  | x :: l => if x = c then p :: splitA c [] l else splitA c (p ++ [x]) l
theorem splitA_hit {c : UInt8} {r : List UInt8} : ∀ {a : List UInt8} (_ : c ∉ a) (p : List UInt8), splitA c p (a ++ c :: r) = (p ++ a) :: splitA c [] r
  | [], _, p => by simp [splitA]
  | x :: a, h, p => by
    have h1 : x ≠ c := fun e => h (by rw [e]; exact List.mem_cons_self ..)
    have h2 : c ∉ a := fun e => h (List.mem_cons_of_mem _ e)
    rw [List.cons_append, splitA, if_neg h1, splitA_hit h2]
    simp
theorem splitA_miss {c : UInt8} : ∀ {a : List UInt8} (_ : c ∉ a) (p : List UInt8), splitA c p a = [p ++ a]
  | [], _, p => by simp [splitA]
  | x :: a, h, p => by
    have h1 : x ≠ c := fun e => h (by rw [e]; exact List.mem_cons_self ..)
    have h2 : c ∉ a := fun e => h (List.mem_cons_of_mem _ e)
    rw [splitA, if_neg h1, splitA_miss h2]
    simp
def joinA (c : UInt8) : List (List UInt8) → List UInt8
  | [] => []
  | [a] => a
  | a :: b :: t => a ++ c :: joinA c (b :: t)
theorem splitA_ne (c : UInt8) : ∀ (l p : List UInt8), splitA c p l ≠ []
  | [], p => by simp [splitA]
  | x :: l, p => by
    rw [splitA]
    split
    · simp
    · exact splitA_ne c l _
theorem joinA_cons {c : UInt8} {a : List UInt8} {t : List (List UInt8)} (h : t ≠ []) : joinA c (a :: t) = a ++ c :: joinA c t := by
  cases t with
  | nil => exact absurd rfl h
  | cons b t => rfl
theorem splitA_join (c : UInt8) : ∀ (l p : List UInt8), joinA c (splitA c p l) = p ++ l
  | [], p => by simp [splitA, joinA]
  | x :: l, p => by
    rw [splitA]
    split
    · rename_i e
      rw [joinA_cons (splitA_ne c l []), splitA_join c l [], e]
      simp
    · rw [splitA_join c l]
      simp
theorem splitA_snoc (c : UInt8) : ∀ (l p : List UInt8), splitA c p (l ++ [c]) = splitA c p l ++ [[]]
  | [], p => by simp [splitA]
  | x :: l, p => by
    rw [List.cons_append, splitA, splitA]
    split
    · rw [splitA_snoc c l, List.cons_append]
    · exact splitA_snoc c l _
theorem splitA_len (c : UInt8) : ∀ (l p : List UInt8), (splitA c p l).length ≤ l.length + 1
  | [], p => by simp [splitA]
  | x :: l, p => by
    rw [splitA]
    split
    · have := splitA_len c l []
      simp only [List.length_cons]
      omega
    · have := splitA_len c l (p ++ [x])
      simp only [List.length_cons]
      omega
/-- The last part is empty only behind a byte `c`, or where all is empty. -/
theorem splitA_last (c : UInt8) : ∀ (l p : List UInt8), (splitA c p l).getLast? = some [] → (p = [] ∧ l = []) ∨ ∃ l', l = l' ++ [c]
  | [], p, h => by
    simp [splitA] at h
    exact .inl ⟨h, rfl⟩
  | x :: l, p, h => by
    rw [splitA] at h
    split at h
    · rename_i e
      rw [List.getLast?_cons] at h
      have hn := splitA_ne c l []
      cases hg : (splitA c [] l).getLast? with
      | none => exact absurd (List.getLast?_eq_none_iff.1 hg) hn
      | some y =>
        rw [hg] at h
        simp only [Option.getD_some, Option.some.injEq] at h
        subst h
        rcases splitA_last c l [] hg with ⟨_, h2⟩ | ⟨l', h2⟩
        · exact .inr ⟨[], by rw [h2, e]; rfl⟩
        · exact .inr ⟨x :: l', by rw [h2]; rfl⟩
    · rcases splitA_last c l _ h with ⟨h2, _⟩ | ⟨l', h2⟩
      · simp at h2
      · exact .inr ⟨x :: l', by rw [h2]; rfl⟩

theorem bl_extract (s : ByteArray) (f i : Nat) : bl (s.extract f i) = ((bl s).drop f).take (i - f) := by
  unfold bl
  rw [ByteArray.data_extract, Array.toList_extract, List.extract_eq_take_drop]
theorem extract_strL (s : ByteArray) (f i : Nat) : s.extract f i = strL (((bl s).drop f).take (i - f)) := by
  rw [← bl_extract, strL_bl]
theorem subB_nat {s : ByteArray} {f i : Nat} (h1 : f ≤ i) (h2 : i ≤ s.size) : subB s (some (f : Int)) (some (i : Int)) = some (strL (((bl s).drop f).take (i - f))) := by
  unfold subB
  have e1 : bndI (some (i : Int)) s.size s.size = some i := idx_lt (by omega)
  have e2 : bndI (some (f : Int)) 0 i = some f := idx_lt (by omega)
  rw [e1, obind_sm, e2, obind_sm, extract_strL]
theorem subB_from {s : ByteArray} {f : Nat} (h : f ≤ s.size) : subB s (some (f : Int)) none = some (strL ((bl s).drop f)) := by
  unfold subB
  have e2 : bndI (some (f : Int)) 0 s.size = some f := idx_lt (by omega)
  show obind (some s.size) _ = _
  rw [obind_sm, e2, obind_sm, extract_strL, List.take_of_length_le (by rw [List.length_drop, bl_length]; omega)]
theorem l01Split_ok {s : ByteArray} {c : UInt8} (hs : s.size ≤ 4294960000) : t_spec_l01Split s c = some (some ((splitA c [] (bl s)).map strL)) := by
  have hl := bl_length s
  obtain ⟨⟨w6, w9⟩, h1, acc, f, h2, h3, h4, h5⟩ := loopT_ex (step := s0_spec_l01Split s c)
    (fun i (st : Sl ByteArray × Int × Int) => ∃ acc f, st = (some acc, ((f : Nat) : Int), (i : Int)) ∧ f ≤ i ∧ acc.length ≤ i ∧ acc ++ (splitA c (((bl s).drop f).take (i - f)) ((bl s).drop i)).map strL = (splitA c [] (bl s)).map strL) s.size
    (fun r => ∃ acc f, r = (some acc, ((f : Nat) : Int)) ∧ f ≤ s.size ∧ acc.length ≤ s.size ∧ acc ++ [strL ((bl s).drop f)] = (splitA c [] (bl s)).map strL)
    (fun i st hi hst => by
      obtain ⟨acc, f, rfl, h1, h2, h3⟩ := hst
      left
      obtain ⟨b, hb⟩ : ∃ b, (bl s)[i]? = some b := ⟨_, List.getElem?_eq_getElem (by omega)⟩
      have hd : (bl s).drop i = b :: (bl s).drop (i + 1) := by
        have hlt : i < (bl s).length := by omega
        rw [List.drop_eq_getElem_cons hlt]
        congr 1
        exact Option.some.inj ((List.getElem?_eq_getElem hlt).symm.trans hb)
      have ci : (i : Int) < (s.size : Int) := by omega
      rw [hd, splitA] at h3
      by_cases e : b = c
      · rw [if_pos e] at h3
        have ap := appO_some (s := some acc) (l := [strL (((bl s).drop f).take (i - f))]) (by show acc.length + 1 ≤ _; omega)
        have ee : appS (some acc) [strL (((bl s).drop f).take (i - f))] = some (acc ++ [strL (((bl s).drop f).take (i - f))]) := rfl
        refine ⟨(some (acc ++ [strL (((bl s).drop f).take (i - f))]), ((i + 1 : Nat) : Int), ((i + 1 : Nat) : Int)), ?_, _, i + 1, rfl, Nat.le_refl _, by simp; omega, ?_⟩
        · unfold s0_spec_l01Split
          dsimp only
          rw [decide_eq_true ci, cond_true, getB_bl hb, obind_sm, decide_eq_true e, cond_true, subB_nat h1 (by omega), obind_sm, ap, obind_sm, ee, wr_succ hi (by omega)]
        · rw [Nat.sub_self, List.take_zero, ← h3]
          simp
      · rw [if_neg e] at h3
        refine ⟨(some acc, (f : Int), ((i + 1 : Nat) : Int)), ?_, acc, f, rfl, by omega, by omega, ?_⟩
        · unfold s0_spec_l01Split
          dsimp only
          rw [decide_eq_true ci, cond_true, getB_bl hb, obind_sm, decide_eq_false e, cond_false, wr_succ hi (by omega)]
        · rw [← h3]
          congr 3
          have e2 : i + 1 - f = (i - f) + 1 := by omega
          rw [e2, List.take_add_one, List.getElem?_drop]
          have e3 : f + (i - f) = i := by omega
          rw [e3, hb]
          rfl)
    (fun st hst => by
      obtain ⟨acc, f, rfl, h1, h2, h3⟩ := hst
      refine ⟨(some acc, (f : Int)), ?_, acc, f, rfl, h1, h2, ?_⟩
      · unfold s0_spec_l01Split
        dsimp only
        rw [decide_eq_false (by omega), cond_false]
      · rw [List.drop_eq_nil_of_le (by omega : (bl s).length ≤ s.size), splitA] at h3
        rw [List.take_of_length_le (by rw [List.length_drop]; omega)] at h3
        exact h3)
    (s := (some ([] : List ByteArray), 0, 0)) ⟨[], 0, rfl, Nat.le_refl _, Nat.le_refl _, by simp⟩
  cases h2
  have ap := appO_some (s := some acc) (l := [strL ((bl s).drop f)]) (by show acc.length + 1 ≤ _; omega)
  unfold t_spec_l01Split
  rw [h1, obind_sm]
  simp only []
  rw [subB_from h3, obind_sm, ap, obind_sm]
  show some (some (acc ++ [strL ((bl s).drop f)])) = _
  rw [h5]

/-! ### The library's parts -/
theorem indexByte_cs : ∀ (l : List UInt8) (c : UInt8), (Lib.indexByte l c = -1 ∧ c ∉ l) ∨ ∃ a r, l = a ++ c :: r ∧ c ∉ a ∧ Lib.indexByte l c = ((a.length : Nat) : Int)
  | [], c => .inl ⟨rfl, by simp⟩
  | b :: l, c => by
    unfold Lib.indexByte
    by_cases e : b = c
    · subst e
      exact .inr ⟨[], l, rfl, by simp, by simp⟩
    · have hb : (b == c) = false := beq_eq_false_iff_ne.2 e
      rw [hb]
      rcases indexByte_cs l c with ⟨h1, h2⟩ | ⟨a, r, h1, h2, h3⟩
      · refine .inl ⟨by simp [h1], ?_⟩
        intro h
        rcases List.mem_cons.1 h with h | h
        · exact e h.symm
        · exact h2 h
      · refine .inr ⟨b :: a, r, by rw [h1]; rfl, ?_, ?_⟩
        · intro h
          rcases List.mem_cons.1 h with h | h
          · exact e h.symm
          · exact h2 h
        · rw [h3]
          have : (((a.length : Nat) : Int) == -1) = false := beq_eq_false_iff_ne.2 (by omega)
          rw [this]
          simp
theorem indexB_one (s : ByteArray) (c : UInt8) : Lib.indexB s ⟨#[c]⟩ = Lib.indexByte (bl s) c := Lib.index_one _ _
theorem splitB_list (c : UInt8) : ∀ (k : Nat) (s : ByteArray), Lib.countB s ⟨#[c]⟩ = k → Lib.splitB ⟨#[c]⟩ 0 k s = (splitA c [] (bl s)).map strL
  | k, s, hk => by
    rcases indexByte_cs (bl s) c with ⟨h1, h2⟩ | ⟨a, r, h1, h2, h3⟩
    · rw [Lib.splitB_miss _ _ _ _ (by rw [indexB_one]; exact h1), splitA_miss h2]
      show [s] = [strL ([] ++ bl s)]
      rw [List.nil_append, strL_bl]
    · have hi : Lib.indexB s ⟨#[c]⟩ = ((a.length : Nat) : Int) := by rw [indexB_one]; exact h3
      have hc := Lib.countB_hit s ⟨#[c]⟩ a.length (Nat.le_refl 1) hi
      obtain ⟨k', rfl⟩ : ∃ k', k = k' + 1 := ⟨k - 1, by omega⟩
      have hr : bl (s.extract (a.length + 1) s.size) = r := by
        rw [bl_extract, h1]
        have hl := bl_length s
        rw [h1] at hl
        rw [List.length_append, List.length_cons] at hl
        have e1 : (a ++ c :: r).drop (a.length + 1) = r := by
          rw [List.drop_append, List.drop_eq_nil_of_le (by omega)]
          have : a.length + 1 - a.length = 1 := by omega
          rw [this]
          rfl
        rw [e1, List.take_of_length_le (by omega)]
      have ha : s.extract 0 (a.length + 0) = strL a := by
        rw [extract_strL, h1]
        simp
      rw [Lib.splitB_hit _ _ _ _ _ hi, ha, h1, splitA_hit h2, List.nil_append, List.map_cons]
      have ih := splitB_list c k' (s.extract (a.length + 1) s.size) (by
        have : Lib.countB s ⟨#[c]⟩ = 1 + Lib.countB (s.extract (a.length + 1) s.size) ⟨#[c]⟩ := hc
        omega)
      rw [hr] at ih
      exact congrArg _ ih

/-! ### Decimal numbers, plain -/
def valD (acc : Nat) (l : List UInt8) : Nat := l.foldl (fun a b => 10 * a + (b.toNat - 48)) acc
def allDig (l : List UInt8) : Bool := l.all isDig
theorem isDig_v {b : UInt8} (h : isDig b = true) : 48 ≤ b.toNat ∧ b.toNat ≤ 57 := by
  unfold isDig at h
  simp only [Bool.and_eq_true, decide_eq_true_eq] at h
  omega
theorem valD_snoc (acc : Nat) (l : List UInt8) (b : UInt8) : valD acc (l ++ [b]) = 10 * valD acc l + (b.toNat - 48) := by simp [valD]
theorem valD_lt : ∀ (l : List UInt8) (acc k : Nat), allDig l = true → acc < 10 ^ k → valD acc l < 10 ^ (k + l.length)
  | [], acc, k, _, h => by simpa [valD] using h
  | b :: l, acc, k, hd, h => by
    unfold allDig at hd
    rw [List.all_cons, Bool.and_eq_true] at hd
    have hb := isDig_v hd.1
    have h2 : 10 * acc + (b.toNat - 48) < 10 ^ (k + 1) := by
      rw [Nat.pow_succ]
      omega
    have := valD_lt l (10 * acc + (b.toNat - 48)) (k + 1) hd.2 h2
    have e : k + (b :: l).length = k + 1 + l.length := by simp; omega
    rw [e]
    exact this
theorem valD_ge : ∀ (l : List UInt8) (acc : Nat), acc ≤ valD acc l
  | [], acc => Nat.le_refl _
  | b :: l, acc => by
    have := valD_ge l (10 * acc + (b.toNat - 48))
    show acc ≤ valD (10 * acc + (b.toNat - 48)) l
    omega
theorem byte_val {b : UInt8} (h : isDig b = true) : ((byteI ((b.toNat : Int) - ((48 : UInt8).toNat : Int))).toNat : Int) = ((b.toNat - 48 : Nat) : Int) := by
  have hb := isDig_v h
  have e : (b.toNat : Int) - ((48 : UInt8).toNat : Int) = ((b.toNat - 48 : Nat) : Int) := by
    have : ((48 : UInt8).toNat : Int) = 48 := rfl
    rw [this]
    omega
  rw [e, byteI_small (by omega), UInt8.toNat_ofNat', Nat.mod_eq_of_lt (by omega)]
theorem numLoop (t : ByteArray) (ht : t.size ≤ 18) : ∃ r, loopT (s0_spec_l01Number t) (0, 0) = some r ∧ ((allDig (bl t) = true ∧ r = .inl ((valD 0 (bl t) : Nat) : Int)) ∨ (allDig (bl t) = false ∧ r = .inr (0, false))) := by
  have hl := bl_length t
  exact loopT_ex (step := s0_spec_l01Number t) (fun i (st : Int × Int) => st = (((valD 0 ((bl t).take i) : Nat) : Int), (i : Int)) ∧ allDig ((bl t).take i) = true) t.size
    (fun r => (allDig (bl t) = true ∧ r = .inl ((valD 0 (bl t) : Nat) : Int)) ∨ (allDig (bl t) = false ∧ r = .inr (0, false)))
    (fun i st hi hst => by
      obtain ⟨rfl, hd⟩ := hst
      obtain ⟨b, hb⟩ : ∃ b, (bl t)[i]? = some b := ⟨_, List.getElem?_eq_getElem (by omega)⟩
      have ci : (i : Int) < (t.size : Int) := by omega
      cases hx : isDig b with
      | false =>
        right
        refine ⟨.inr (0, false), ?_, .inr ⟨?_, rfl⟩⟩
        · unfold s0_spec_l01Number
          dsimp only
          rw [decide_eq_true ci, cond_true, getB_bl hb, obind_sm, obind_sm, hx, Bool.not_false, cond_true]
        · unfold allDig
          cases h : (bl t).all isDig with
          | false => rfl
          | true =>
            have := List.all_eq_true.1 h b (List.mem_of_getElem? hb)
            rw [hx] at this
            cases this
      | true =>
        left
        have tk : (bl t).take (i + 1) = (bl t).take i ++ [b] := by rw [List.take_add_one, hb]; rfl
        have hlt := valD_lt ((bl t).take i) 0 0 hd (by decide)
        have hle : ((bl t).take i).length ≤ 17 := by rw [List.length_take]; omega
        have hp : 10 ^ (0 + ((bl t).take i).length) ≤ 10 ^ 17 := Nat.pow_le_pow_right (by decide) (by omega)
        have hb2 := isDig_v hx
        refine ⟨(((valD 0 ((bl t).take (i + 1)) : Nat) : Int), ((i + 1 : Nat) : Int)), ?_, rfl, ?_⟩
        · unfold s0_spec_l01Number
          dsimp only
          rw [decide_eq_true ci, cond_true, getB_bl hb, obind_sm, obind_sm, hx, Bool.not_true, cond_false, obind_sm, byte_val hx, tk, valD_snoc, wr_succ hi (by omega)]
          have w1 : wr (10 * ((valD 0 ((bl t).take i) : Nat) : Int)) = 10 * ((valD 0 ((bl t).take i) : Nat) : Int) := wr_id (by omega) (by omega)
          rw [w1, wr_id (by omega) (by omega)]
          push_cast
          rfl
        · rw [tk]
          unfold allDig at hd ⊢
          rw [List.all_append, hd, List.all_cons, hx]
          rfl)
    (fun st hst => by
      obtain ⟨rfl, hd⟩ := hst
      rw [List.take_of_length_le (by omega)] at hd ⊢
      refine ⟨.inl ((valD 0 (bl t) : Nat) : Int), ?_, .inl ⟨hd, rfl⟩⟩
      unfold s0_spec_l01Number
      dsimp only
      rw [decide_eq_false (by omega), cond_false]) (s := (0, 0)) ⟨rfl, rfl⟩
theorem numLoop1 (t : ByteArray) : s1_spec_l01Number t = s0_spec_l01Number t := rfl
theorem valD_small {t : ByteArray} (ht : t.size ≤ 18) (hd : allDig (bl t) = true) : ((valD 0 (bl t) : Nat) : Int) < 1000000000000000000 := by
  have h := valD_lt (bl t) 0 0 hd (by decide)
  have hp : 10 ^ (0 + (bl t).length) ≤ 10 ^ 18 := Nat.pow_le_pow_right (by decide) (by rw [bl_length]; omega)
  omega
/-- The reference's number: total, and right. -/
theorem num_ok (s : ByteArray) (hs : s.size ≤ 4294960000) : ∃ n b, t_spec_l01Number s = some (n, b) ∧ (b = true → s = itS n) := by
  have hl := bl_length s
  unfold t_spec_l01Number
  have fin : ∀ (t : ByteArray) (neg : Bool), ∃ n b, (bif (bif decide ((t.size : Int) < 1) then true else decide (18 < (t.size : Int))) then some ((0 : Int), false) else
      obind (loopT (s0_spec_l01Number t) (0, 0)) fun qq39 => match qq39 with
      | (.inl q17) =>
          bif neg then
            obind (t_spec_l01Dec (wr (0 - q17))) fun c20 =>
            bif !decide (c20 = s) then
              some (0, false)
            else
              some (wr (0 - q17), true)
          else
            obind (t_spec_l01Dec q17) fun c22 =>
            bif !decide (c22 = s) then
              some (0, false)
            else
              some (q17, true)
      | (.inr (q26, q27)) =>
          some (q26, q27)) = some (n, b) ∧ (b = true → s = itS n) := by
    intro t neg
    by_cases c1 : (t.size : Int) < 1
    · rw [decide_eq_true c1]
      exact ⟨0, false, rfl, fun h => by cases h⟩
    by_cases c2 : 18 < (t.size : Int)
    · rw [decide_eq_true c2, decide_eq_false c1]
      exact ⟨0, false, rfl, fun h => by cases h⟩
    rw [decide_eq_false c1, decide_eq_false c2]
    simp only [cond_false]
    obtain ⟨r, h1, h2⟩ := numLoop t (by omega)
    rw [h1, obind_sm]
    rcases h2 with ⟨hd, rfl⟩ | ⟨hd, rfl⟩
    · have hv := valD_small (by omega) hd
      cases neg with
      | true =>
        have w : wr (0 - ((valD 0 (bl t) : Nat) : Int)) = -((valD 0 (bl t) : Nat) : Int) := by rw [wr_id (by omega) (by omega)]; omega
        simp only [cond_true, w]
        rw [(l01Dec_ok (n := -((valD 0 (bl t) : Nat) : Int)) (by omega) (by omega)).1, obind_sm]
        by_cases e : itS (-((valD 0 (bl t) : Nat) : Int)) = s
        · rw [decide_eq_true e]
          exact ⟨_, true, rfl, fun _ => e.symm⟩
        · rw [decide_eq_false e]
          exact ⟨0, false, rfl, fun h => by cases h⟩
      | false =>
        simp only [cond_false]
        rw [(l01Dec_ok (n := ((valD 0 (bl t) : Nat) : Int)) (by omega) (by omega)).1, obind_sm]
        by_cases e : itS ((valD 0 (bl t) : Nat) : Int) = s
        · rw [decide_eq_true e]
          exact ⟨_, true, rfl, fun _ => e.symm⟩
        · rw [decide_eq_false e]
          exact ⟨0, false, rfl, fun h => by cases h⟩
    · exact ⟨0, false, rfl, fun h => by cases h⟩
  by_cases c0 : s = (⟨#[]⟩ : ByteArray)
  · subst c0
    exact ⟨0, false, rfl, fun h => by cases h⟩
  have h0 : 0 < s.size := by
    rcases Nat.eq_zero_or_pos s.size with h | h
    · exfalso
      apply c0
      rw [← strL_bl s, List.eq_nil_of_length_eq_zero (by omega : (bl s).length = 0)]
      rfl
    · exact h
  obtain ⟨b0, hb0⟩ : ∃ b0, (bl s)[0]? = some b0 := ⟨_, List.getElem?_eq_getElem (by omega)⟩
  have gb : getB s 0 = some b0 := getB_bl (k := 0) hb0
  rw [decide_eq_false c0]
  simp only [Bool.not_false, cond_true, gb, obind_sm]
  by_cases cm : (b0.toNat : Int) = 45
  · rw [decide_eq_true cm]
    have sb := subB_from (s := s) (f := 1) (by omega)
    have sb' : subB s (some 1) none = some (strL ((bl s).drop 1)) := sb
    simp only [cond_true, sb', obind_sm]
    have lt : decide (((strL ((bl s).drop 1)).size : Int) < (s.size : Int)) = true := decide_eq_true (by rw [strL_size, List.length_drop]; omega)
    rw [lt]
    have := fin (strL ((bl s).drop 1)) true
    by_cases c1 : ((strL ((bl s).drop 1)).size : Int) < 1
    · rw [decide_eq_true c1]
      exact ⟨0, false, rfl, fun h => by cases h⟩
    · rw [decide_eq_false c1] at this ⊢
      simp only [cond_false, cond_true, obind_sm] at this ⊢
      exact this
  · rw [decide_eq_false cm]
    simp only [cond_false, numLoop1]
    have lt : decide ((s.size : Int) < (s.size : Int)) = false := decide_eq_false (by omega)
    rw [lt]
    have := fin s false
    by_cases c1 : (s.size : Int) < 1
    · omega
    · rw [decide_eq_false c1] at this ⊢
      simp only [cond_false, obind_sm] at this ⊢
      exact this

theorem decDig (m : Nat) : allDig (Lib.decDigits m) = true ∧ valD 0 (Lib.decDigits m) = m := by
  induction m using Nat.strongRecOn with
  | _ m ih =>
    rw [Lib.decDigits]
    have hb : ∀ k, k < 10 → isDig (UInt8.ofNat (48 + k)) = true ∧ (UInt8.ofNat (48 + k)).toNat - 48 = k := fun k hk => by
      have e : (UInt8.ofNat (48 + k)).toNat = 48 + k := by rw [UInt8.toNat_ofNat', Nat.mod_eq_of_lt (by omega)]
      refine ⟨?_, by omega⟩
      unfold isDig
      rw [e, Bool.and_eq_true, decide_eq_true_eq, decide_eq_true_eq]
      omega
    by_cases h : m < 10
    · rw [dif_pos h]
      obtain ⟨h1, h2⟩ := hb m h
      refine ⟨by unfold allDig; rw [List.all_cons, h1]; rfl, ?_⟩
      show 10 * 0 + ((UInt8.ofNat (48 + m)).toNat - 48) = m
      omega
    · rw [dif_neg h]
      obtain ⟨h1, h2⟩ := hb (m % 10) (Nat.mod_lt _ (by decide))
      obtain ⟨i1, i2⟩ := ih (m / 10) (by omega)
      refine ⟨?_, ?_⟩
      · unfold allDig at i1 ⊢
        rw [List.all_append, i1, List.all_cons, h1]
        rfl
      · rw [valD_snoc, i2, h2]
        omega
theorem itS_nat (m : Nat) : itS (m : Int) = strL (Lib.decDigits m) := by
  unfold itS
  rw [Lib.itoa_nonneg]
theorem decDigits_ne (m : Nat) : Lib.decDigits m ≠ [] := by
  rw [Lib.decDigits]
  split <;> simp
theorem decLen {m : Nat} (h : m ≤ 1000000) : (Lib.decDigits m).length ≤ 18 := by
  have h2 := (l01Dec_ok (n := (m : Int)) (by omega) (by omega)).2
  rcases Nat.lt_or_ge 18 (Lib.decDigits m).length with hx | hx
  · exfalso
    have hm : m ≠ 0 := fun e => by
      subst e
      rw [Lib.decDigits, dif_pos (by decide)] at hx
      simp at hx
    have dd : digs m = Lib.decDigits m := by unfold digs; rw [if_neg hm]
    have := digs_len 7 m (by omega)
    rw [dd] at this
    omega
  · exact hx
theorem num_itS {m : Nat} (h : m ≤ 1000000) : t_spec_l01Number (itS (m : Int)) = some ((m : Int), true) := by
  obtain ⟨d1, d2⟩ := decDig m
  have dl := decLen h
  rw [itS_nat]
  obtain ⟨b, r, hbr⟩ : ∃ b r, Lib.decDigits m = b :: r := by
    cases e : Lib.decDigits m with
    | nil => exact absurd e (decDigits_ne m)
    | cons b r => exact ⟨b, r, rfl⟩
  have hb : isDig b = true := by
    unfold allDig at d1
    rw [hbr, List.all_cons, Bool.and_eq_true] at d1
    exact d1.1
  have hv := isDig_v hb
  have hbl : bl (strL (Lib.decDigits m)) = Lib.decDigits m := bl_strL _
  have hsz : (strL (Lib.decDigits m)).size = (Lib.decDigits m).length := strL_size _
  have hpos : 1 ≤ (Lib.decDigits m).length := by rw [hbr]; simp
  have gb : getB (strL (Lib.decDigits m)) 0 = some b := getB_bl (k := 0) (by rw [hbl, hbr]; rfl)
  have ne : strL (Lib.decDigits m) ≠ (⟨#[]⟩ : ByteArray) := fun e => by
    rw [e] at hsz
    have : (⟨#[]⟩ : ByteArray).size = 0 := rfl
    omega
  obtain ⟨q, h1, h2⟩ := numLoop (strL (Lib.decDigits m)) (by omega)
  rw [hbl] at h2
  have hq : q = .inl (m : Int) := by
    rcases h2 with ⟨_, h2⟩ | ⟨h2, _⟩
    · rw [h2, d2]
    · rw [d1] at h2; cases h2
  subst hq
  have e1 : ¬ ((strL (Lib.decDigits m)).size : Int) < 1 := by omega
  have e2 : ¬ 18 < ((strL (Lib.decDigits m)).size : Int) := by omega
  have e3 : ¬ (b.toNat : Int) = 45 := by omega
  have e4 : ¬ ((strL (Lib.decDigits m)).size : Int) < ((strL (Lib.decDigits m)).size : Int) := by omega
  unfold t_spec_l01Number
  rw [decide_eq_false ne]
  simp only [Bool.not_false, cond_true, gb, obind_sm]
  rw [decide_eq_false e3]
  simp only [cond_false, numLoop1]
  rw [decide_eq_false e1, decide_eq_false e2, decide_eq_false e4]
  simp only [cond_false, obind_sm, h1]
  rw [(l01Dec_ok (n := (m : Int)) (by omega) (by omega)).1, obind_sm, itS_nat, decide_eq_true rfl]
  rfl
theorem parseM_dig (M : Nat) (hM : 1000000 ≤ M) : ∀ (l : List UInt8) (acc : Nat), allDig l = true → valD acc l ≤ 1000000 → Lib.parseUintM M acc l = .ok (valD acc l)
  | [], acc, _, _ => rfl
  | b :: l, acc, hd, hv => by
    unfold allDig at hd
    rw [List.all_cons, Bool.and_eq_true] at hd
    have hb := isDig_v hd.1
    have hv2 : valD (10 * acc + (b.toNat - 48)) l ≤ 1000000 := hv
    have hg := valD_ge l (10 * acc + (b.toNat - 48))
    have e : acc * 10 + (b.toNat - 48) = 10 * acc + (b.toNat - 48) := by omega
    rw [Lib.parseUintM, if_pos hb, if_neg (by omega), if_neg (by omega), e]
    exact parseM_dig M hM l _ hd.2 hv2
theorem readDec_itS {m : Nat} (h : m ≤ 1000000) : readDecB (itS (m : Int)) = ((m : Int), true) := by
  obtain ⟨d1, d2⟩ := decDig m
  have dl := decLen h
  obtain ⟨b, r, hbr⟩ : ∃ b r, Lib.decDigits m = b :: r := by
    cases e : Lib.decDigits m with
    | nil => exact absurd e (decDigits_ne m)
    | cons b r => exact ⟨b, r, rfl⟩
  have hb : isDig b = true := by
    unfold allDig at d1
    rw [hbr, List.all_cons, Bool.and_eq_true] at d1
    exact d1.1
  have hv := isDig_v hb
  have hl : (itS (m : Int)).data.toList = b :: r := by
    rw [itS_nat, ← hbr]
    rfl
  have hp : Lib.parseIntB 64 (b :: r) = .ok (m : Int) := by
    rw [Lib.parseIntB_plain 64 b r (by omega) (by omega)]
    have hu : Lib.parseUintB 64 (b :: r) = .ok m := by
      unfold Lib.parseUintB
      rw [if_neg (by simp), parseM_dig _ (by decide) _ _ (by rw [← hbr]; exact d1) (by rw [← hbr, d2]; exact h), ← hbr, d2]
    rw [hu]
    show (if 2 ^ 63 ≤ m then Lib.NumEnd.range else .ok (m : Int)) = _
    rw [if_neg (by omega)]
  have ht : Lib.trimPrefix (b :: r) [45] = b :: r := by
    unfold Lib.trimPrefix Lib.hasPrefix
    have : ([45].isPrefixOf (b :: r)) = false := by
      have : ((45 : UInt8) == b) = false := beq_eq_false_iff_ne.2 (fun e => by rw [← e] at hv; exact absurd hv.1 (by decide))
      simp [List.isPrefixOf, this]
    rw [this]
    rfl
  have hlen : (b :: r).length ≤ 18 := by rw [← hbr]; exact dl
  unfold readDecB
  rw [hl, hp, ht]
  dsimp only
  rw [decide_eq_true (show 1 ≤ (b :: r).length by simp), decide_eq_true hlen, decide_eq_true rfl]
  rfl

/-! ### Reading a model, plain -/
def linesT (ls : List (List UInt8)) : List UInt8 := ls.flatMap (· ++ [10])
theorem linesT_join : ∀ {ls : List (List UInt8)} (_ : ls ≠ []), linesT ls = joinA 10 ls ++ [10]
  | [a], _ => by simp [linesT, joinA]
  | a :: b :: t, _ => by
    have h := linesT_join (ls := b :: t) (by simp)
    have e : linesT (a :: b :: t) = a ++ [10] ++ linesT (b :: t) := by simp [linesT]
    rw [e, h, show joinA 10 (a :: b :: t) = a ++ 10 :: joinA 10 (b :: t) from rfl]
    simp only [List.append_assoc, List.cons_append, List.nil_append]
theorem split_lines : ∀ {ls : List (List UInt8)} (_ : ls ≠ []) (_ : ∀ l ∈ ls, (10 : UInt8) ∉ l), ∃ l', linesT ls = l' ++ [10] ∧ splitA 10 [] l' = ls
  | [a], _, h => ⟨a, by simp [linesT], by rw [splitA_miss (h a (by simp))]; rfl⟩
  | a :: b :: t, _, h => by
    obtain ⟨l', h1, h2⟩ := split_lines (ls := b :: t) (by simp) (fun l hl => h l (List.mem_cons_of_mem _ hl))
    refine ⟨a ++ 10 :: l', ?_, ?_⟩
    · have e : linesT (a :: b :: t) = a ++ [10] ++ linesT (b :: t) := by simp [linesT]
      rw [e, h1]
      simp
    · rw [splitA_hit (h a (by simp)), h2]
      rfl
/-- A pair's first word, as it is written. -/
def fwB (b : Bigram) : List UInt8 := bif decide (b.first = (⟨#[]⟩ : ByteArray)) then [45] else bl b.first
def bigL (b : Bigram) : List UInt8 := fwB b ++ 32 :: (bl b.second ++ 32 :: bl (itS b.cost))
def headL (d : Int) : List UInt8 := [100, 101, 102, 97, 117, 108, 116] ++ 32 :: bl (itS d)
theorem bigLine_L (b : Bigram) : bigLineB b = bigL b ++ [10] := by
  unfold bigLineB bigL fwB
  simp
theorem modHead_L (d : Int) : modHeadB d = headL d ++ [10] := by
  unfold modHeadB headL
  simp
theorem modText_L (m : Model) : modTextB m = linesT (headL m.default :: (m.bigrams.getD []).map bigL) := by
  unfold modTextB linesT
  rw [modHead_L, List.flatMap_cons]
  congr 1
  induction m.bigrams.getD [] with
  | nil => rfl
  | cons b l ih => rw [List.flatMap_cons, List.map_cons, List.flatMap_cons, ih, bigLine_L]
theorem low_mem {s : ByteArray} (h : isWord s = true) : ∀ x ∈ bl s, 97 ≤ x.toNat := by
  intro x hx
  unfold isWord at h
  rw [Bool.and_eq_true] at h
  have := List.all_eq_true.1 h.1 x hx
  unfold isLow at this
  simp only [Bool.and_eq_true, decide_eq_true_eq] at this
  omega
theorem dig_mem {n : Nat} : ∀ x ∈ bl (itS (n : Int)), 48 ≤ x.toNat ∧ x.toNat ≤ 57 := by
  intro x hx
  rw [itS_nat, bl_strL] at hx
  have := (decDig n).1
  unfold allDig at this
  exact isDig_v (List.all_eq_true.1 this x hx)
theorem not_mem_of {l : List UInt8} {c : UInt8} (h : ∀ x ∈ l, c.toNat < x.toNat) : c ∉ l := fun hc => Nat.lt_irrefl _ (h c hc)
theorem valBig_w {b : Bigram} (h : validBigram b = true) : isWord b.second = true ∧ (b.first = (⟨#[]⟩ : ByteArray) ∨ isWord b.first = true) ∧ ∃ c : Nat, b.cost = (c : Int) ∧ c ≤ 1000000 := by
  obtain ⟨h1, h2, h3⟩ := valBig_v h
  unfold validBigram isFirst at h
  simp only [Bool.and_eq_true, Bool.or_eq_true, decide_eq_true_eq] at h
  exact ⟨h.1, h.2.1, b.cost.toNat, by omega, by omega⟩
theorem words_big {b : Bigram} (h : validBigram b = true) : splitA 32 [] (bigL b) = [fwB b, bl b.second, bl (itS b.cost)] ∧ (10 : UInt8) ∉ bigL b := by
  obtain ⟨h1, h2, c, h3, h4⟩ := valBig_w h
  have hs := low_mem h1
  have hf : ∀ x ∈ fwB b, 45 ≤ x.toNat := by
    intro x hx
    unfold fwB at hx
    cases e : decide (b.first = (⟨#[]⟩ : ByteArray)) with
    | true =>
      rw [e, cond_true] at hx
      rw [List.mem_singleton.1 hx]
      decide
    | false =>
      rw [e, cond_false] at hx
      have := low_mem (h2.resolve_left (of_decide_eq_false e)) x hx
      omega
  have hc : ∀ x ∈ bl (itS b.cost), 48 ≤ x.toNat := by
    rw [h3]
    exact fun x hx => (dig_mem x hx).1
  constructor
  · unfold bigL
    rw [splitA_hit (not_mem_of fun x hx => Nat.lt_of_lt_of_le (by decide) (hf x hx)), splitA_hit (not_mem_of fun x hx => Nat.lt_of_lt_of_le (by decide) (hs x hx)), splitA_miss (not_mem_of fun x hx => Nat.lt_of_lt_of_le (by decide) (hc x hx))]
    rfl
  · unfold bigL
    intro hx
    rcases List.mem_append.1 hx with hx | hx
    · exact absurd (hf _ hx) (by decide)
    rcases List.mem_cons.1 hx with hx | hx
    · exact absurd hx (by decide)
    rcases List.mem_append.1 hx with hx | hx
    · exact absurd (hs _ hx) (by decide)
    rcases List.mem_cons.1 hx with hx | hx
    · exact absurd hx (by decide)
    · exact absurd (hc _ hx) (by decide)
theorem words_head (d : Nat) : splitA 32 [] (headL (d : Int)) = [[100, 101, 102, 97, 117, 108, 116], bl (itS (d : Int))] ∧ (10 : UInt8) ∉ headL (d : Int) := by
  have hc : ∀ x ∈ bl (itS (d : Int)), 48 ≤ x.toNat := fun x hx => (dig_mem x hx).1
  constructor
  · unfold headL
    rw [splitA_hit (by decide), splitA_miss (not_mem_of fun x hx => Nat.lt_of_lt_of_le (by decide) (hc x hx))]
    rfl
  · unfold headL
    intro hx
    rcases List.mem_append.1 hx with hx | hx
    · exact absurd hx (by decide)
    rcases List.mem_cons.1 hx with hx | hx
    · exact absurd hx (by decide)
    · exact absurd (hc _ hx) (by decide)
/-- The list so far, as it is appended to nil. -/
def slT {A : Type} (l : List A) : Sl A := match l with
  | [] => none
  | a :: t => some (a :: t)
theorem slT_getD {A : Type} (l : List A) : (slT l).getD [] = l := by cases l <;> rfl
theorem slT_app {A : Type} (l : List A) (a : A) : appS (slT l) [a] = slT (l ++ [a]) := by cases l <;> rfl
theorem slT_app0 {A : Type} {l : List A} (a : A) (h : l.length ≤ 4000000) : appO (slT l) [a] = some (slT (l ++ [a])) := by
  rw [appO_some (by rw [slT_getD]; simp; omega), slT_app]
theorem splitA_size (c : UInt8) : ∀ (l p : List UInt8), ∀ w ∈ splitA c p l, w.length ≤ p.length + l.length
  | [], p, w, h => by
    rw [splitA, List.mem_singleton] at h
    subst h
    simp
  | x :: l, p, w, h => by
    rw [splitA] at h
    split at h
    · rcases List.mem_cons.1 h with h | h
      · subst h
        simp
      · have := splitA_size c l [] w h
        simp only [List.length_nil, List.length_cons] at this ⊢
        omega
    · have := splitA_size c l _ w h
      simp only [List.length_append, List.length_cons, List.length_nil] at this ⊢
      omega
theorem splitO_one {s : ByteArray} {c : UInt8} (hs : s.size ≤ 4294960000) : splitO s ⟨#[c]⟩ = some (some ((splitA c [] (bl s)).map strL)) := by
  unfold splitO
  rw [decide_eq_true (show s.size ≤ 4294967000 by omega), show decide (1 ≤ (⟨#[c]⟩ : ByteArray).size) = true from rfl]
  show some (some (Lib.splitB ⟨#[c]⟩ 0 (Lib.countB s ⟨#[c]⟩) s)) = _
  rw [splitB_list c _ s rfl]

theorem strL_eq {s : ByteArray} {l : List UInt8} : s = strL l ↔ bl s = l := by
  constructor
  · rintro rfl
    exact bl_strL l
  · rintro rfl
    exact (strL_bl s).symm
theorem subB_to {s : ByteArray} {i : Nat} (h : i ≤ s.size) : subB s none (some (i : Int)) = some (strL ((bl s).take i)) := by
  unfold subB
  have e1 : bndI (some (i : Int)) s.size s.size = some i := idx_lt (by omega)
  rw [e1, obind_sm]
  show some (s.extract 0 i) = _
  rw [extract_strL, List.drop_zero, Nat.sub_zero]
theorem hasSuf_ok {s : ByteArray} (hs : s.size ≤ 4294960000) (h1 : 1 ≤ s.size) : t_internal_stringslite_HasSuffix s (⟨#[10]⟩ : ByteArray) = some (decide ((bl s).drop (s.size - 1) = [10])) := by
  have z : ((⟨#[10]⟩ : ByteArray).size : Int) = 1 := rfl
  have w : wr ((s.size : Int) - 1) = ((s.size - 1 : Nat) : Int) := by rw [wr_id (by omega) (by omega)]; omega
  have e : decide (strL ((bl s).drop (s.size - 1)) = (⟨#[10]⟩ : ByteArray)) = decide ((bl s).drop (s.size - 1) = [10]) := by
    apply decide_eq_decide.2
    rw [nl10]
    constructor
    · intro h
      have := congrArg bl h
      rwa [bl_strL, bl_strL] at this
    · intro h
      rw [h]
  unfold t_internal_stringslite_HasSuffix
  rw [z, decide_eq_true (show (1 : Int) ≤ (s.size : Int) by omega), w, subB_from (by omega)]
  simp only [cond_true, obind_sm, e]
theorem linesOf_ok {s : ByteArray} (hs : s.size ≤ 4294960000) :
    (s = ⟨#[]⟩ ∧ t_impl_linesOf s = some (none, true)) ∨ (∃ l', bl s = l' ++ [10] ∧ t_impl_linesOf s = some (some ((splitA 10 [] l').map strL), true)) ∨ ((∀ l', bl s ≠ l' ++ [10]) ∧ s ≠ ⟨#[]⟩ ∧ t_impl_linesOf s = some (none, false)) := by
  have hl := bl_length s
  unfold t_impl_linesOf
  by_cases c0 : s = (⟨#[]⟩ : ByteArray)
  · exact .inl ⟨c0, by rw [decide_eq_true c0]; rfl⟩
  have h0 : 1 ≤ s.size := by
    rcases Nat.eq_zero_or_pos s.size with h | h
    · exfalso
      apply c0
      rw [← strL_bl s, List.eq_nil_of_length_eq_zero (by omega : (bl s).length = 0)]
      rfl
    · exact h
  have hS := hasSuf_ok hs h0
  right
  rw [decide_eq_false c0, cond_false]
  unfold t_strings_HasSuffix
  rw [hS, obind_sm, obind_sm]
  by_cases c1 : (bl s).drop (s.size - 1) = [10]
  · left
    have hb : bl s = (bl s).take (s.size - 1) ++ [10] := by rw [← c1, List.take_append_drop]
    refine ⟨(bl s).take (s.size - 1), hb, ?_⟩
    have w : wr ((s.size : Int) - ((⟨#[10]⟩ : ByteArray).size : Int)) = ((s.size - 1 : Nat) : Int) := by
      have z : ((⟨#[10]⟩ : ByteArray).size : Int) = 1 := rfl
      rw [z, wr_id (by omega) (by omega)]
      omega
    rw [decide_eq_true c1, Bool.not_true, cond_false]
    unfold t_strings_TrimSuffix t_internal_stringslite_TrimSuffix
    rw [hS, obind_sm, decide_eq_true c1, cond_true, w, subB_to (by omega), obind_sm, obind_sm, obind_sm, splitO_one (by rw [strL_size, List.length_take]; omega), obind_sm, bl_strL]
  · right
    refine ⟨fun l' h => c1 ?_, c0, ?_⟩
    · have hl2 : l'.length = s.size - 1 := by
        have := congrArg List.length h
        rw [List.length_append] at this
        simp only [List.length_cons, List.length_nil] at this
        omega
      rw [h, ← hl2, List.drop_left]
    · rw [decide_eq_false c1]
      rfl
theorem trimP_ok {s : ByteArray} (hs : s.size ≤ 4294960000) : t_strings_TrimPrefix s (⟨#[45]⟩ : ByteArray) = some (bif decide ((bl s).take 1 = [45]) then strL ((bl s).drop 1) else s) := by
  have z : ((⟨#[45]⟩ : ByteArray).size : Int) = ((1 : Nat) : Int) := rfl
  have m45 : (⟨#[45]⟩ : ByteArray) = strL [45] := (rfl)
  have e : decide (strL ((bl s).take 1) = (⟨#[45]⟩ : ByteArray)) = decide ((bl s).take 1 = [45]) := by
    apply decide_eq_decide.2
    rw [m45]
    constructor
    · intro h
      have := congrArg bl h
      rwa [bl_strL, bl_strL] at this
    · intro h
      rw [h]
  unfold t_strings_TrimPrefix t_internal_stringslite_TrimPrefix t_internal_stringslite_HasPrefix
  rw [z]
  by_cases c : ((1 : Nat) : Int) ≤ (s.size : Int)
  · rw [decide_eq_true c, subB_to (by omega)]
    simp only [cond_true, obind_sm, e]
    cases decide ((bl s).take 1 = [45]) with
    | true => simp only [cond_true, subB_from (s := s) (f := 1) (by omega), obind_sm]
    | false => simp only [cond_false, obind_sm]
  · have h0 : bl s = [] := List.eq_nil_of_length_eq_zero (by rw [bl_length]; omega)
    rw [decide_eq_false c, h0]
    rfl

theorem getI_map {ls : List (List UInt8)} {k : Nat} {l : List UInt8} (h : ls[k]? = some l) : getI (ls.map strL) (k : Int) = some (strL l) := getI_nat (by rw [List.getElem?_map, h]; rfl)
theorem wordsOf_ok {l : List UInt8} (h : l.length ≤ 4000000) : t_impl_wordsOf (strL l) = some (some ((splitA 32 [] l).map strL)) := by
  unfold t_impl_wordsOf
  rw [splitO_one (by rw [strL_size]; omega), obind_sm, bl_strL]
theorem wordsSp_ok {l : List UInt8} (h : l.length ≤ 4000000) : t_spec_l01Split (strL l) 32 = some (some ((splitA 32 [] l).map strL)) := by
  rw [l01Split_ok (by rw [strL_size]; omega), bl_strL]
theorem three_cs {l : List (List UInt8)} (h : l.length = 3) : ∃ a b c, l = [a, b, c] := by
  match l, h with
  | [a, b, c], _ => exact ⟨a, b, c, rfl⟩
theorem two_cs {l : List (List UInt8)} (h : l.length = 2) : ∃ a b, l = [a, b] := by
  match l, h with
  | [a, b], _ => exact ⟨a, b, rfl⟩
theorem strL_inj {a b : List UInt8} : strL a = strL b ↔ a = b := by
  constructor
  · intro h
    have := congrArg bl h
    rwa [bl_strL, bl_strL] at this
  · intro h
    rw [h]
theorem strL_nil {a : List UInt8} : strL a = (⟨#[]⟩ : ByteArray) ↔ a = [] := strL_inj (b := [])
theorem strL_da {a : List UInt8} : strL a = (⟨#[45]⟩ : ByteArray) ↔ a = [45] := strL_inj (b := [45])
theorem strL_de {a : List UInt8} : strL a = (⟨#[100, 101, 102, 97, 117, 108, 116]⟩ : ByteArray) ↔ a = [100, 101, 102, 97, 117, 108, 116] := strL_inj (b := [100, 101, 102, 97, 117, 108, 116])
/-- The words of a pair that a line tells. -/
def smallB (b : Bigram) : Prop := b.first.size ≤ 4000000 ∧ b.second.size ≤ 4000000
/-- The reference's loop. -/
theorem readLoop {ls : List (List UInt8)} (hlen : ls.length ≤ 2000000) (hsz : ∀ l ∈ ls, l.length ≤ 4000000) (h1 : 1 ≤ ls.length) (d : Int) (ok0 : Bool) (hh : ok0 = true → modHeadB d = linesT (ls.take 1)) :
    ∃ r, loopT (s0_spec_l18Read (some (ls.map strL))) (d, (none : Sl Bigram), ok0, 1) = some r ∧ ((∃ g ok, r = .inl (d, slT g, ok) ∧ g.length ≤ 2000000 ∧ (∀ b ∈ g, smallB b) ∧ (ok = true → modHeadB d ++ g.flatMap bigLineB = linesT ls)) ∨ r = .inr false) := by
  exact loopT_ex (step := s0_spec_l18Read (some (ls.map strL)))
    (fun i (st : Int × Sl Bigram × Bool × Int) => ∃ g ok, st = (d, slT g, ok, ((i + 1 : Nat) : Int)) ∧ g.length = i ∧ (∀ b ∈ g, smallB b) ∧ (ok = true → modHeadB d ++ g.flatMap bigLineB = linesT (ls.take (i + 1)))) (ls.length - 1)
    (fun r => (∃ g ok, r = .inl (d, slT g, ok) ∧ g.length ≤ 2000000 ∧ (∀ b ∈ g, smallB b) ∧ (ok = true → modHeadB d ++ g.flatMap bigLineB = linesT ls)) ∨ r = .inr false)
    (fun i st hi hst => by
      obtain ⟨g, ok, rfl, hg, hsm, hk⟩ := hst
      obtain ⟨l, hl⟩ : ∃ l, ls[i + 1]? = some l := ⟨_, List.getElem?_eq_getElem (by omega)⟩
      have hll := hsz l (List.mem_of_getElem? hl)
      have ci : ((i + 1 : Nat) : Int) < (((ls.map strL).length : Nat) : Int) := by rw [List.length_map]; omega
      cases ok with
      | false =>
        right
        refine ⟨.inl (d, slT g, false), ?_, .inl ⟨g, false, rfl, by omega, hsm, fun h => by cases h⟩⟩
        unfold s0_spec_l18Read
        dsimp only
        rw [Option.getD_some, decide_eq_true ci, cond_true, obind_sm, cond_true, cond_false]
      | true =>
        have wk := wordsSp_ok hll
        have hj := splitA_join 32 l []
        rw [List.nil_append] at hj
        have wsz := splitA_size 32 l []
        generalize splitA 32 [] l = W at wk hj wsz
        have ci' := decide_eq_true ci
        have gl := getI_map hl
        by_cases c3 : W.length = 3
        · obtain ⟨a, b, c, rfl⟩ := three_cs c3
          have g0 : getI ([a, b, c].map strL) 0 = some (strL a) := getI_nat (m := 0) rfl
          have g1 : getI ([a, b, c].map strL) 1 = some (strL b) := getI_nat (m := 1) rfl
          have g2 : getI ([a, b, c].map strL) 2 = some (strL c) := getI_nat (m := 2) rfl
          have dl : decide (((([a, b, c].map strL).length : Nat) : Int) = 3) = true := rfl
          by_cases ca : a = []
          · right
            have da : decide (strL a = (⟨#[]⟩ : ByteArray)) = true := decide_eq_true (strL_nil.2 ca)
            refine ⟨.inr false, ?_, .inr rfl⟩
            unfold s0_spec_l18Read
            dsimp only
            simp only [Option.getD_some, ci', cond_true, obind_sm, gl, wk, dl, Bool.not_true, cond_false, g0, da]
          · have ha := wsz a (by simp)
            have hb := wsz b (by simp)
            have hc := wsz c (by simp)
            simp only [List.length_nil, Nat.zero_add] at ha hb hc
            obtain ⟨n, fine, e1, e2⟩ := num_ok (strL c) (by rw [strL_size]; omega)
            have da : decide (strL a = (⟨#[]⟩ : ByteArray)) = false := decide_eq_false (fun h => ca (strL_nil.1 h))
            have ws : wr (((i + 1 : Nat) : Int) + 1) = ((i + 1 + 1 : Nat) : Int) := wr_succ (k := i + 1) (n := ls.length) (by omega) (by omega)
            have tk : linesT (ls.take (i + 1 + 1)) = linesT (ls.take (i + 1)) ++ (l ++ [10]) := by
              unfold linesT
              rw [List.take_add_one, hl, List.flatMap_append]
              simp
            have fin : ∀ f : ByteArray, f.size ≤ 4000000 → (bif decide (f = (⟨#[]⟩ : ByteArray)) then [45] else bl f) = a → ∃ g' ok', ((d, slT (g ++ [(⟨f, strL b, n⟩ : Bigram)]), fine, ((i + 1 + 1 : Nat) : Int)) : Int × Sl Bigram × Bool × Int) = (d, slT g', ok', ((i + 1 + 1 : Nat) : Int)) ∧ g'.length = i + 1 ∧ (∀ b ∈ g', smallB b) ∧ (ok' = true → modHeadB d ++ g'.flatMap bigLineB = linesT (ls.take (i + 1 + 1))) := fun f hf hfa => by
              refine ⟨_, _, rfl, by simp [hg], fun x hx => ?_, fun hfin => ?_⟩
              · rcases List.mem_append.1 hx with hx | hx
                · exact hsm x hx
                · rw [List.mem_singleton.1 hx]
                  exact ⟨hf, by show (strL b).size ≤ _; rw [strL_size]; omega⟩
              · have hcn : bl (itS n) = c := by rw [← e2 hfin, bl_strL]
                rw [List.flatMap_append, ← List.append_assoc, hk rfl, tk, List.flatMap_cons, List.flatMap_nil, List.append_nil, bigLine_L]
                congr 2
                unfold bigL fwB
                dsimp only
                rw [hfa, bl_strL, hcn, ← hj]
                rfl
            left
            by_cases cd : a = [45]
            · have dd : decide (strL a = (⟨#[45]⟩ : ByteArray)) = true := decide_eq_true (strL_da.2 cd)
              refine ⟨(d, slT (g ++ [(⟨⟨#[]⟩, strL b, n⟩ : Bigram)]), fine, ((i + 1 + 1 : Nat) : Int)), ?_, fin _ (Nat.zero_le _) (by rw [cd]; rfl)⟩
              unfold s0_spec_l18Read
              dsimp only
              simp only [Option.getD_some, ci', cond_true, obind_sm, gl, wk, dl, Bool.not_true, cond_false, g0, g1, g2, da, e1, dd, slT_app0 (l := g) _ (show g.length ≤ 4000000 by omega), slT_app, ws]
            · have dd : decide (strL a = (⟨#[45]⟩ : ByteArray)) = false := decide_eq_false (fun h => cd (strL_da.1 h))
              refine ⟨(d, slT (g ++ [(⟨strL a, strL b, n⟩ : Bigram)]), fine, ((i + 1 + 1 : Nat) : Int)), ?_, fin _ (by rw [strL_size]; omega) (by rw [da, cond_false, bl_strL])⟩
              unfold s0_spec_l18Read
              dsimp only
              simp only [Option.getD_some, ci', cond_true, obind_sm, gl, wk, dl, Bool.not_true, cond_false, g0, g1, g2, da, e1, dd, slT_app0 (l := g) _ (show g.length ≤ 4000000 by omega), slT_app, ws]
        · right
          have dl : decide ((((W.map strL).length : Nat) : Int) = 3) = false := decide_eq_false (by rw [List.length_map]; omega)
          refine ⟨.inr false, ?_, .inr rfl⟩
          unfold s0_spec_l18Read
          dsimp only
          simp only [Option.getD_some, ci', cond_true, obind_sm, gl, wk, dl, Bool.not_false])
    (fun st hst => by
      obtain ⟨g, ok, rfl, hg, hsm, hk⟩ := hst
      refine ⟨.inl (d, slT g, ok), ?_, .inl ⟨g, ok, rfl, by omega, hsm, fun h => ?_⟩⟩
      · unfold s0_spec_l18Read
        dsimp only
        rw [Option.getD_some, decide_eq_false (by rw [List.length_map]; omega)]
        rfl
      · rw [hk h, List.take_of_length_le (by omega)]) (s := (d, (none : Sl Bigram), ok0, 1)) ⟨[], ok0, rfl, rfl, (fun b hb => by cases hb), fun h => by rw [List.flatMap_nil, List.append_nil]; exact hh h⟩

theorem slT_small {g : List Bigram} {d : Int} (h1 : g.length ≤ 2000000) (h2 : ∀ b ∈ g, smallB b) : smallBigs ⟨d, slT g⟩ := by
  unfold smallBigs
  show ((slT g).getD []).length ≤ 4294967296 ∧ ∀ b ∈ (slT g).getD [], _
  rw [slT_getD]
  exact ⟨by omega, fun b hb => by have := h2 b hb; unfold smallB at this; omega⟩
theorem modText_slT (d : Int) (g : List Bigram) : modTextB ⟨d, slT g⟩ = modHeadB d ++ g.flatMap bigLineB := by
  unfold modTextB
  show modHeadB d ++ ((slT g).getD []).flatMap bigLineB = _
  rw [slT_getD]
theorem l18Read_ok {ls : List (List UInt8)} (hlen : ls.length ≤ 2000000) (hsz : ∀ l ∈ ls, l.length ≤ 4000000) (h1 : 1 ≤ ls.length) :
    ∃ m b, t_spec_l18Read (some (ls.map strL)) = some (m, b) ∧ (b = true → modB m = true ∧ modTextB m = linesT ls) := by
  obtain ⟨l, hl⟩ : ∃ l, ls[0]? = some l := ⟨_, List.getElem?_eq_getElem (by omega)⟩
  have hll := hsz l (List.mem_of_getElem? hl)
  have gl : getI (ls.map strL) 0 = some (strL l) := getI_map (k := 0) hl
  have wk := wordsSp_ok hll
  have hj := splitA_join 32 l []
  rw [List.nil_append] at hj
  have wsz := splitA_size 32 l []
  generalize splitA 32 [] l = W at wk hj wsz
  by_cases c2 : W.length = 2
  · obtain ⟨a, b, rfl⟩ := two_cs c2
    have g0 : getI ([a, b].map strL) 0 = some (strL a) := getI_nat (m := 0) rfl
    have g1 : getI ([a, b].map strL) 1 = some (strL b) := getI_nat (m := 1) rfl
    have dl : decide (((([a, b].map strL).length : Nat) : Int) = 2) = true := rfl
    have hb := wsz b (by simp)
    simp only [List.length_nil, Nat.zero_add] at hb
    by_cases ca : a = [100, 101, 102, 97, 117, 108, 116]
    · have da : decide (strL a = (⟨#[100, 101, 102, 97, 117, 108, 116]⟩ : ByteArray)) = true := decide_eq_true (strL_de.2 ca)
      obtain ⟨n, fine, e1, e2⟩ := num_ok (strL b) (by rw [strL_size]; omega)
      have hh : fine = true → modHeadB n = linesT (ls.take 1) := fun hf => by
        have hbn : bl (itS n) = b := by rw [← e2 hf, bl_strL]
        have t1 : ls.take 1 = [l] := by
          cases ls with
          | nil => simp at hl
          | cons x t =>
            simp at hl
            subst hl
            rfl
        rw [modHead_L, t1]
        unfold headL linesT
        rw [hbn, ← hj, ca]
        simp [joinA]
      obtain ⟨r, q1, q2⟩ := readLoop hlen hsz h1 n fine hh
      unfold t_spec_l18Read
      simp only [Option.getD_some, gl, obind_sm, wk, dl, Bool.not_true, cond_false, g0, da, g1, e1, q1]
      rcases q2 with ⟨g, ok, rfl, hg, hsm, hk⟩ | rfl
      · cases ok with
        | false => exact ⟨_, false, rfl, fun h => by cases h⟩
        | true =>
          have hs := slT_small (d := n) hg hsm
          simp only [cond_true, specMod_ok hs, obind_sm]
          refine ⟨_, _, rfl, fun h => ⟨h, ?_⟩⟩
          rw [modText_slT]
          exact hk rfl
      · exact ⟨_, false, rfl, fun h => by cases h⟩
    · have da : decide (strL a = (⟨#[100, 101, 102, 97, 117, 108, 116]⟩ : ByteArray)) = false := decide_eq_false (fun h => ca (strL_de.1 h))
      unfold t_spec_l18Read
      simp only [Option.getD_some, gl, obind_sm, wk, dl, Bool.not_true, cond_false, g0, da, Bool.not_false, cond_true]
      exact ⟨_, false, rfl, fun h => by cases h⟩
  · have dl : decide ((((W.map strL).length : Nat) : Int) = 2) = false := decide_eq_false (by rw [List.length_map]; omega)
    unfold t_spec_l18Read
    simp only [Option.getD_some, gl, obind_sm, wk, dl, Bool.not_false, cond_true]
    exact ⟨_, false, rfl, fun h => by cases h⟩
theorem fwB_cs {b : Bigram} (h : validBigram b = true) : (b.first = (⟨#[]⟩ : ByteArray) ∧ fwB b = [45]) ∨ (b.first ≠ (⟨#[]⟩ : ByteArray) ∧ fwB b = bl b.first ∧ fwB b ≠ [] ∧ ∀ x ∈ fwB b, 97 ≤ x.toNat) := by
  obtain ⟨_, h2, _⟩ := valBig_w h
  by_cases e : b.first = (⟨#[]⟩ : ByteArray)
  · exact .inl ⟨e, by unfold fwB; rw [decide_eq_true e]; rfl⟩
  · have ef : fwB b = bl b.first := by unfold fwB; rw [decide_eq_false e]; rfl
    refine .inr ⟨e, ef, fun h => e ?_, ?_⟩
    · rw [ef] at h
      rw [← strL_bl b.first, h]
      rfl
    · rw [ef]
      exact low_mem (h2.resolve_left e)
theorem bigL_len {b : Bigram} (h : validBigram b = true) : (bigL b).length ≤ 43 := by
  have := bigLine_len h
  rw [bigLine_L, List.length_append] at this
  omega
/-- The lines of a model's text. -/
def modLs (m : Model) : List (List UInt8) := headL m.default :: (m.bigrams.getD []).map bigL
theorem l18Read_of {m : Model} (h : modB m = true) : t_spec_l18Read (some ((modLs m).map strL)) = some (⟨m.default, slT (m.bigrams.getD [])⟩, true) := by
  obtain ⟨hb, hd, hl⟩ := modB_v h
  obtain ⟨d, hdn, hd2⟩ : ∃ d : Nat, m.default = (d : Int) ∧ d ≤ 1000000 := ⟨m.default.toNat, by omega, by omega⟩
  have hw := (words_head d).1
  have hh : (headL (d : Int)).length ≤ 4000000 := by
    have := (l01Dec_ok (n := (d : Int)) (by omega) (by omega)).2
    have := bl_length (itS (d : Int))
    unfold headL
    simp only [List.length_append, List.length_cons, List.length_nil]
    omega
  have wk := wordsSp_ok hh
  rw [hw] at wk
  have gl : getI ((modLs m).map strL) 0 = some (strL (headL (d : Int))) := getI_map (k := 0) (by unfold modLs; rw [hdn]; rfl)
  have g0 : getI ([[100, 101, 102, 97, 117, 108, 116], bl (itS (d : Int))].map strL) 0 = some (strL [100, 101, 102, 97, 117, 108, 116]) := getI_nat (m := 0) rfl
  have g1 : getI ([[100, 101, 102, 97, 117, 108, 116], bl (itS (d : Int))].map strL) 1 = some (strL (bl (itS (d : Int)))) := getI_nat (m := 1) rfl
  have dl : decide (((([[100, 101, 102, 97, 117, 108, 116], bl (itS (d : Int))].map strL).length : Nat) : Int) = 2) = true := rfl
  have da : decide (strL [100, 101, 102, 97, 117, 108, 116] = (⟨#[100, 101, 102, 97, 117, 108, 116]⟩ : ByteArray)) = true := decide_eq_true (strL_de.2 rfl)
  have e1 := num_itS hd2
  have lenL : (modLs m).length = (m.bigrams.getD []).length + 1 := by simp [modLs]
  have lp := loopT_at (step := s0_spec_l18Read (some ((modLs m).map strL))) (m.bigrams.getD []).length (fun k => (((d : Int)), slT ((m.bigrams.getD []).take k), true, ((k + 1 : Nat) : Int))) (.inl ((d : Int), slT (m.bigrams.getD []), true))
    (fun k hk => by
      obtain ⟨b, hbk⟩ : ∃ b, (m.bigrams.getD [])[k]? = some b := ⟨_, List.getElem?_eq_getElem hk⟩
      have hv := hb b (List.mem_of_getElem? hbk)
      have hlk : (modLs m)[k + 1]? = some (bigL b) := by
        unfold modLs
        rw [List.getElem?_cons_succ, List.getElem?_map, hbk]
        rfl
      have gl := getI_map hlk
      have ci' : decide (((k + 1 : Nat) : Int) < ((((modLs m).map strL).length : Nat) : Int)) = true := decide_eq_true (by rw [List.length_map]; omega)
      have wk := wordsSp_ok (l := bigL b) (by have := bigL_len hv; omega)
      rw [(words_big hv).1] at wk
      obtain ⟨_, _, c, hc1, hc2⟩ := valBig_w hv
      have q0 : getI ([fwB b, bl b.second, bl (itS b.cost)].map strL) 0 = some (strL (fwB b)) := getI_nat (m := 0) rfl
      have q1 : getI ([fwB b, bl b.second, bl (itS b.cost)].map strL) 1 = some (strL (bl b.second)) := getI_nat (m := 1) rfl
      have q2 : getI ([fwB b, bl b.second, bl (itS b.cost)].map strL) 2 = some (strL (bl (itS b.cost))) := getI_nat (m := 2) rfl
      have dl : decide (((([fwB b, bl b.second, bl (itS b.cost)].map strL).length : Nat) : Int) = 3) = true := rfl
      have en : t_spec_l01Number (strL (bl (itS b.cost))) = some (b.cost, true) := by rw [strL_bl, hc1]; exact num_itS hc2
      have ws : wr (((k + 1 : Nat) : Int) + 1) = ((k + 1 + 1 : Nat) : Int) := wr_succ (k := k + 1) (n := k + 2) (by omega) (by omega)
      have tk : (m.bigrams.getD []).take (k + 1) = (m.bigrams.getD []).take k ++ [b] := by rw [List.take_add_one, hbk]; rfl
      have hlt : ((m.bigrams.getD []).take k).length ≤ 4000000 := by rw [List.length_take]; omega
      rw [tk]
      rcases fwB_cs hv with ⟨f1, f2⟩ | ⟨f1, f2, f3, f4⟩
      · have de : decide (strL (fwB b) = (⟨#[]⟩ : ByteArray)) = false := decide_eq_false (fun h => by rw [strL_nil, f2] at h; cases h)
        have dd : decide (strL (fwB b) = (⟨#[45]⟩ : ByteArray)) = true := decide_eq_true (strL_da.2 f2)
        have eb : (⟨⟨#[]⟩, strL (bl b.second), b.cost⟩ : Bigram) = b := by rw [strL_bl, ← f1]
        unfold s0_spec_l18Read
        dsimp only
        simp only [Option.getD_some, ci', cond_true, obind_sm, gl, wk, dl, Bool.not_true, cond_false, q0, q1, q2, de, en, dd, eb, slT_app0 (l := (m.bigrams.getD []).take k) _ hlt, slT_app, ws]
      · have de : decide (strL (fwB b) = (⟨#[]⟩ : ByteArray)) = false := decide_eq_false (fun h => f3 (strL_nil.1 h))
        have dd : decide (strL (fwB b) = (⟨#[45]⟩ : ByteArray)) = false := decide_eq_false (fun h => by
          rw [strL_da] at h
          exact absurd (f4 45 (by rw [h]; simp)) (by decide))
        have eb : (⟨strL (fwB b), strL (bl b.second), b.cost⟩ : Bigram) = b := by rw [f2, strL_bl, strL_bl]
        unfold s0_spec_l18Read
        dsimp only
        simp only [Option.getD_some, ci', cond_true, obind_sm, gl, wk, dl, Bool.not_true, cond_false, q0, q1, q2, de, en, dd, eb, slT_app0 (l := (m.bigrams.getD []).take k) _ hlt, slT_app, ws])
    (by
      unfold s0_spec_l18Read
      dsimp only
      rw [Option.getD_some, decide_eq_false (by rw [List.length_map, lenL]; omega), List.take_length]
      rfl) 0 (by omega)
  have lp' : loopT (s0_spec_l18Read (some ((modLs m).map strL))) ((d : Int), (none : Sl Bigram), true, 1) = some (.inl ((d : Int), slT (m.bigrams.getD []), true)) := lp
  have hs : smallBigs ⟨(d : Int), slT (m.bigrams.getD [])⟩ := slT_small (by omega) (fun b hb' => by have := valBig_v (hb b hb'); unfold smallB; omega)
  have hm : modB ⟨(d : Int), slT (m.bigrams.getD [])⟩ = true := by
    have : modB ⟨(d : Int), slT (m.bigrams.getD [])⟩ = modB m := by
      unfold modB
      dsimp only
      rw [slT_getD, hdn]
    rw [this, h]
  unfold t_spec_l18Read
  simp only [Option.getD_some, gl, obind_sm, wk, dl, Bool.not_true, cond_false, g0, da, g1, strL_bl, e1, lp', cond_true, specMod_ok hs, hm, hdn]

/-! #### Both sides on a whole text -/
theorem getLast_map {W : List (List UInt8)} {x : List UInt8} (h : W.getLast? = some x) : (W.map strL)[W.length - 1]? = some (strL x) := by
  rw [List.getElem?_map, ← List.getLast?_eq_getElem?, h]
  rfl
theorem specRead_ok {s : ByteArray} (hs : s.size ≤ 1900000) : ∃ m b, t_spec_ReadModel s = some (m, b) ∧ (b = false → m = ⟨0, none⟩) ∧ (b = true → modB m = true ∧ s = strL (modTextB m)) := by
  have hl := bl_length s
  have wk := l01Split_ok (s := s) (c := 10) (by omega)
  have hne := splitA_ne 10 (bl s) []
  have hlen := splitA_len 10 (bl s) []
  have hsz := splitA_size 10 (bl s) []
  have hla := splitA_last 10 (bl s) []
  have hsn : ∀ l', bl s = l' ++ [10] → splitA 10 [] (bl s) = splitA 10 [] l' ++ [[]] := fun l' h => by rw [h, splitA_snoc]
  obtain ⟨x, hx⟩ : ∃ x, (splitA 10 [] (bl s)).getLast? = some x := by
    cases h : (splitA 10 [] (bl s)).getLast? with
    | none => exact absurd (List.getLast?_eq_none_iff.1 h) hne
    | some x => exact ⟨x, rfl⟩
  generalize splitA 10 [] (bl s) = W at wk hne hlen hsz hla hx hsn
  have w1 : wr (((((W.map strL)).length : Nat) : Int) - 1) = ((W.length - 1 : Nat) : Int) := by
    have : 1 ≤ W.length := Nat.one_le_iff_ne_zero.2 (fun e => hne (List.eq_nil_of_length_eq_zero e))
    rw [List.length_map, wr_id (by omega) (by omega)]
    omega
  have gx := getI_nat (getLast_map hx)
  unfold t_spec_ReadModel
  by_cases c2 : W.length < 2
  · have d2 : decide ((((W.map strL).length : Nat) : Int) < 2) = true := decide_eq_true (by rw [List.length_map]; omega)
    simp only [wk, obind_sm, Option.getD_some, d2, cond_true]
    exact ⟨_, false, rfl, fun _ => rfl, fun h => by cases h⟩
  have d2 : decide ((((W.map strL).length : Nat) : Int) < 2) = false := decide_eq_false (by rw [List.length_map]; omega)
  by_cases cx : x = []
  · have dx : decide (strL x = (⟨#[]⟩ : ByteArray)) = true := decide_eq_true (strL_nil.2 cx)
    subst cx
    rcases hla hx with ⟨_, h0⟩ | ⟨l', h0⟩
    · exfalso
      have : (bl s).length = 0 := by rw [h0]; rfl
      omega
    have hW := hsn l' h0
    have hsub : subS (some (W.map strL)) none (some ((W.length - 1 : Nat) : Int)) = some (some ((splitA 10 [] l').map strL)) := by
      have e1 : bndI (some ((W.length - 1 : Nat) : Int)) (W.map strL).length (W.map strL).length = some (W.length - 1) := idx_lt (by rw [List.length_map]; omega)
      unfold subS
      rw [Option.getD_some, e1, obind_sm]
      show some (some (((W.map strL).take (W.length - 1)).drop 0)) = _
      rw [List.drop_zero, hW, List.map_append, List.length_append]
      congr 2
      have : (splitA 10 [] l').length + [([] : List UInt8)].length - 1 = ((splitA 10 [] l').map strL).length := by simp
      rw [this, List.take_left]
    have hne2 := splitA_ne 10 l' []
    have hj := splitA_join 10 l' []
    have h1 : 1 ≤ (splitA 10 [] l').length := Nat.one_le_iff_ne_zero.2 (fun e => hne2 (List.eq_nil_of_length_eq_zero e))
    obtain ⟨m, b, q1, q2⟩ := l18Read_ok (ls := splitA 10 [] l') (by
      have := congrArg List.length hW
      rw [List.length_append] at this
      simp only [List.length_cons, List.length_nil] at this hlen
      omega) (fun l hl' => by
      have := hsz l (by rw [hW]; exact List.mem_append_left _ hl')
      simp only [List.length_nil] at this
      omega) h1
    simp only [wk, obind_sm, Option.getD_some, d2, cond_false, w1, gx, dx, Bool.not_true, hsub, q1]
    cases b with
    | false => exact ⟨_, false, rfl, fun _ => rfl, fun h => by cases h⟩
    | true =>
      obtain ⟨q3, q4⟩ := q2 rfl
      refine ⟨m, true, rfl, (fun h => by cases h), fun _ => ⟨q3, ?_⟩⟩
      rw [q4, linesT_join hne2, hj, List.nil_append, ← h0, strL_bl]
  · have dx : decide (strL x = (⟨#[]⟩ : ByteArray)) = false := decide_eq_false (fun h => cx (strL_nil.1 h))
    simp only [wk, obind_sm, Option.getD_some, d2, cond_false, w1, gx, dx, Bool.not_false, cond_true]
    exact ⟨_, false, rfl, fun _ => rfl, fun h => by cases h⟩
theorem modLs_ne (m : Model) : modLs m ≠ [] := by unfold modLs; simp
theorem modLs_no {m : Model} (h : modB m = true) : ∀ l ∈ modLs m, (10 : UInt8) ∉ l := by
  obtain ⟨hb, hd, hl⟩ := modB_v h
  intro l hl'
  unfold modLs at hl'
  rcases List.mem_cons.1 hl' with rfl | hl'
  · obtain ⟨d, hdn⟩ : ∃ d : Nat, m.default = (d : Int) := ⟨m.default.toNat, by omega⟩
    rw [hdn]
    exact (words_head d).2
  · obtain ⟨b, hb1, rfl⟩ := List.mem_map.1 hl'
    exact (words_big (hb b hb1)).2
theorem specRead_of {m : Model} (h : modB m = true) (hs : (strL (modTextB m)).size ≤ 1900000) : t_spec_ReadModel (strL (modTextB m)) = some (⟨m.default, slT (m.bigrams.getD [])⟩, true) := by
  obtain ⟨l', h1, h2⟩ := split_lines (modLs_ne m) (modLs_no h)
  have e : modTextB m = l' ++ [10] := by rw [modText_L]; exact h1
  have hr := l18Read_of h
  have hb : bl (strL (modTextB m)) = l' ++ [10] := by rw [bl_strL, e]
  have wk := l01Split_ok (s := strL (modTextB m)) (c := 10) (by omega)
  rw [hb, splitA_snoc, h2] at wk
  have lenL : 1 ≤ (modLs m).length := by unfold modLs; simp
  have ln : (((modLs m ++ [[]]).map strL).length : Nat) = (modLs m).length + 1 := by simp
  have d2 : decide (((((modLs m ++ [[]]).map strL).length : Nat) : Int) < 2) = false := decide_eq_false (by rw [ln]; omega)
  have hlt : (modLs m).length ≤ 100 := by
    have := (modB_v h).2.2
    unfold modLs
    simp
    omega
  have w1 : wr (((((modLs m ++ [[]]).map strL).length : Nat) : Int) - 1) = (((modLs m).length : Nat) : Int) := by
    rw [ln, wr_id (by omega) (by omega)]
    omega
  have gx : getI ((modLs m ++ [[]]).map strL) (((modLs m).length : Nat) : Int) = some (strL []) := getI_nat (by
    rw [List.getElem?_map, List.getElem?_append_right (Nat.le_refl _), Nat.sub_self]
    rfl)
  have dx : decide (strL [] = (⟨#[]⟩ : ByteArray)) = true := decide_eq_true rfl
  have hsub : subS (some ((modLs m ++ [[]]).map strL)) none (some (((modLs m).length : Nat) : Int)) = some (some ((modLs m).map strL)) := by
    have e1 : bndI (some (((modLs m).length : Nat) : Int)) ((modLs m ++ [[]]).map strL).length ((modLs m ++ [[]]).map strL).length = some (modLs m).length := idx_lt (by rw [ln]; omega)
    unfold subS
    rw [Option.getD_some, e1, obind_sm]
    show some (some ((((modLs m ++ [[]]).map strL).take (modLs m).length).drop 0)) = _
    rw [List.drop_zero, List.map_append]
    congr 2
    have : (modLs m).length = ((modLs m).map strL).length := by simp
    rw [this, List.take_left]
  unfold t_spec_ReadModel
  simp only [wk, obind_sm, Option.getD_some, d2, cond_false, w1, gx, dx, Bool.not_true, hsub, hr]

/-- The program's loop, whatever the lines. -/
theorem implLoop {ls : List (List UInt8)} {okl : Bool} (hlen : ls.length ≤ 2000000) (hsz : ∀ l ∈ ls, l.length ≤ 4000000) :
    ∃ r, loopT (s0_impl_ReadModel (some (ls.map strL), okl)) (0, (none : Sl Bigram), 0) = some r ∧ ((∃ d g, r = .inl (d, slT g) ∧ g.length ≤ 2000000 ∧ ∀ b ∈ g, smallB b) ∨ r = .inr false) := by
  exact loopT_ex (step := s0_impl_ReadModel (some (ls.map strL), okl))
    (fun i (st : Int × Sl Bigram × Int) => ∃ d g, st = (d, slT g, (i : Int)) ∧ g.length ≤ i ∧ ∀ b ∈ g, smallB b) ls.length
    (fun r => (∃ d g, r = .inl (d, slT g) ∧ g.length ≤ 2000000 ∧ ∀ b ∈ g, smallB b) ∨ r = .inr false)
    (fun i st hi hst => by
      obtain ⟨d, g, rfl, hg, hsm⟩ := hst
      obtain ⟨l, hl⟩ : ∃ l, ls[i]? = some l := ⟨_, List.getElem?_eq_getElem hi⟩
      have hll := hsz l (List.mem_of_getElem? hl)
      have ci' : decide ((i : Int) < (((ls.map strL).length : Nat) : Int)) = true := decide_eq_true (by rw [List.length_map]; omega)
      have gl := getI_map hl
      have wk := wordsOf_ok hll
      have wsz := splitA_size 32 l []
      generalize splitA 32 [] l = W at wk wsz
      have ws := wr_succ hi (by omega : ls.length ≤ 4294967296)
      by_cases c0 : i = 0 ∧ W.length = 2
      · obtain ⟨rfl, c2⟩ := c0
        obtain ⟨a, b, rfl⟩ := two_cs c2
        have g1 : getI ([a, b].map strL) 1 = some (strL b) := getI_nat (m := 1) rfl
        have dl : decide (((([a, b].map strL).length : Nat) : Int) = 2) = true := rfl
        have d0 : decide (((0 : Nat) : Int) = 0) = true := rfl
        have hb := wsz b (by simp)
        simp only [List.length_nil, Nat.zero_add] at hb
        have rd : t_impl_ReadDecimal (strL b) = some (readDecB (strL b)) := by
          unfold t_impl_ReadDecimal
          rw [decide_eq_true (by rw [strL_size]; omega)]
          rfl
        left
        refine ⟨((readDecB (strL b)).1, slT g, ((0 + 1 : Nat) : Int)), ?_, _, g, rfl, by omega, hsm⟩
        unfold s0_impl_ReadModel
        dsimp only
        simp only [Option.getD_some, ci', cond_true, gl, obind_sm, wk, d0, dl, g1, rd, ws]
      by_cases c1 : 0 < i ∧ W.length = 3
      · obtain ⟨c1, c3⟩ := c1
        obtain ⟨a, b, c, rfl⟩ := three_cs c3
        have g0 : getI ([a, b, c].map strL) 0 = some (strL a) := getI_nat (m := 0) rfl
        have g1 : getI ([a, b, c].map strL) 1 = some (strL b) := getI_nat (m := 1) rfl
        have g2 : getI ([a, b, c].map strL) 2 = some (strL c) := getI_nat (m := 2) rfl
        have dl : decide (((([a, b, c].map strL).length : Nat) : Int) = 3) = true := rfl
        have d1 : decide ((0 : Int) < (i : Int)) = true := decide_eq_true (by omega)
        have d0 : decide ((i : Int) = 0) = false := decide_eq_false (by omega)
        have ha := wsz a (by simp)
        have hb := wsz b (by simp)
        have hc := wsz c (by simp)
        simp only [List.length_nil, Nat.zero_add] at ha hb hc
        have rd : t_impl_ReadDecimal (strL c) = some (readDecB (strL c)) := by
          unfold t_impl_ReadDecimal
          rw [decide_eq_true (by rw [strL_size]; omega)]
          rfl
        have tp := trimP_ok (s := strL a) (by rw [strL_size]; omega)
        obtain ⟨f, hf⟩ : ∃ f, f = (bif decide ((bl (strL a)).take 1 = [45]) then strL ((bl (strL a)).drop 1) else strL a) := ⟨_, rfl⟩
        have hfs : f.size ≤ 4000000 := by
          rw [hf]
          cases decide ((bl (strL a)).take 1 = [45]) with
          | true => rw [cond_true, strL_size, List.length_drop, bl_strL]; omega
          | false => rw [cond_false, strL_size]; omega
        rw [← hf] at tp
        left
        refine ⟨(d, slT (g ++ [(⟨f, strL b, (readDecB (strL c)).1⟩ : Bigram)]), ((i + 1 : Nat) : Int)), ?_, d, _, rfl, by simp; omega, fun x hx => ?_⟩
        · unfold s0_impl_ReadModel
          dsimp only
          simp only [Option.getD_some, ci', gl, wk, d0, cond_false, d1, cond_true, obind_sm, dl, g0, g1, g2, rd, tp, slT_app0 (l := g) _ (show g.length ≤ 4000000 by omega), slT_app, ws]
        · rcases List.mem_append.1 hx with hx | hx
          · exact hsm x hx
          · rw [List.mem_singleton.1 hx]
            exact ⟨hfs, by show (strL b).size ≤ _; rw [strL_size]; omega⟩
      · right
        refine ⟨.inr false, ?_, .inr rfl⟩
        unfold s0_impl_ReadModel
        dsimp only
        by_cases c : 0 < i
        · have d0 : decide ((i : Int) = 0) = false := decide_eq_false (by omega)
          have d1 : decide ((0 : Int) < (i : Int)) = true := decide_eq_true (by omega)
          have dl : decide ((((W.map strL).length : Nat) : Int) = 3) = false := decide_eq_false (fun h => c1 ⟨c, by rw [List.length_map] at h; omega⟩)
          simp only [Option.getD_some, ci', gl, wk, d0, d1, cond_true, obind_sm, dl, cond_false]
        · have d0 : decide ((i : Int) = 0) = true := decide_eq_true (by omega)
          have d1 : decide ((0 : Int) < (i : Int)) = false := decide_eq_false (by omega)
          have dl : decide ((((W.map strL).length : Nat) : Int) = 2) = false := decide_eq_false (fun h => c0 ⟨by omega, by rw [List.length_map] at h; omega⟩)
          simp only [Option.getD_some, ci', gl, wk, d0, d1, cond_true, obind_sm, dl, cond_false])
    (fun st hst => by
      obtain ⟨d, g, rfl, hg, hsm⟩ := hst
      refine ⟨.inl (d, slT g), ?_, .inl ⟨d, g, rfl, by omega, hsm⟩⟩
      unfold s0_impl_ReadModel
      dsimp only
      rw [Option.getD_some, decide_eq_false (by rw [List.length_map]; omega), cond_false]) (s := (0, (none : Sl Bigram), 0)) ⟨0, [], rfl, Nat.le_refl _, fun b hb => by cases hb⟩
/-- What stands behind the loop. -/
theorem implRead_end {s : ByteArray} {c5 : Sl ByteArray × Bool} {d : Int} {g : List Bigram} (h1 : t_impl_linesOf s = some c5) (h2 : c5.2 = true) (hr : loopT (s0_impl_ReadModel c5) (0, (none : Sl Bigram), 0) = some (.inl (d, slT g))) (hg : g.length ≤ 2000000) (hsm : ∀ b ∈ g, smallB b) :
    t_impl_ReadModel s = some (bif modB ⟨d, slT g⟩ && decide (strL (modTextB ⟨d, slT g⟩) = s) then ((⟨d, slT g⟩ : Model), true) else (⟨0, none⟩, false)) := by
  have hs := slT_small (d := d) hg hsm
  unfold t_impl_ReadModel
  simp only [h1, obind_sm, h2, Bool.not_true, cond_false, hr, implMod_ok hs]
  unfold t_impl_ModelText
  rw [small_fitBigs hs, cond_true]
  cases hm : modB ⟨d, slT g⟩ with
  | false => rfl
  | true =>
    simp only [Bool.not_true, cond_false, cond_true, obind_sm, Bool.true_and]
    cases decide (strL (modTextB ⟨d, slT g⟩) = s) <;> rfl
theorem implRead_ok {s : ByteArray} (hs : s.size ≤ 1900000) : ∃ m b, t_impl_ReadModel s = some (m, b) ∧ (b = false → m = ⟨0, none⟩) ∧ (b = true → modB m = true ∧ s = strL (modTextB m)) := by
  have fin : ∀ {c5 : Sl ByteArray × Bool} {d : Int} {g : List Bigram}, t_impl_linesOf s = some c5 → c5.2 = true → loopT (s0_impl_ReadModel c5) (0, (none : Sl Bigram), 0) = some (.inl (d, slT g)) → g.length ≤ 2000000 → (∀ b ∈ g, smallB b) → ∃ m b, t_impl_ReadModel s = some (m, b) ∧ (b = false → m = ⟨0, none⟩) ∧ (b = true → modB m = true ∧ s = strL (modTextB m)) := by
    intro c5 d g h1 h2 hr hg hsm
    rw [implRead_end h1 h2 hr hg hsm]
    cases h : modB ⟨d, slT g⟩ && decide (strL (modTextB ⟨d, slT g⟩) = s) with
    | false => exact ⟨_, false, rfl, fun _ => rfl, fun h => by cases h⟩
    | true =>
      rw [Bool.and_eq_true] at h
      exact ⟨_, true, rfl, (fun h => by cases h), fun _ => ⟨h.1, (of_decide_eq_true h.2).symm⟩⟩
  rcases linesOf_ok (s := s) (by omega) with ⟨h0, h1⟩ | ⟨l', h0, h1⟩ | ⟨_, _, h1⟩
  · exact fin (g := []) (d := 0) h1 rfl (loopT_end (by
      unfold s0_impl_ReadModel
      rfl)) (Nat.zero_le _) (fun b hb => by cases hb)
  · have hl := bl_length s
    have hl2 : l'.length + 1 = s.size := by
      rw [← hl, h0, List.length_append]
      rfl
    have hlen := splitA_len 10 l' []
    have hsz := splitA_size 10 l' []
    obtain ⟨r, q1, q2⟩ := implLoop (ls := splitA 10 [] l') (okl := true) (by omega) (fun l hl' => by
      have := hsz l hl'
      simp only [List.length_nil] at this
      omega)
    rcases q2 with ⟨d, g, rfl, hg, hsm⟩ | rfl
    · exact fin h1 rfl q1 hg hsm
    · unfold t_impl_ReadModel
      simp only [h1, obind_sm, Bool.not_true, cond_false, q1]
      exact ⟨_, false, rfl, fun _ => rfl, fun h => by cases h⟩
  · unfold t_impl_ReadModel
    simp only [h1, obind_sm, Bool.not_false, cond_true]
    exact ⟨_, false, rfl, fun _ => rfl, fun h => by cases h⟩

theorem implRead_of {m : Model} (h : modB m = true) (hs : (strL (modTextB m)).size ≤ 1900000) : t_impl_ReadModel (strL (modTextB m)) = some (⟨m.default, slT (m.bigrams.getD [])⟩, true) := by
  obtain ⟨hb, hd, hl⟩ := modB_v h
  obtain ⟨d, hdn, hd2⟩ : ∃ d : Nat, m.default = (d : Int) ∧ d ≤ 1000000 := ⟨m.default.toNat, by omega, by omega⟩
  obtain ⟨l', h1, h2⟩ := split_lines (modLs_ne m) (modLs_no h)
  have e : bl (strL (modTextB m)) = l' ++ [10] := by rw [bl_strL, modText_L]; exact h1
  have hlin : t_impl_linesOf (strL (modTextB m)) = some (some ((modLs m).map strL), true) := by
    rcases linesOf_ok (s := strL (modTextB m)) (by omega) with ⟨h0, _⟩ | ⟨l2, h0, q⟩ | ⟨h0, _, _⟩
    · exfalso
      rw [h0] at e
      have := congrArg List.length e
      rw [List.length_append] at this
      simp only [List.length_cons, List.length_nil] at this
      have z : (bl (⟨#[]⟩ : ByteArray)).length = 0 := rfl
      omega
    · have : l2 = l' := List.append_cancel_right (h0.symm.trans e)
      rw [q, this, h2]
    · exact absurd e (h0 l')
  have lenL : (modLs m).length = (m.bigrams.getD []).length + 1 := by simp [modLs]
  have hh : (headL (d : Int)).length ≤ 4000000 := by
    have := (l01Dec_ok (n := (d : Int)) (by omega) (by omega)).2
    have := bl_length (itS (d : Int))
    unfold headL
    simp only [List.length_append, List.length_cons, List.length_nil]
    omega
  have lp := loopT_at (step := s0_impl_ReadModel (some ((modLs m).map strL), true)) ((m.bigrams.getD []).length + 1) (fun k => (if k = 0 then 0 else (d : Int), slT ((m.bigrams.getD []).take (k - 1)), (k : Int))) (.inl ((d : Int), slT (m.bigrams.getD [])))
    (fun k hk => by
      have ci' : decide ((k : Int) < ((((modLs m).map strL).length : Nat) : Int)) = true := decide_eq_true (by rw [List.length_map]; omega)
      cases k with
      | zero =>
        have gl : getI ((modLs m).map strL) ((0 : Nat) : Int) = some (strL (headL (d : Int))) := getI_map (k := 0) (by unfold modLs; rw [hdn]; rfl)
        have wk := wordsOf_ok hh
        rw [(words_head d).1] at wk
        have g1 : getI ([[100, 101, 102, 97, 117, 108, 116], bl (itS (d : Int))].map strL) 1 = some (strL (bl (itS (d : Int)))) := getI_nat (m := 1) rfl
        have dl : decide (((([[100, 101, 102, 97, 117, 108, 116], bl (itS (d : Int))].map strL).length : Nat) : Int) = 2) = true := rfl
        have d0 : decide (((0 : Nat) : Int) = 0) = true := rfl
        have rd : t_impl_ReadDecimal (itS (d : Int)) = some ((d : Int), true) := by
          unfold t_impl_ReadDecimal
          have := (l01Dec_ok (n := (d : Int)) (by omega) (by omega)).2
          rw [decide_eq_true (by omega), readDec_itS hd2]
          rfl
        have ws : wr (((0 : Nat) : Int) + 1) = ((0 + 1 : Nat) : Int) := wr_succ (k := 0) (n := 1) (by omega) (by omega)
        unfold s0_impl_ReadModel
        dsimp only
        simp only [Option.getD_some, ci', cond_true, gl, obind_sm, wk, d0, dl, g1, strL_bl, rd, ws]
        rfl
      | succ k =>
        obtain ⟨b, hbk⟩ : ∃ b, (m.bigrams.getD [])[k]? = some b := ⟨_, List.getElem?_eq_getElem (by omega)⟩
        have hv := hb b (List.mem_of_getElem? hbk)
        have hlk : (modLs m)[k + 1]? = some (bigL b) := by
          unfold modLs
          rw [List.getElem?_cons_succ, List.getElem?_map, hbk]
          rfl
        have gl := getI_map hlk
        have hbl := bigL_len hv
        have wk := wordsOf_ok (l := bigL b) (by omega)
        rw [(words_big hv).1] at wk
        obtain ⟨_, _, c, hc1, hc2⟩ := valBig_w hv
        have q0 : getI ([fwB b, bl b.second, bl (itS b.cost)].map strL) 0 = some (strL (fwB b)) := getI_nat (m := 0) rfl
        have q1 : getI ([fwB b, bl b.second, bl (itS b.cost)].map strL) 1 = some (strL (bl b.second)) := getI_nat (m := 1) rfl
        have q2 : getI ([fwB b, bl b.second, bl (itS b.cost)].map strL) 2 = some (strL (bl (itS b.cost))) := getI_nat (m := 2) rfl
        have dl : decide (((([fwB b, bl b.second, bl (itS b.cost)].map strL).length : Nat) : Int) = 3) = true := rfl
        have d0 : decide (((k + 1 : Nat) : Int) = 0) = false := decide_eq_false (by omega)
        have d1 : decide ((0 : Int) < ((k + 1 : Nat) : Int)) = true := decide_eq_true (by omega)
        have rd : t_impl_ReadDecimal (itS b.cost) = some (b.cost, true) := by
          unfold t_impl_ReadDecimal
          have := (l01Dec_ok (n := b.cost) (by omega) (by omega)).2
          rw [decide_eq_true (by omega), hc1, readDec_itS hc2]
          rfl
        have hfl : (fwB b).length ≤ 43 := by
          unfold bigL at hbl
          rw [List.length_append] at hbl
          omega
        have tp : t_strings_TrimPrefix (strL (fwB b)) (⟨#[45]⟩ : ByteArray) = some b.first := by
          rw [trimP_ok (by rw [strL_size]; omega), bl_strL]
          rcases fwB_cs hv with ⟨f1, f2⟩ | ⟨f1, f2, f3, f4⟩
          · rw [f2, f1]
            rfl
          · have hn : decide ((fwB b).take 1 = [45]) = false := decide_eq_false (fun hx => by
              have hm45 : (45 : UInt8) ∈ fwB b := List.mem_of_mem_take (by rw [hx]; simp)
              exact absurd (f4 45 hm45) (by decide))
            rw [hn, cond_false, f2, strL_bl]
        have ws : wr (((k + 1 : Nat) : Int) + 1) = ((k + 1 + 1 : Nat) : Int) := wr_succ (k := k + 1) (n := k + 2) (by omega) (by omega)
        have tk : (m.bigrams.getD []).take (k + 1) = (m.bigrams.getD []).take k ++ [b] := by rw [List.take_add_one, hbk]; rfl
        have hlt : ((m.bigrams.getD []).take k).length ≤ 4000000 := by rw [List.length_take]; omega
        have eb : (⟨b.first, b.second, b.cost⟩ : Bigram) = b := rfl
        have e1 : k + 1 - 1 = k := by omega
        have e2 : k + 1 + 1 - 1 = k + 1 := by omega
        rw [e1, e2, tk, if_neg (by omega), if_neg (by omega)]
        unfold s0_impl_ReadModel
        dsimp only
        simp only [Option.getD_some, ci', cond_true, gl, obind_sm, wk, d0, d1, cond_false, dl, q0, q1, q2, strL_bl, rd, tp, eb, slT_app0 (l := (m.bigrams.getD []).take k) _ hlt, slT_app, ws])
    (by
      unfold s0_impl_ReadModel
      dsimp only
      rw [Option.getD_some, decide_eq_false (by rw [List.length_map, lenL]; omega), cond_false, if_neg (by omega), Nat.add_sub_cancel, List.take_length]) 0 (by omega)
  have lp' : loopT (s0_impl_ReadModel (some ((modLs m).map strL), true)) (0, (none : Sl Bigram), 0) = some (.inl ((d : Int), slT (m.bigrams.getD []))) := lp
  have hsm : ∀ b ∈ m.bigrams.getD [], smallB b := fun b hb' => by have := valBig_v (hb b hb'); unfold smallB; omega
  rw [implRead_end hlin rfl lp' (by omega) hsm]
  have hm : modB ⟨(d : Int), slT (m.bigrams.getD [])⟩ = true := by
    have : modB ⟨(d : Int), slT (m.bigrams.getD [])⟩ = modB m := by
      unfold modB
      dsimp only
      rw [slT_getD, hdn]
    rw [this, h]
  have ht : modTextB ⟨(d : Int), slT (m.bigrams.getD [])⟩ = modTextB m := by
    rw [modText_slT]
    unfold modTextB
    rw [hdn]
  rw [hm, ht, decide_eq_true rfl, hdn]
  rfl
/-- Both sides read the same. -/
theorem read_both {s : ByteArray} (hs : s.size ≤ 1900000) : ∃ m1 m2 b, t_spec_ReadModel s = some (m1, b) ∧ t_impl_ReadModel s = some (m2, b) ∧ m1.default = m2.default ∧ m1.bigrams.getD [] = m2.bigrams.getD [] ∧ (m2.bigrams.getD []).length ≤ 60 := by
  obtain ⟨m1, b1, p1, p2, p3⟩ := specRead_ok hs
  obtain ⟨m2, b2, q1, q2, q3⟩ := implRead_ok hs
  cases b1 with
  | true =>
    obtain ⟨h1, h2⟩ := p3 rfl
    have hi := implRead_of h1 (by rw [← h2]; exact hs)
    have hsp := specRead_of h1 (by rw [← h2]; exact hs)
    rw [← h2] at hi hsp
    exact ⟨_, _, true, hsp, hi, rfl, rfl, by show ((slT (m1.bigrams.getD [])).getD []).length ≤ 60; rw [slT_getD]; exact (modB_v h1).2.2⟩
  | false =>
    cases b2 with
    | true =>
      obtain ⟨h1, h2⟩ := q3 rfl
      have hsp := specRead_of h1 (by rw [← h2]; exact hs)
      rw [← h2, p1] at hsp
      cases hsp
    | false =>
      cases p2 rfl
      cases q2 rfl
      exact ⟨_, _, false, p1, q1, rfl, rfl, Nat.zero_le _⟩

theorem true_FnExactReadModel (s : ByteArray) : t_laws_FnExactReadModel s = some true := by
  unfold t_laws_FnExactReadModel
  by_cases c : 1048576 < (s.size : Int)
  · rw [decide_eq_true c, cond_true]
  rw [decide_eq_false c, cond_false]
  obtain ⟨m1, m2, b, p1, p2, e1, e2, hl⟩ := read_both (s := s) (by omega)
  have E : t_laws_eqModel m2 m1 = some true := by
    unfold t_laws_eqModel
    rw [e1, decide_eq_true rfl, eqBigramS_ok e2.symm (by omega)]
    rfl
  obtain ⟨v, M, Hd⟩ := markBg_ok m2.bigrams m2.default (by omega)
  have z : decide (1 + 3 * (((m2.bigrams.getD []).length : Nat) : Int) < 0) = false := decide_eq_false (by omega)
  have bb : (b == b) = true := beq_self_eq_true b
  simp only [p1, p2, obind_sm, E, Bool.not_true, cond_false, bb, M, Hd, z, decide_true]

theorem ok_laws_FnExactReadModel : PureOK Tryd.prog n_laws_FnExactReadModel (G1 (fun _ : ByteArray => true) fun _ => bv true) := lawC1 tt_laws_FnExactReadModel fun a _ => true_FnExactReadModel a
theorem law_FnExactReadModel (a : ByteArray) (_ : Row.fine a) : G1 (fun _ : ByteArray => true) (fun _ => bv true) [enc a] = some (bv true) := G1_enc _ _ a rfl

theorem isC_9 {cs : List AV} (h : IsC Tryd.prog 9 cs) : ∃ x : ByteArray, cs = Row.cells x ∧ Row.fine x := by
  obtain ⟨n, rfl, hn⟩ := IsC.strE Tryd.underlying9 h
  exact ⟨n, rfl, hn⟩
theorem own : ownKnob Tryd.prog.godebug = none := by kernel_rfl
theorem laidOut : laidOutB Tryd.prog = true := by kernel_rfl

theorem door_met (os : Os) (args : Array Value) : laidMetH Tryd.prog Rows.fnExactReadModelRow.laid ((World.laidAll Tryd.prog os Rows.fnExactReadModelRow.laid).forCall (fun _ _ => 0) ⟨#[], args, []⟩).memory :=
  by rw [MakeChecks.laidMetH_plain _ _ _ (by kernel_rfl)]; exact laidMet_laidAll _ (by kernel_rfl) (by kernel_rfl)
theorem star_err : "*" ++ "errors.errorString" = "*errors.errorString" := by decide
theorem row_err (u : TypeId) (h : Tryd.prog.typeName? 3 u = some "*errors.errorString") : u = 153 :=
  typeName_ptr_named (nm := "errors.errorString") (by rw [star_err]; kernel_rfl) (by kernel_rfl) (by decide) u (by rw [star_err]; exact h)
theorem globs {W : World} (hsh : W.ShapedOpen Tryd.prog) (h : laidMetH Tryd.prog Rows.fnExactReadModelRow.laid W) : Glob Tryd.prog W := by
  have e : Rows.fnExactReadModelRow.laid = [("math/bits.deBruijn32tab", Rows.laid_math_bits_deBruijn32tab), ("math/bits.deBruijn64tab", Rows.laid_math_bits_deBruijn64tab), ("internal/strconv.uint64pow10", Lib.tabData .u64 Lib.pow10Tab), ("unicode/utf8.acceptRanges", Rows.laid_unicode_utf8_acceptRanges), ("strconv.ErrRange", Rows.laid_strconv_ErrRange), ("strconv.ErrSyntax", Rows.laid_strconv_ErrSyntax), ("unicode/utf8.first", Rows.laid_unicode_utf8_first)] := by kernel_rfl
  rw [MakeChecks.laidMetH_plain _ _ _ (by kernel_rfl), e] at h
  have hL := h
  have hp : Lib.TabIs Tryd.prog W "internal/strconv.uint64pow10" .u64 Lib.pow10Tab := Lib.tabIs_of_head (g := 0) (t := 138) (e := 123) (n := 20) (by kernel_rfl) (by kernel_rfl) Tryd.underlying138 Tryd.underlying123 (by kernel_rfl) (by kernel_rfl) hL.tail.tail
  obtain ⟨a1, s1, hv1, _⟩ := laid_sentinel (n := "strconv.ErrRange") (nm := "*errors.errorString") (g := 2) hL.tail.tail.tail.tail (by kernel_rfl) (by kernel_rfl) Tryd.underlying58 row_err Tryd.underlying153 Tryd.underlying155 rfl rfl Tryd.underlying9 (by kernel_rfl) (by kernel_rfl)
  obtain ⟨a2, s2, hv2, _⟩ := laid_sentinel (n := "strconv.ErrSyntax") (nm := "*errors.errorString") (g := 1) hL.tail.tail.tail.tail.tail (by kernel_rfl) (by kernel_rfl) Tryd.underlying58 row_err Tryd.underlying153 Tryd.underlying155 rfl rfl Tryd.underlying9 (by kernel_rfl) (by kernel_rfl)
  obtain ⟨m, hm⟩ := Go.Proofs.cell_of_shapedOpen_int (zero := #[.int .i64 0]) (g := 3) (t := 3) (k := .i64) hsh (of_decide_eq_true (by kernel_rfl)) (by kernel_rfl) rfl (by kernel_rfl) (by kernel_rfl) Tryd.underlying3
  intro t ht g hg
  unfold libTabs at ht
  simp only [List.mem_cons, List.not_mem_nil, or_false] at ht
  rcases ht with rfl | rfl | rfl | rfl
  · exact hp
  · exact .inl ⟨rfl, 3, m, by kernel_rfl, hm⟩
  · exact .inr ⟨by decide, _, _, hv2⟩
  · exact .inr ⟨by decide, _, _, hv1⟩
set_option maxRecDepth 100000 in
theorem rowHolds : Rows.FnExactReadModelSaid :=
  OpenClaim.holds_of_wide 6 Tryd.f6 rfl rfl rfl rfl rfl rfl rfl ⟨rfl, rfl, rfl, rfl, rfl⟩ rfl rfl rfl rfl rfl (by kernel_rfl) Tryd.func6 (by kernel_rfl)
    (of_decide_eq_true (by kernel_rfl)) (by unfold Func.isWrapper; rw [if_neg (by decide +kernel)]; exact ⟨rfl, rfl⟩)
    (fun os started H enc _ => law_doorS (C := Tryd.checked) (s := Rows.fnExactReadModelSpec) (laid := Rows.fnExactReadModelRow.laid) own started (by kernel_rfl) Tryd.func6
      (ChangeSpec.witness_shaped (enc := enc) (C := Tryd.checked) (os := os) (X := fun w _ => laidMetH Tryd.prog Rows.fnExactReadModelRow.laid w) false (World.laidAll Tryd.prog os Rows.fnExactReadModelRow.laid) #[.string ⟨#[]⟩] 8 (World.laidAll_os _ _ _) (World.shaped_of_ZipB (by kernel_rfl) (by kernel_rfl)) (by kernel_rfl) (by kernel_rfl) (by kernel_rfl) (door_met os _))
      laidOut rfl (tb := 4) rfl Tryd.underlying4 (ts := [9]) (by kernel_rfl)
      (fun ds h => by match ds, h with | [d0], _ => rfl)
      hb_laws_FnExactReadModel ok_laws_FnExactReadModel (by
    intro l h
    obtain ⟨a0, l0, rfl, g0, k0⟩ := h
    cases k0
    obtain ⟨b0, e0, w0⟩ := isC_9 (isV_one (by kernel_rfl) g0)
    obtain rfl := one_enc e0
    exact law_FnExactReadModel b0 w0) (fun W hs h => globs hs h))
theorem holds : Rows.FnExactReadModelCardSaid :=
  Claim7.holds_tied_plain_at .later [] [.data, .data, .data, .data, .sentinel, .sentinel, .pinned] true (true, "7fa4298b5785fd3a44aaacfe6035761d781ac1e09d21ed3d0a1c9dec825a721f") true
    rowHolds (fun _ h => by cases h) (by kernel_rfl) (fun _ h => by cases h) fnExactReadModel_row_tie rfl ⟨rfl, rfl⟩ (by kernel_rfl) rfl
    (fun f fn hf hfn => by
      obtain rfl : f = 6 := Option.some.inj ((show Tryd.prog.funcNamed Rows.fnExactReadModelRow.func = some 6 by kernel_rfl).symm.trans hf) |>.symm
      obtain rfl : fn = Tryd.f6 := (Option.some.inj (Tryd.func6.symm.trans hfn)).symm
      exact ⟨by kernel_rfl, fun j t ht => by
        rw [Tryd.params6] at ht
        have hm : t ∈ [9] := by simpa using Array.mem_of_getElem? ht
        have hall : ([9].all fun u => !Tryd.prog.wantsStandIn u) = true := by kernel_rfl
        exact (show Tryd.prog.wantsStandIn t = false by simpa using List.all_eq_true.1 hall t hm)⟩)
    (by kernel_rfl)
#print axioms holds
end Go.Proofs.YtielmmmoldloeaaDoor
