/-
  THE ENGINE, PART 37: more of the typed layer.
-/
import Derived.Test.YtpmpdapafoifiaaDoorEngSort
namespace Go.Eng
set_option linter.unusedVariables false
set_option linter.unusedSimpArgs false
open Cod (enc dec)

theorem omap_snap_sc {h : Heap} {d : Nat} : ∀ {row cs : List AV}, omap (Eng.snap h d) row = some cs → cs.all isSc = true → row = cs
  | [], cs, e, _ => by cases e; rfl
  | a :: row, cs, e, hs => by
    unfold omap at e
    cases e1 : Eng.snap h d a with
    | none => rw [e1] at e; cases e
    | some b =>
      rw [e1] at e
      cases e2 : omap (Eng.snap h d) row with
      | none => rw [e2] at e; cases e
      | some r =>
        rw [e2] at e
        cases e
        rw [List.all_cons, Bool.and_eq_true] at hs
        rw [omap_snap_sc e2 hs.2]
        congr 1
        cases b <;> first | (cases hs.1; done) | skip
        cases d <;> cases a <;> simp only [Eng.snap] at e1 <;> first | (cases e1; rfl) | cases e1 | skip
        all_goals (repeat' split at e1) <;> cases e1
theorem omap_rows_sc {h : Heap} {d : Nat} {A : Type} [Row A] [Scal A] : ∀ {rows : List (List AV)} {l : List A}, omap (omap (Eng.snap h d)) rows = some (l.map Row.cells) → rows = l.map Row.cells
  | [], l, e => by cases l <;> first | rfl | cases e
  | row :: rows, l, e => by
    unfold omap at e
    cases e1 : omap (Eng.snap h d) row with
    | none => rw [e1] at e; cases e
    | some b =>
      rw [e1] at e
      cases e2 : omap (omap (Eng.snap h d)) rows with
      | none => rw [e2] at e; cases e
      | some r =>
        rw [e2] at e
        cases l with
        | nil => cases e
        | cons a l =>
          have e3 := Option.some.inj e
          rw [List.map_cons] at e3
          obtain ⟨q1, q2⟩ := List.cons.inj e3
          subst q1 q2
          rw [omap_rows_sc e2, omap_snap_sc e1 (Scal.sc a)]
          rfl
/-- A part of a slice that reads as numbers: what is appended of it. -/
theorem src_snap {A : Type} [Row A] [Scal A] {h : Heap} {x : AV} {r : Sl A} (hq : snapD h x = some r) : aSrc false (Row.w A) x h = some ((r.getD []).map Row.cells) := by
  unfold snapD at hq
  cases e : Eng.snap h depth x with
  | none => rw [e] at hq; cases hq
  | some y =>
    rw [e, obind_sm] at hq
    have hy := Cod.ed _ _ hq
    subst hy
    cases r with
    | none =>
      have hx : x = nilS := by
        have e' : Eng.snap h 8 x = some nilS := e
        cases x <;> simp only [Eng.snap] at e' <;> first | (cases e'; rfl) | cases e' | skip
        all_goals (repeat' split at e') <;> cases e'
      subst hx
      rfl
    | some l =>
      have e' : Eng.snap h 8 x = some (.fs (Row.w A) (l.map Row.cells)) := e
      cases x <;> simp only [Eng.snap] at e' <;> first | cases e' | skip
      all_goals (repeat' split at e') <;> try cases e'
      · rename_i o ep i n _ ob hob hc _ rows hrows
        obtain ⟨q1, q2⟩ := AV.fs.inj (Option.some.inj e')
        rw [q2] at hrows
        have q3 := omap_rows_sc hrows
        simp only [aSrc, hob]
        rw [if_pos ⟨hc.1, q1, hc.2⟩, q3]
        rfl
      · simp [aSrc]
theorem pick_nb (b c d : Bool) : aPick (bv b) (bv d) (cond (!b) (bv c) und) = some (bv (cond b d c)) := by cases b <;> rfl
end Go.Eng
