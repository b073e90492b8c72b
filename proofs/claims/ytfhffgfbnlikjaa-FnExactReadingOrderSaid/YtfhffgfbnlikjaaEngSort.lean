import Derived.Test.YtfhffgfbnlikjaaEngNest
import Derived.Lib.RowBridge
import Derived.Sort.Grow
namespace Go.Eng
set_option linter.unusedVariables false
set_option linter.unusedSimpArgs false
open Go.RowKit Go.Sort
variable {P : Program} {X : Nat → Prop} {w w' : World} {ρ : RM}
theorem HRep.keepAll {h : kA4} (hr : HRep P X ρ h w) (hs : w.heap.size ≤ w'.heap.size) (hb : ∀ b, b < w.heap.size → w'.heap[b]? = w.heap[b]?) : HRep P X ρ h w' := by
  refine ⟨⟨fun o io e => ?_, hr.inj⟩, fun t ht g hg => ⟨tabIs_block hg (hr.glob t ht g hg).1 (hb g), (hr.glob t ht g hg).2⟩⟩
  obtain ⟨ob, e1, r⟩ := hr.obj o io e
  have h0 := hb io.b r.lt
  refine ⟨ob, e1, r.k, r.ep, r.le, r.wid, fun x hx => ?_, fun i j c hc => ?_, Nat.lt_of_lt_of_le r.lt hs, fun hk x => by rw [show w'.frozen? ⟨io.b, x, none⟩ = w.frozen? ⟨io.b, x, none⟩ by simp only [World.frozen?, h0]]; exact r.thaw hk x⟩
  · rw [World.cell?_of_block (w := w) (a := ⟨io.b, x, none⟩) h0]
    have hf : w'.frozen? ⟨io.b, x, none⟩ = w.frozen? ⟨io.b, x, none⟩ := by simp only [World.frozen?, h0]
    rw [hf]
    exact r.there x hx
  · obtain ⟨v, h1, h2⟩ := r.cells i j c hc
    refine ⟨v, by rw [World.cell?_of_block (w := w) (a := ⟨io.b, _, none⟩) h0]; exact h1, ?_⟩
    exact h2.mono (fun b hb' hn => ⟨hn, hb b hb'⟩) ρ fun o io e => ⟨io, e, Nat.le_refl _, fun _ => rfl⟩
theorem Step.keepAll (hs : w.heap.size ≤ w'.heap.size) (hb : ∀ b, b < w.heap.size → w'.heap[b]? = w.heap[b]?) (h1 : w'.os = w.os) (h2 : w'.tape = w.tape) (h3 : w'.output = w.output) (h4 : w.drawn ≤ w'.drawn) : Step ρ w ρ w' :=
  ⟨h1, h2, h3, hs, fun b hb' hn => ⟨hn, hb b hb'⟩, fun _ io e => ⟨io, e, Nat.le_refl _, fun _ => rfl⟩, fun _ => h4⟩
def intsOf : List (List AV) → Option (List Int)
  | [] => some []
  | [.sc (.int .i64 z)] :: r => (intsOf r).map (z :: ·)
  | _ => none
theorem intsOf_spec : ∀ {rows : List (List AV)} {zs : List Int}, intsOf rows = some zs → rows = zs.map fun z => [iv z]
  | [], zs, h => by cases h; rfl
  | row :: r, zs, h => by
    unfold intsOf at h
    split at h
    · rename_i e; cases e
    · rename_i z r' e
      cases e
      cases e2 : intsOf r with
      | none => rw [e2] at h; cases h
      | some ys =>
        rw [e2] at h
        cases h
        rw [intsOf_spec e2]
        rfl
    · cases h
theorem intsOf_map (zs : List Int) : intsOf (zs.map fun z => [iv z]) = some zs := by
  induction zs with
  | nil => rfl
  | cons z zs ih =>
    show (intsOf (zs.map fun z => [iv z])).map (z :: ·) = _
    rw [ih]
    rfl
theorem rep_int {own : Nat → Prop} {w : World} {ρ : RM} {z : Int} {v : Value} (h : Rep own w ρ (iv z) v) : v = .int .i64 z := by cases h; rfl
end Go.Eng
