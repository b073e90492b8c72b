/-
  No cell of these rows narrows 'for every input' (looked for: loops, veiled, ifaces, maps, wideKeys, modest, calm, conditions, laid).
  DERIVED. THE GIVEN ROWS OF THIS SEAT. 6 by the template 'for every input the law returns true; each argument reads behind the call as it read before'; 0 by the template 'total and deterministic' (their statements: YtdikndbpcceogaaTotals.lean).
  GIVEN WITH THE SEED: the statements are not yours to turn. If you find one false, say at which input.
  Laid BY PROGRAM, IN A SANDBOX (cutbox-rows.mjs): the forced cells as the released guide's own fill.sh prints them over the translation bbce9a592d1284c4… (all of the seat's roots in one cut). By AI agents, Wed Nov 11 2026. No macro, syntax, notation, axiom, sorry.
-/
import Derived.Test.YtdikndbpcceogaaChecked
import GoSem.Claim
import GoSem.ClaimJoined
import GoSem.ClaimMapViews
import Derived.JoinedTies
import Derived.KernelRfl
namespace Go.Proofs.Ytdikndbpcceogaa
/- THE CELL 'sum', in the pinned program and in every row, IS THE sha256 OF THE DUMP (.gsa) THAT YtdikndbpcceogaaProg.lean LOADS. Nothing in Lean hashes anything: it is a label: what it is worth is what the hold of that sum in a sandbox is worth. -/
noncomputable def Try.pinned : Pinned := { name := "ytdikndbpcceogaa", sum := "bbce9a592d1284c4e9259a9131c82bffaa2052c1b974f088d936215bee904b89", checked := Try.checked }
namespace Rows
def none {H : Type} : Left H := { results := [], args := [] }

/-- 'laws.FnAreas': WHATEVER THE INPUT: true; the input reads as it did. -/
def fnAreasSpec : ChangeSpec := { name := "fnAreas", fn := fun _ => fun
  | [d] => { results := [.lit (.bool true)], args := [d] }
  | _ => none }
def fnAreasRow : OpenClaim := { program := "ytdikndbpcceogaa", sum := "bbce9a592d1284c4e9259a9131c82bffaa2052c1b974f088d936215bee904b89", func := "loop.example/g00918/laws.FnAreas", spec := "fnAreas", apart := false }
def FnAreasSaid : Prop := fnAreasRow.holds Try.pinned (OpenSpec.ofChange fnAreasSpec)

/-- ITS FALSE NEIGHBOUR: 'it returns false'. Refute it at one input. -/
def fnAreasWrong : ChangeSpec := { name := "fnAreas", fn := fun _ => fun
  | [d] => { results := [.lit (.bool false)], args := [d] }
  | _ => none }
def FnAreasWrongFalsely : Prop := fnAreasRow.holds Try.pinned (OpenSpec.ofChange fnAreasWrong)

/-- 'laws.FnThinned': WHATEVER THE INPUT: true; the input reads as it did. -/
def fnThinnedSpec : ChangeSpec := { name := "fnThinned", fn := fun _ => fun
  | [d] => { results := [.lit (.bool true)], args := [d] }
  | _ => none }
def fnThinnedRow : OpenClaim := { program := "ytdikndbpcceogaa", sum := "bbce9a592d1284c4e9259a9131c82bffaa2052c1b974f088d936215bee904b89", func := "loop.example/g00918/laws.FnThinned", spec := "fnThinned", apart := false }
def FnThinnedSaid : Prop := fnThinnedRow.holds Try.pinned (OpenSpec.ofChange fnThinnedSpec)

/-- ITS FALSE NEIGHBOUR: 'it returns false'. Refute it at one input. -/
def fnThinnedWrong : ChangeSpec := { name := "fnThinned", fn := fun _ => fun
  | [d] => { results := [.lit (.bool false)], args := [d] }
  | _ => none }
def FnThinnedWrongFalsely : Prop := fnThinnedRow.holds Try.pinned (OpenSpec.ofChange fnThinnedWrong)

/-- 'laws.FnArcs': WHATEVER THE INPUT: true; the input reads as it did. -/
def fnArcsSpec : ChangeSpec := { name := "fnArcs", fn := fun _ => fun
  | [d] => { results := [.lit (.bool true)], args := [d] }
  | _ => none }
def fnArcsRow : OpenClaim := { program := "ytdikndbpcceogaa", sum := "bbce9a592d1284c4e9259a9131c82bffaa2052c1b974f088d936215bee904b89", func := "loop.example/g00918/laws.FnArcs", spec := "fnArcs", apart := false }
def FnArcsSaid : Prop := fnArcsRow.holds Try.pinned (OpenSpec.ofChange fnArcsSpec)

/-- ITS FALSE NEIGHBOUR: 'it returns false'. Refute it at one input. -/
def fnArcsWrong : ChangeSpec := { name := "fnArcs", fn := fun _ => fun
  | [d] => { results := [.lit (.bool false)], args := [d] }
  | _ => none }
def FnArcsWrongFalsely : Prop := fnArcsRow.holds Try.pinned (OpenSpec.ofChange fnArcsWrong)

/-- 'laws.FnExactGapsOf': WHATEVER THE INPUT: true; the input reads as it did. -/
def fnExactGapsOfSpec : ChangeSpec := { name := "fnExactGapsOf", fn := fun _ => fun
  | [d1, d2] => { results := [.lit (.bool true)], args := [d1, d2] }
  | _ => none }
def fnExactGapsOfRow : OpenClaim := { program := "ytdikndbpcceogaa", sum := "bbce9a592d1284c4e9259a9131c82bffaa2052c1b974f088d936215bee904b89", func := "loop.example/g00918/laws.FnExactGapsOf", spec := "fnExactGapsOf", unfollowed := true, recurses := true, apart := false }
def FnExactGapsOfSaid : Prop := fnExactGapsOfRow.holds Try.pinned (OpenSpec.ofChange fnExactGapsOfSpec)

/-- ITS FALSE NEIGHBOUR: 'it returns false'. Refute it at one input. -/
def fnExactGapsOfWrong : ChangeSpec := { name := "fnExactGapsOf", fn := fun _ => fun
  | [d1, d2] => { results := [.lit (.bool false)], args := [d1, d2] }
  | _ => none }
def FnExactGapsOfWrongFalsely : Prop := fnExactGapsOfRow.holds Try.pinned (OpenSpec.ofChange fnExactGapsOfWrong)

/-- 'laws.FnNotes': WHATEVER THE INPUT: true; the input reads as it did. -/
def fnNotesSpec : ChangeSpec := { name := "fnNotes", fn := fun _ => fun
  | [d1, d2] => { results := [.lit (.bool true)], args := [d1, d2] }
  | _ => none }
def fnNotesRow : OpenClaim := { program := "ytdikndbpcceogaa", sum := "bbce9a592d1284c4e9259a9131c82bffaa2052c1b974f088d936215bee904b89", func := "loop.example/g00918/laws.FnNotes", spec := "fnNotes", unfollowed := true, recurses := true, apart := false }
def FnNotesSaid : Prop := fnNotesRow.holds Try.pinned (OpenSpec.ofChange fnNotesSpec)

/-- ITS FALSE NEIGHBOUR: 'it returns false'. Refute it at one input. -/
def fnNotesWrong : ChangeSpec := { name := "fnNotes", fn := fun _ => fun
  | [d1, d2] => { results := [.lit (.bool false)], args := [d1, d2] }
  | _ => none }
def FnNotesWrongFalsely : Prop := fnNotesRow.holds Try.pinned (OpenSpec.ofChange fnNotesWrong)

/-- 'laws.FnNormalSpots': WHATEVER THE INPUT: true; the input reads as it did. -/
def fnNormalSpotsSpec : ChangeSpec := { name := "fnNormalSpots", fn := fun _ => fun
  | [d] => { results := [.lit (.bool true)], args := [d] }
  | _ => none }
def fnNormalSpotsRow : OpenClaim := { program := "ytdikndbpcceogaa", sum := "bbce9a592d1284c4e9259a9131c82bffaa2052c1b974f088d936215bee904b89", func := "loop.example/g00918/laws.FnNormalSpots", spec := "fnNormalSpots", apart := false }
def FnNormalSpotsSaid : Prop := fnNormalSpotsRow.holds Try.pinned (OpenSpec.ofChange fnNormalSpotsSpec)

/-- ITS FALSE NEIGHBOUR: 'it returns false'. Refute it at one input. -/
def fnNormalSpotsWrong : ChangeSpec := { name := "fnNormalSpots", fn := fun _ => fun
  | [d] => { results := [.lit (.bool false)], args := [d] }
  | _ => none }
def FnNormalSpotsWrongFalsely : Prop := fnNormalSpotsRow.holds Try.pinned (OpenSpec.ofChange fnNormalSpotsWrong)

/- THE SECOND FORM. 'bulk': how many values and letters a reading holds, each counted each time it is reached (what is shared counts as often as it is met; a slice's spare places count too). A statement '..UptoSaid' is the law's where the arguments, and the package variables that the reading takes, are together of bulk at most 1048576: NARROWER than '..Said'. Prove '..Said' where nothing that the law and all that it calls make is longer than what came in: it says more and counts as full. Else prove '..UptoSaid'. A law counts once. -/
mutual
def uptoBulk {H : Type} : DataW H → Nat
  | .lit (.string bytes) => bytes.length + 1
  | .lit _ => 1
  | .nil => 1
  | .ptr d => uptoBulk d + 1
  | .slice elems spare => uptoBulkAll elems + uptoBulkAll spare + 1
  | .agg parts => uptoBulkAll parts + 1
  | .iface _ d => uptoBulk d + 1
  | .map entries => uptoBulkEntries entries + 1
  | .held _ => 1
def uptoBulkAll {H : Type} : List (DataW H) → Nat
  | [] => 0
  | d :: r => uptoBulk d + uptoBulkAll r
def uptoBulkEntries {H : Type} : List (Lit × DataW H) → Nat
  | [] => 0
  | x :: r => uptoBulkEntry x + uptoBulkEntries r
def uptoBulkEntry {H : Type} : Lit × DataW H → Nat
  | (.string bytes, d) => bytes.length + uptoBulk d + 1
  | (_, d) => uptoBulk d + 1
 end
def uptoSmall : (H : Type) → List (DataW H) → Bool := fun _ ds => decide (uptoBulkAll ds ≤ 1048576)
def OpenSpec.upto (s : _root_.Go.ChangeSpec) : _root_.Go.OpenSpec := { _root_.Go.OpenSpec.ofChange s with cond := some uptoSmall }

/-- 'laws.FnAreas', WHERE WHAT IT READS IS OF BULK AT MOST 1048576: true; the input reads as it did. -/
def fnAreasUptoRow : OpenClaim := { program := "ytdikndbpcceogaa", sum := "bbce9a592d1284c4e9259a9131c82bffaa2052c1b974f088d936215bee904b89", func := "loop.example/g00918/laws.FnAreas", spec := "fnAreas", apart := false, narrowed := true }
def FnAreasUptoSaid : Prop := fnAreasUptoRow.holds Try.pinned (OpenSpec.upto fnAreasSpec)

/-- 'laws.FnThinned', WHERE WHAT IT READS IS OF BULK AT MOST 1048576: true; the input reads as it did. -/
def fnThinnedUptoRow : OpenClaim := { program := "ytdikndbpcceogaa", sum := "bbce9a592d1284c4e9259a9131c82bffaa2052c1b974f088d936215bee904b89", func := "loop.example/g00918/laws.FnThinned", spec := "fnThinned", apart := false, narrowed := true }
def FnThinnedUptoSaid : Prop := fnThinnedUptoRow.holds Try.pinned (OpenSpec.upto fnThinnedSpec)

/-- 'laws.FnArcs', WHERE WHAT IT READS IS OF BULK AT MOST 1048576: true; the input reads as it did. -/
def fnArcsUptoRow : OpenClaim := { program := "ytdikndbpcceogaa", sum := "bbce9a592d1284c4e9259a9131c82bffaa2052c1b974f088d936215bee904b89", func := "loop.example/g00918/laws.FnArcs", spec := "fnArcs", apart := false, narrowed := true }
def FnArcsUptoSaid : Prop := fnArcsUptoRow.holds Try.pinned (OpenSpec.upto fnArcsSpec)

/-- 'laws.FnExactGapsOf', WHERE WHAT IT READS IS OF BULK AT MOST 1048576: true; the input reads as it did. -/
def fnExactGapsOfUptoRow : OpenClaim := { program := "ytdikndbpcceogaa", sum := "bbce9a592d1284c4e9259a9131c82bffaa2052c1b974f088d936215bee904b89", func := "loop.example/g00918/laws.FnExactGapsOf", spec := "fnExactGapsOf", unfollowed := true, recurses := true, apart := false, narrowed := true }
def FnExactGapsOfUptoSaid : Prop := fnExactGapsOfUptoRow.holds Try.pinned (OpenSpec.upto fnExactGapsOfSpec)

/-- 'laws.FnNotes', WHERE WHAT IT READS IS OF BULK AT MOST 1048576: true; the input reads as it did. -/
def fnNotesUptoRow : OpenClaim := { program := "ytdikndbpcceogaa", sum := "bbce9a592d1284c4e9259a9131c82bffaa2052c1b974f088d936215bee904b89", func := "loop.example/g00918/laws.FnNotes", spec := "fnNotes", unfollowed := true, recurses := true, apart := false, narrowed := true }
def FnNotesUptoSaid : Prop := fnNotesUptoRow.holds Try.pinned (OpenSpec.upto fnNotesSpec)

/-- 'laws.FnNormalSpots', WHERE WHAT IT READS IS OF BULK AT MOST 1048576: true; the input reads as it did. -/
def fnNormalSpotsUptoRow : OpenClaim := { program := "ytdikndbpcceogaa", sum := "bbce9a592d1284c4e9259a9131c82bffaa2052c1b974f088d936215bee904b89", func := "loop.example/g00918/laws.FnNormalSpots", spec := "fnNormalSpots", apart := false, narrowed := true }
def FnNormalSpotsUptoSaid : Prop := fnNormalSpotsUptoRow.holds Try.pinned (OpenSpec.upto fnNormalSpotsSpec)

end Rows
end Go.Proofs.Ytdikndbpcceogaa
