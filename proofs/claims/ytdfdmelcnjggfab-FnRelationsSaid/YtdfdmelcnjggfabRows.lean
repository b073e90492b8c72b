/-
  No cell of these rows narrows 'for every input' (looked for: loops, veiled, ifaces, maps, wideKeys, modest, calm, conditions, laid).
  DERIVED. THE GIVEN ROWS OF THIS SEAT. 6 by the template 'for every input the law returns true; each argument reads behind the call as it read before'; 0 by the template 'total and deterministic' (their statements: YtdfdmelcnjggfabTotals.lean).
  GIVEN WITH THE SEED: the statements are not yours to turn. If you find one false, say at which input.
  Laid BY PROGRAM, IN A SANDBOX (cutbox-rows.mjs): the forced cells as the released guide's own fill.sh prints them over the translation fb652cde8b9d5648… (all of the seat's roots in one cut). By AI agents, Wed Nov 11 2026. No macro, syntax, notation, axiom, sorry.
-/
import Derived.Test.YtdfdmelcnjggfabChecked
import GoSem.Claim
import GoSem.ClaimJoined
import GoSem.ClaimMapViews
import Derived.JoinedTies
import Derived.KernelRfl
namespace Go.Proofs.Ytdfdmelcnjggfab
/- THE CELL 'sum', in the pinned program and in every row, IS THE sha256 OF THE DUMP (.gsa) THAT YtdfdmelcnjggfabProg.lean LOADS. Nothing in Lean hashes anything: it is a label: what it is worth is what the hold of that sum in a sandbox is worth. -/
noncomputable def Try.pinned : Pinned := { name := "ytdfdmelcnjggfab", sum := "fb652cde8b9d5648999f325f4e11b049f0f9d1b3ecec2d63d9d7cffa3dc0c78e", checked := Try.checked }
namespace Rows
def none {H : Type} : Left H := { results := [], args := [] }

/-- 'laws.FnBoxes': WHATEVER THE INPUT: true; the input reads as it did. -/
def fnBoxesSpec : ChangeSpec := { name := "fnBoxes", fn := fun _ => fun
  | [d] => { results := [.lit (.bool true)], args := [d] }
  | _ => none }
def fnBoxesRow : OpenClaim := { program := "ytdfdmelcnjggfab", sum := "fb652cde8b9d5648999f325f4e11b049f0f9d1b3ecec2d63d9d7cffa3dc0c78e", func := "loop.example/g00918/laws.FnBoxes", spec := "fnBoxes", apart := false }
def FnBoxesSaid : Prop := fnBoxesRow.holds Try.pinned (OpenSpec.ofChange fnBoxesSpec)

/-- ITS FALSE NEIGHBOUR: 'it returns false'. Refute it at one input. -/
def fnBoxesWrong : ChangeSpec := { name := "fnBoxes", fn := fun _ => fun
  | [d] => { results := [.lit (.bool false)], args := [d] }
  | _ => none }
def FnBoxesWrongFalsely : Prop := fnBoxesRow.holds Try.pinned (OpenSpec.ofChange fnBoxesWrong)

/-- 'laws.FnRelations': WHATEVER THE INPUT: true; the input reads as it did. -/
def fnRelationsSpec : ChangeSpec := { name := "fnRelations", fn := fun _ => fun
  | [d] => { results := [.lit (.bool true)], args := [d] }
  | _ => none }
def fnRelationsRow : OpenClaim := { program := "ytdfdmelcnjggfab", sum := "fb652cde8b9d5648999f325f4e11b049f0f9d1b3ecec2d63d9d7cffa3dc0c78e", func := "loop.example/g00918/laws.FnRelations", spec := "fnRelations", apart := false }
def FnRelationsSaid : Prop := fnRelationsRow.holds Try.pinned (OpenSpec.ofChange fnRelationsSpec)

/-- ITS FALSE NEIGHBOUR: 'it returns false'. Refute it at one input. -/
def fnRelationsWrong : ChangeSpec := { name := "fnRelations", fn := fun _ => fun
  | [d] => { results := [.lit (.bool false)], args := [d] }
  | _ => none }
def FnRelationsWrongFalsely : Prop := fnRelationsRow.holds Try.pinned (OpenSpec.ofChange fnRelationsWrong)

/-- 'laws.FnMeets': WHATEVER THE INPUT: true; the input reads as it did. -/
def fnMeetsSpec : ChangeSpec := { name := "fnMeets", fn := fun _ => fun
  | [d] => { results := [.lit (.bool true)], args := [d] }
  | _ => none }
def fnMeetsRow : OpenClaim := { program := "ytdfdmelcnjggfab", sum := "fb652cde8b9d5648999f325f4e11b049f0f9d1b3ecec2d63d9d7cffa3dc0c78e", func := "loop.example/g00918/laws.FnMeets", spec := "fnMeets", apart := false }
def FnMeetsSaid : Prop := fnMeetsRow.holds Try.pinned (OpenSpec.ofChange fnMeetsSpec)

/-- ITS FALSE NEIGHBOUR: 'it returns false'. Refute it at one input. -/
def fnMeetsWrong : ChangeSpec := { name := "fnMeets", fn := fun _ => fun
  | [d] => { results := [.lit (.bool false)], args := [d] }
  | _ => none }
def FnMeetsWrongFalsely : Prop := fnMeetsRow.holds Try.pinned (OpenSpec.ofChange fnMeetsWrong)

/-- 'laws.FnNotes': WHATEVER THE INPUT: true; the input reads as it did. -/
def fnNotesSpec : ChangeSpec := { name := "fnNotes", fn := fun _ => fun
  | [d1, d2] => { results := [.lit (.bool true)], args := [d1, d2] }
  | _ => none }
def fnNotesRow : OpenClaim := { program := "ytdfdmelcnjggfab", sum := "fb652cde8b9d5648999f325f4e11b049f0f9d1b3ecec2d63d9d7cffa3dc0c78e", func := "loop.example/g00918/laws.FnNotes", spec := "fnNotes", unfollowed := true, recurses := true, apart := false }
def FnNotesSaid : Prop := fnNotesRow.holds Try.pinned (OpenSpec.ofChange fnNotesSpec)

/-- ITS FALSE NEIGHBOUR: 'it returns false'. Refute it at one input. -/
def fnNotesWrong : ChangeSpec := { name := "fnNotes", fn := fun _ => fun
  | [d1, d2] => { results := [.lit (.bool false)], args := [d1, d2] }
  | _ => none }
def FnNotesWrongFalsely : Prop := fnNotesRow.holds Try.pinned (OpenSpec.ofChange fnNotesWrong)

/-- 'laws.FnNormalSpots': WHATEVER THE INPUT: true; the input reads as it did. -/
def fnNormalSpotsSpec : ChangeSpec := { name := "fnNormalSpots", fn := fun _ => fun
  | [d] => { results := [.lit (.bool true)], args := [d] }
  | _ => none }
def fnNormalSpotsRow : OpenClaim := { program := "ytdfdmelcnjggfab", sum := "fb652cde8b9d5648999f325f4e11b049f0f9d1b3ecec2d63d9d7cffa3dc0c78e", func := "loop.example/g00918/laws.FnNormalSpots", spec := "fnNormalSpots", apart := false }
def FnNormalSpotsSaid : Prop := fnNormalSpotsRow.holds Try.pinned (OpenSpec.ofChange fnNormalSpotsSpec)

/-- ITS FALSE NEIGHBOUR: 'it returns false'. Refute it at one input. -/
def fnNormalSpotsWrong : ChangeSpec := { name := "fnNormalSpots", fn := fun _ => fun
  | [d] => { results := [.lit (.bool false)], args := [d] }
  | _ => none }
def FnNormalSpotsWrongFalsely : Prop := fnNormalSpotsRow.holds Try.pinned (OpenSpec.ofChange fnNormalSpotsWrong)

/-- 'laws.FnDirections': WHATEVER THE INPUT: true; the input reads as it did. -/
def fnDirectionsSpec : ChangeSpec := { name := "fnDirections", fn := fun _ => fun
  | [d] => { results := [.lit (.bool true)], args := [d] }
  | _ => none }
def fnDirectionsRow : OpenClaim := { program := "ytdfdmelcnjggfab", sum := "fb652cde8b9d5648999f325f4e11b049f0f9d1b3ecec2d63d9d7cffa3dc0c78e", func := "loop.example/g00918/laws.FnDirections", spec := "fnDirections", apart := false }
def FnDirectionsSaid : Prop := fnDirectionsRow.holds Try.pinned (OpenSpec.ofChange fnDirectionsSpec)

/-- ITS FALSE NEIGHBOUR: 'it returns false'. Refute it at one input. -/
def fnDirectionsWrong : ChangeSpec := { name := "fnDirections", fn := fun _ => fun
  | [d] => { results := [.lit (.bool false)], args := [d] }
  | _ => none }
def FnDirectionsWrongFalsely : Prop := fnDirectionsRow.holds Try.pinned (OpenSpec.ofChange fnDirectionsWrong)

/- THE SECOND FORM. 'bulk': how many values and letters a reading holds, each counted each time it is reached (what is shared counts as often as it is met; a slice's spare places count too). A statement '..UptoSaid' is the law's where the arguments, and the package variables that the reading takes, are together of bulk at most 1048576: NARROWER than '..Said'. Prove '..Said' where nothing that the law and all that it calls make is longer than what came in: it says more and counts as full. Else prove '..UptoSaid'. A law counts once. -/
mutual
def uptoBulk {H : Type} : DataW H → Nat
  | .lit (.string bytes) => bytes.length + 1
  | .lit _ => 1
  | .nil => 1
  | .ptr d => uptoBulk d + 1
  | .slice elems spare => uptoBulkAll elems + uptoBulkAll spare + 1
  | .agg parts => uptoBulkAll parts + 1
  | .iface _ d => uptoBulk d + 1
  | .map entries => uptoBulkEntries entries + 1
  | .held _ => 1
def uptoBulkAll {H : Type} : List (DataW H) → Nat
  | [] => 0
  | d :: r => uptoBulk d + uptoBulkAll r
def uptoBulkEntries {H : Type} : List (Lit × DataW H) → Nat
  | [] => 0
  | x :: r => uptoBulkEntry x + uptoBulkEntries r
def uptoBulkEntry {H : Type} : Lit × DataW H → Nat
  | (.string bytes, d) => bytes.length + uptoBulk d + 1
  | (_, d) => uptoBulk d + 1
 end
def uptoSmall : (H : Type) → List (DataW H) → Bool := fun _ ds => decide (uptoBulkAll ds ≤ 1048576)
def OpenSpec.upto (s : _root_.Go.ChangeSpec) : _root_.Go.OpenSpec := { _root_.Go.OpenSpec.ofChange s with cond := some uptoSmall }

/-- 'laws.FnBoxes', WHERE WHAT IT READS IS OF BULK AT MOST 1048576: true; the input reads as it did. -/
def fnBoxesUptoRow : OpenClaim := { program := "ytdfdmelcnjggfab", sum := "fb652cde8b9d5648999f325f4e11b049f0f9d1b3ecec2d63d9d7cffa3dc0c78e", func := "loop.example/g00918/laws.FnBoxes", spec := "fnBoxes", apart := false, narrowed := true }
def FnBoxesUptoSaid : Prop := fnBoxesUptoRow.holds Try.pinned (OpenSpec.upto fnBoxesSpec)

/-- 'laws.FnRelations', WHERE WHAT IT READS IS OF BULK AT MOST 1048576: true; the input reads as it did. -/
def fnRelationsUptoRow : OpenClaim := { program := "ytdfdmelcnjggfab", sum := "fb652cde8b9d5648999f325f4e11b049f0f9d1b3ecec2d63d9d7cffa3dc0c78e", func := "loop.example/g00918/laws.FnRelations", spec := "fnRelations", apart := false, narrowed := true }
def FnRelationsUptoSaid : Prop := fnRelationsUptoRow.holds Try.pinned (OpenSpec.upto fnRelationsSpec)

/-- 'laws.FnMeets', WHERE WHAT IT READS IS OF BULK AT MOST 1048576: true; the input reads as it did. -/
def fnMeetsUptoRow : OpenClaim := { program := "ytdfdmelcnjggfab", sum := "fb652cde8b9d5648999f325f4e11b049f0f9d1b3ecec2d63d9d7cffa3dc0c78e", func := "loop.example/g00918/laws.FnMeets", spec := "fnMeets", apart := false, narrowed := true }
def FnMeetsUptoSaid : Prop := fnMeetsUptoRow.holds Try.pinned (OpenSpec.upto fnMeetsSpec)

/-- 'laws.FnNotes', WHERE WHAT IT READS IS OF BULK AT MOST 1048576: true; the input reads as it did. -/
def fnNotesUptoRow : OpenClaim := { program := "ytdfdmelcnjggfab", sum := "fb652cde8b9d5648999f325f4e11b049f0f9d1b3ecec2d63d9d7cffa3dc0c78e", func := "loop.example/g00918/laws.FnNotes", spec := "fnNotes", unfollowed := true, recurses := true, apart := false, narrowed := true }
def FnNotesUptoSaid : Prop := fnNotesUptoRow.holds Try.pinned (OpenSpec.upto fnNotesSpec)

/-- 'laws.FnNormalSpots', WHERE WHAT IT READS IS OF BULK AT MOST 1048576: true; the input reads as it did. -/
def fnNormalSpotsUptoRow : OpenClaim := { program := "ytdfdmelcnjggfab", sum := "fb652cde8b9d5648999f325f4e11b049f0f9d1b3ecec2d63d9d7cffa3dc0c78e", func := "loop.example/g00918/laws.FnNormalSpots", spec := "fnNormalSpots", apart := false, narrowed := true }
def FnNormalSpotsUptoSaid : Prop := fnNormalSpotsUptoRow.holds Try.pinned (OpenSpec.upto fnNormalSpotsSpec)

/-- 'laws.FnDirections', WHERE WHAT IT READS IS OF BULK AT MOST 1048576: true; the input reads as it did. -/
def fnDirectionsUptoRow : OpenClaim := { program := "ytdfdmelcnjggfab", sum := "fb652cde8b9d5648999f325f4e11b049f0f9d1b3ecec2d63d9d7cffa3dc0c78e", func := "loop.example/g00918/laws.FnDirections", spec := "fnDirections", apart := false, narrowed := true }
def FnDirectionsUptoSaid : Prop := fnDirectionsUptoRow.holds Try.pinned (OpenSpec.upto fnDirectionsSpec)

end Rows
end Go.Proofs.Ytdfdmelcnjggfab
