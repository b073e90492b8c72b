/-
  No cell of these rows narrows 'for every input' (looked for: loops, veiled, ifaces, maps, wideKeys, modest, calm, conditions, laid).
  DERIVED. THE GIVEN ROWS OF THIS SEAT. 6 by the template 'for every input the law returns true; each argument reads behind the call as it read before'; 0 by the template 'total and deterministic' (their statements: YtnimdpcfgfkdhaaTotals.lean).
  GIVEN WITH THE SEED: the statements are not yours to turn. If you find one false, say at which input.
  Laid BY PROGRAM, IN A SANDBOX (cutbox-rows.mjs): the forced cells as the released guide's own fill.sh prints them over the translation 676dfafd08afd7ad… (all of the seat's roots in one cut). By AI agents, Wed Nov 11 2026. No macro, syntax, notation, axiom, sorry.
-/
import Derived.Test.YtnimdpcfgfkdhaaChecked
import GoSem.Claim
import GoSem.ClaimJoined
import GoSem.ClaimMapViews
import Derived.JoinedTies
import Derived.KernelRfl
namespace Go.Proofs.Ytnimdpcfgfkdhaa
/- THE CELL 'sum', in the pinned program and in every row, IS THE sha256 OF THE DUMP (.gsa) THAT YtnimdpcfgfkdhaaProg.lean LOADS. Nothing in Lean hashes anything: it is a label: what it is worth is what the hold of that sum in a sandbox is worth. -/
noncomputable def Try.pinned : Pinned := { name := "ytnimdpcfgfkdhaa", sum := "676dfafd08afd7addb42ac015202445de0b80e3e112ff303faccfcca1b42435e", checked := Try.checked }
namespace Rows
def none {H : Type} : Left H := { results := [], args := [] }

/-- 'laws.FnExactRelationName': WHATEVER THE INPUT: true; the input reads as it did. -/
def fnExactRelationNameSpec : ChangeSpec := { name := "fnExactRelationName", fn := fun _ => fun
  | [d] => { results := [.lit (.bool true)], args := [d] }
  | _ => none }
def fnExactRelationNameRow : OpenClaim := { program := "ytnimdpcfgfkdhaa", sum := "676dfafd08afd7addb42ac015202445de0b80e3e112ff303faccfcca1b42435e", func := "loop.example/g00918/laws.FnExactRelationName", spec := "fnExactRelationName", apart := false }
def FnExactRelationNameSaid : Prop := fnExactRelationNameRow.holds Try.pinned (OpenSpec.ofChange fnExactRelationNameSpec)

/-- ITS FALSE NEIGHBOUR: 'it returns false'. Refute it at one input. -/
def fnExactRelationNameWrong : ChangeSpec := { name := "fnExactRelationName", fn := fun _ => fun
  | [d] => { results := [.lit (.bool false)], args := [d] }
  | _ => none }
def FnExactRelationNameWrongFalsely : Prop := fnExactRelationNameRow.holds Try.pinned (OpenSpec.ofChange fnExactRelationNameWrong)

/-- 'laws.FnExactRelationNamed': WHATEVER THE INPUT: true; the input reads as it did. -/
def fnExactRelationNamedSpec : ChangeSpec := { name := "fnExactRelationNamed", fn := fun _ => fun
  | [d] => { results := [.lit (.bool true)], args := [d] }
  | _ => none }
def fnExactRelationNamedRow : OpenClaim := { program := "ytnimdpcfgfkdhaa", sum := "676dfafd08afd7addb42ac015202445de0b80e3e112ff303faccfcca1b42435e", func := "loop.example/g00918/laws.FnExactRelationNamed", spec := "fnExactRelationNamed", apart := false }
def FnExactRelationNamedSaid : Prop := fnExactRelationNamedRow.holds Try.pinned (OpenSpec.ofChange fnExactRelationNamedSpec)

/-- ITS FALSE NEIGHBOUR: 'it returns false'. Refute it at one input. -/
def fnExactRelationNamedWrong : ChangeSpec := { name := "fnExactRelationNamed", fn := fun _ => fun
  | [d] => { results := [.lit (.bool false)], args := [d] }
  | _ => none }
def FnExactRelationNamedWrongFalsely : Prop := fnExactRelationNamedRow.holds Try.pinned (OpenSpec.ofChange fnExactRelationNamedWrong)

/-- 'laws.FnExactMiddleOf': WHATEVER THE INPUT: true; the input reads as it did. -/
def fnExactMiddleOfSpec : ChangeSpec := { name := "fnExactMiddleOf", fn := fun _ => fun
  | [d] => { results := [.lit (.bool true)], args := [d] }
  | _ => none }
def fnExactMiddleOfRow : OpenClaim := { program := "ytnimdpcfgfkdhaa", sum := "676dfafd08afd7addb42ac015202445de0b80e3e112ff303faccfcca1b42435e", func := "loop.example/g00918/laws.FnExactMiddleOf", spec := "fnExactMiddleOf", apart := false }
def FnExactMiddleOfSaid : Prop := fnExactMiddleOfRow.holds Try.pinned (OpenSpec.ofChange fnExactMiddleOfSpec)

/-- ITS FALSE NEIGHBOUR: 'it returns false'. Refute it at one input. -/
def fnExactMiddleOfWrong : ChangeSpec := { name := "fnExactMiddleOf", fn := fun _ => fun
  | [d] => { results := [.lit (.bool false)], args := [d] }
  | _ => none }
def FnExactMiddleOfWrongFalsely : Prop := fnExactMiddleOfRow.holds Try.pinned (OpenSpec.ofChange fnExactMiddleOfWrong)

/-- 'laws.FnExactValidFraction': WHATEVER THE INPUT: true; the input reads as it did. -/
def fnExactValidFractionSpec : ChangeSpec := { name := "fnExactValidFraction", fn := fun _ => fun
  | [d] => { results := [.lit (.bool true)], args := [d] }
  | _ => none }
def fnExactValidFractionRow : OpenClaim := { program := "ytnimdpcfgfkdhaa", sum := "676dfafd08afd7addb42ac015202445de0b80e3e112ff303faccfcca1b42435e", func := "loop.example/g00918/laws.FnExactValidFraction", spec := "fnExactValidFraction", apart := false }
def FnExactValidFractionSaid : Prop := fnExactValidFractionRow.holds Try.pinned (OpenSpec.ofChange fnExactValidFractionSpec)

/-- ITS FALSE NEIGHBOUR: 'it returns false'. Refute it at one input. -/
def fnExactValidFractionWrong : ChangeSpec := { name := "fnExactValidFraction", fn := fun _ => fun
  | [d] => { results := [.lit (.bool false)], args := [d] }
  | _ => none }
def FnExactValidFractionWrongFalsely : Prop := fnExactValidFractionRow.holds Try.pinned (OpenSpec.ofChange fnExactValidFractionWrong)

/-- 'laws.FnExactCommonArea': WHATEVER THE INPUT: true; the input reads as it did. -/
def fnExactCommonAreaSpec : ChangeSpec := { name := "fnExactCommonArea", fn := fun _ => fun
  | [d1, d2] => { results := [.lit (.bool true)], args := [d1, d2] }
  | _ => none }
def fnExactCommonAreaRow : OpenClaim := { program := "ytnimdpcfgfkdhaa", sum := "676dfafd08afd7addb42ac015202445de0b80e3e112ff303faccfcca1b42435e", func := "loop.example/g00918/laws.FnExactCommonArea", spec := "fnExactCommonArea", apart := false }
def FnExactCommonAreaSaid : Prop := fnExactCommonAreaRow.holds Try.pinned (OpenSpec.ofChange fnExactCommonAreaSpec)

/-- ITS FALSE NEIGHBOUR: 'it returns false'. Refute it at one input. -/
def fnExactCommonAreaWrong : ChangeSpec := { name := "fnExactCommonArea", fn := fun _ => fun
  | [d1, d2] => { results := [.lit (.bool false)], args := [d1, d2] }
  | _ => none }
def FnExactCommonAreaWrongFalsely : Prop := fnExactCommonAreaRow.holds Try.pinned (OpenSpec.ofChange fnExactCommonAreaWrong)

/-- 'laws.FnExactRelationOf': WHATEVER THE INPUT: true; the input reads as it did. -/
def fnExactRelationOfSpec : ChangeSpec := { name := "fnExactRelationOf", fn := fun _ => fun
  | [d1, d2] => { results := [.lit (.bool true)], args := [d1, d2] }
  | _ => none }
def fnExactRelationOfRow : OpenClaim := { program := "ytnimdpcfgfkdhaa", sum := "676dfafd08afd7addb42ac015202445de0b80e3e112ff303faccfcca1b42435e", func := "loop.example/g00918/laws.FnExactRelationOf", spec := "fnExactRelationOf", apart := false }
def FnExactRelationOfSaid : Prop := fnExactRelationOfRow.holds Try.pinned (OpenSpec.ofChange fnExactRelationOfSpec)

/-- ITS FALSE NEIGHBOUR: 'it returns false'. Refute it at one input. -/
def fnExactRelationOfWrong : ChangeSpec := { name := "fnExactRelationOf", fn := fun _ => fun
  | [d1, d2] => { results := [.lit (.bool false)], args := [d1, d2] }
  | _ => none }
def FnExactRelationOfWrongFalsely : Prop := fnExactRelationOfRow.holds Try.pinned (OpenSpec.ofChange fnExactRelationOfWrong)

/- THE SECOND FORM. 'bulk': how many values and letters a reading holds, each counted each time it is reached (what is shared counts as often as it is met; a slice's spare places count too). A statement '..UptoSaid' is the law's where the arguments, and the package variables that the reading takes, are together of bulk at most 1048576: NARROWER than '..Said'. Prove '..Said' where nothing that the law and all that it calls make is longer than what came in: it says more and counts as full. Else prove '..UptoSaid'. A law counts once. -/
mutual
def uptoBulk {H : Type} : DataW H → Nat
  | .lit (.string bytes) => bytes.length + 1
  | .lit _ => 1
  | .nil => 1
  | .ptr d => uptoBulk d + 1
  | .slice elems spare => uptoBulkAll elems + uptoBulkAll spare + 1
  | .agg parts => uptoBulkAll parts + 1
  | .iface _ d => uptoBulk d + 1
  | .map entries => uptoBulkEntries entries + 1
  | .held _ => 1
def uptoBulkAll {H : Type} : List (DataW H) → Nat
  | [] => 0
  | d :: r => uptoBulk d + uptoBulkAll r
def uptoBulkEntries {H : Type} : List (Lit × DataW H) → Nat
  | [] => 0
  | x :: r => uptoBulkEntry x + uptoBulkEntries r
def uptoBulkEntry {H : Type} : Lit × DataW H → Nat
  | (.string bytes, d) => bytes.length + uptoBulk d + 1
  | (_, d) => uptoBulk d + 1
 end
def uptoSmall : (H : Type) → List (DataW H) → Bool := fun _ ds => decide (uptoBulkAll ds ≤ 1048576)
def OpenSpec.upto (s : _root_.Go.ChangeSpec) : _root_.Go.OpenSpec := { _root_.Go.OpenSpec.ofChange s with cond := some uptoSmall }

/-- 'laws.FnExactRelationName', WHERE WHAT IT READS IS OF BULK AT MOST 1048576: true; the input reads as it did. -/
def fnExactRelationNameUptoRow : OpenClaim := { program := "ytnimdpcfgfkdhaa", sum := "676dfafd08afd7addb42ac015202445de0b80e3e112ff303faccfcca1b42435e", func := "loop.example/g00918/laws.FnExactRelationName", spec := "fnExactRelationName", apart := false, narrowed := true }
def FnExactRelationNameUptoSaid : Prop := fnExactRelationNameUptoRow.holds Try.pinned (OpenSpec.upto fnExactRelationNameSpec)

/-- 'laws.FnExactRelationNamed', WHERE WHAT IT READS IS OF BULK AT MOST 1048576: true; the input reads as it did. -/
def fnExactRelationNamedUptoRow : OpenClaim := { program := "ytnimdpcfgfkdhaa", sum := "676dfafd08afd7addb42ac015202445de0b80e3e112ff303faccfcca1b42435e", func := "loop.example/g00918/laws.FnExactRelationNamed", spec := "fnExactRelationNamed", apart := false, narrowed := true }
def FnExactRelationNamedUptoSaid : Prop := fnExactRelationNamedUptoRow.holds Try.pinned (OpenSpec.upto fnExactRelationNamedSpec)

/-- 'laws.FnExactMiddleOf', WHERE WHAT IT READS IS OF BULK AT MOST 1048576: true; the input reads as it did. -/
def fnExactMiddleOfUptoRow : OpenClaim := { program := "ytnimdpcfgfkdhaa", sum := "676dfafd08afd7addb42ac015202445de0b80e3e112ff303faccfcca1b42435e", func := "loop.example/g00918/laws.FnExactMiddleOf", spec := "fnExactMiddleOf", apart := false, narrowed := true }
def FnExactMiddleOfUptoSaid : Prop := fnExactMiddleOfUptoRow.holds Try.pinned (OpenSpec.upto fnExactMiddleOfSpec)

/-- 'laws.FnExactValidFraction', WHERE WHAT IT READS IS OF BULK AT MOST 1048576: true; the input reads as it did. -/
def fnExactValidFractionUptoRow : OpenClaim := { program := "ytnimdpcfgfkdhaa", sum := "676dfafd08afd7addb42ac015202445de0b80e3e112ff303faccfcca1b42435e", func := "loop.example/g00918/laws.FnExactValidFraction", spec := "fnExactValidFraction", apart := false, narrowed := true }
def FnExactValidFractionUptoSaid : Prop := fnExactValidFractionUptoRow.holds Try.pinned (OpenSpec.upto fnExactValidFractionSpec)

/-- 'laws.FnExactCommonArea', WHERE WHAT IT READS IS OF BULK AT MOST 1048576: true; the input reads as it did. -/
def fnExactCommonAreaUptoRow : OpenClaim := { program := "ytnimdpcfgfkdhaa", sum := "676dfafd08afd7addb42ac015202445de0b80e3e112ff303faccfcca1b42435e", func := "loop.example/g00918/laws.FnExactCommonArea", spec := "fnExactCommonArea", apart := false, narrowed := true }
def FnExactCommonAreaUptoSaid : Prop := fnExactCommonAreaUptoRow.holds Try.pinned (OpenSpec.upto fnExactCommonAreaSpec)

/-- 'laws.FnExactRelationOf', WHERE WHAT IT READS IS OF BULK AT MOST 1048576: true; the input reads as it did. -/
def fnExactRelationOfUptoRow : OpenClaim := { program := "ytnimdpcfgfkdhaa", sum := "676dfafd08afd7addb42ac015202445de0b80e3e112ff303faccfcca1b42435e", func := "loop.example/g00918/laws.FnExactRelationOf", spec := "fnExactRelationOf", apart := false, narrowed := true }
def FnExactRelationOfUptoSaid : Prop := fnExactRelationOfUptoRow.holds Try.pinned (OpenSpec.upto fnExactRelationOfSpec)

end Rows
end Go.Proofs.Ytnimdpcfgfkdhaa
