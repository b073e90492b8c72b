/-
  No cell of these rows narrows 'for every input' (looked for: loops, veiled, ifaces, maps, wideKeys, modest, calm, conditions, laid).
  DERIVED. THE GIVEN ROWS OF THIS SEAT. 6 by the template 'for every input the law returns true; each argument reads behind the call as it read before'; 0 by the template 'total and deterministic' (their statements: YtnimdpcfgfkdhabTotals.lean).
  GIVEN WITH THE SEED: the statements are not yours to turn. If you find one false, say at which input.
  Laid BY PROGRAM, IN A SANDBOX (cutbox-rows.mjs): the forced cells as the released guide's own fill.sh prints them over the translation 652bd2569c18591c… (all of the seat's roots in one cut). By AI agents, Wed Nov 11 2026. No macro, syntax, notation, axiom, sorry.
-/
import Derived.Test.YtnimdpcfgfkdhabChecked
import GoSem.Claim
import GoSem.ClaimJoined
import GoSem.ClaimMapViews
import Derived.JoinedTies
import Derived.KernelRfl
namespace Go.Proofs.Ytnimdpcfgfkdhab
/- THE CELL 'sum', in the pinned program and in every row, IS THE sha256 OF THE DUMP (.gsa) THAT YtnimdpcfgfkdhabProg.lean LOADS. Nothing in Lean hashes anything: it is a label: what it is worth is what the hold of that sum in a sandbox is worth. -/
noncomputable def Try.pinned : Pinned := { name := "ytnimdpcfgfkdhab", sum := "652bd2569c18591c7eb40eda5a73a6b8b057419c601120c97546c047614e2596", checked := Try.checked }
namespace Rows
def none {H : Type} : Left H := { results := [], args := [] }

/-- 'laws.FnExactSameLine': WHATEVER THE INPUT: true; the input reads as it did. -/
def fnExactSameLineSpec : ChangeSpec := { name := "fnExactSameLine", fn := fun _ => fun
  | [d1, d2] => { results := [.lit (.bool true)], args := [d1, d2] }
  | _ => none }
def fnExactSameLineRow : OpenClaim := { program := "ytnimdpcfgfkdhab", sum := "652bd2569c18591c7eb40eda5a73a6b8b057419c601120c97546c047614e2596", func := "loop.example/g00918/laws.FnExactSameLine", spec := "fnExactSameLine", apart := false }
def FnExactSameLineSaid : Prop := fnExactSameLineRow.holds Try.pinned (OpenSpec.ofChange fnExactSameLineSpec)

/-- ITS FALSE NEIGHBOUR: 'it returns false'. Refute it at one input. -/
def fnExactSameLineWrong : ChangeSpec := { name := "fnExactSameLine", fn := fun _ => fun
  | [d1, d2] => { results := [.lit (.bool false)], args := [d1, d2] }
  | _ => none }
def FnExactSameLineWrongFalsely : Prop := fnExactSameLineRow.holds Try.pinned (OpenSpec.ofChange fnExactSameLineWrong)

/-- 'laws.FnExactMakeFraction': WHATEVER THE INPUT: true; the input reads as it did. -/
def fnExactMakeFractionSpec : ChangeSpec := { name := "fnExactMakeFraction", fn := fun _ => fun
  | [d1, d2] => { results := [.lit (.bool true)], args := [d1, d2] }
  | _ => none }
def fnExactMakeFractionRow : OpenClaim := { program := "ytnimdpcfgfkdhab", sum := "652bd2569c18591c7eb40eda5a73a6b8b057419c601120c97546c047614e2596", func := "loop.example/g00918/laws.FnExactMakeFraction", spec := "fnExactMakeFraction", apart := false }
def FnExactMakeFractionSaid : Prop := fnExactMakeFractionRow.holds Try.pinned (OpenSpec.ofChange fnExactMakeFractionSpec)

/-- ITS FALSE NEIGHBOUR: 'it returns false'. Refute it at one input. -/
def fnExactMakeFractionWrong : ChangeSpec := { name := "fnExactMakeFraction", fn := fun _ => fun
  | [d1, d2] => { results := [.lit (.bool false)], args := [d1, d2] }
  | _ => none }
def FnExactMakeFractionWrongFalsely : Prop := fnExactMakeFractionRow.holds Try.pinned (OpenSpec.ofChange fnExactMakeFractionWrong)

/-- 'laws.FnExactAddFractions': WHATEVER THE INPUT: true; the input reads as it did. -/
def fnExactAddFractionsSpec : ChangeSpec := { name := "fnExactAddFractions", fn := fun _ => fun
  | [d1, d2] => { results := [.lit (.bool true)], args := [d1, d2] }
  | _ => none }
def fnExactAddFractionsRow : OpenClaim := { program := "ytnimdpcfgfkdhab", sum := "652bd2569c18591c7eb40eda5a73a6b8b057419c601120c97546c047614e2596", func := "loop.example/g00918/laws.FnExactAddFractions", spec := "fnExactAddFractions", apart := false }
def FnExactAddFractionsSaid : Prop := fnExactAddFractionsRow.holds Try.pinned (OpenSpec.ofChange fnExactAddFractionsSpec)

/-- ITS FALSE NEIGHBOUR: 'it returns false'. Refute it at one input. -/
def fnExactAddFractionsWrong : ChangeSpec := { name := "fnExactAddFractions", fn := fun _ => fun
  | [d1, d2] => { results := [.lit (.bool false)], args := [d1, d2] }
  | _ => none }
def FnExactAddFractionsWrongFalsely : Prop := fnExactAddFractionsRow.holds Try.pinned (OpenSpec.ofChange fnExactAddFractionsWrong)

/-- 'laws.FnExactTimesFractions': WHATEVER THE INPUT: true; the input reads as it did. -/
def fnExactTimesFractionsSpec : ChangeSpec := { name := "fnExactTimesFractions", fn := fun _ => fun
  | [d1, d2] => { results := [.lit (.bool true)], args := [d1, d2] }
  | _ => none }
def fnExactTimesFractionsRow : OpenClaim := { program := "ytnimdpcfgfkdhab", sum := "652bd2569c18591c7eb40eda5a73a6b8b057419c601120c97546c047614e2596", func := "loop.example/g00918/laws.FnExactTimesFractions", spec := "fnExactTimesFractions", apart := false }
def FnExactTimesFractionsSaid : Prop := fnExactTimesFractionsRow.holds Try.pinned (OpenSpec.ofChange fnExactTimesFractionsSpec)

/-- ITS FALSE NEIGHBOUR: 'it returns false'. Refute it at one input. -/
def fnExactTimesFractionsWrong : ChangeSpec := { name := "fnExactTimesFractions", fn := fun _ => fun
  | [d1, d2] => { results := [.lit (.bool false)], args := [d1, d2] }
  | _ => none }
def FnExactTimesFractionsWrongFalsely : Prop := fnExactTimesFractionsRow.holds Try.pinned (OpenSpec.ofChange fnExactTimesFractionsWrong)

/-- 'laws.FnExactSameTree': WHATEVER THE INPUT: true; the input reads as it did. -/
def fnExactSameTreeSpec : ChangeSpec := { name := "fnExactSameTree", fn := fun _ => fun
  | [d1, d2] => { results := [.lit (.bool true)], args := [d1, d2] }
  | _ => none }
def fnExactSameTreeRow : OpenClaim := { program := "ytnimdpcfgfkdhab", sum := "652bd2569c18591c7eb40eda5a73a6b8b057419c601120c97546c047614e2596", func := "loop.example/g00918/laws.FnExactSameTree", spec := "fnExactSameTree", apart := false }
def FnExactSameTreeSaid : Prop := fnExactSameTreeRow.holds Try.pinned (OpenSpec.ofChange fnExactSameTreeSpec)

/-- ITS FALSE NEIGHBOUR: 'it returns false'. Refute it at one input. -/
def fnExactSameTreeWrong : ChangeSpec := { name := "fnExactSameTree", fn := fun _ => fun
  | [d1, d2] => { results := [.lit (.bool false)], args := [d1, d2] }
  | _ => none }
def FnExactSameTreeWrongFalsely : Prop := fnExactSameTreeRow.holds Try.pinned (OpenSpec.ofChange fnExactSameTreeWrong)

/-- 'laws.FnExactSameSymbols': WHATEVER THE INPUT: true; the input reads as it did. -/
def fnExactSameSymbolsSpec : ChangeSpec := { name := "fnExactSameSymbols", fn := fun _ => fun
  | [d1, d2] => { results := [.lit (.bool true)], args := [d1, d2] }
  | _ => none }
def fnExactSameSymbolsRow : OpenClaim := { program := "ytnimdpcfgfkdhab", sum := "652bd2569c18591c7eb40eda5a73a6b8b057419c601120c97546c047614e2596", func := "loop.example/g00918/laws.FnExactSameSymbols", spec := "fnExactSameSymbols", apart := false }
def FnExactSameSymbolsSaid : Prop := fnExactSameSymbolsRow.holds Try.pinned (OpenSpec.ofChange fnExactSameSymbolsSpec)

/-- ITS FALSE NEIGHBOUR: 'it returns false'. Refute it at one input. -/
def fnExactSameSymbolsWrong : ChangeSpec := { name := "fnExactSameSymbols", fn := fun _ => fun
  | [d1, d2] => { results := [.lit (.bool false)], args := [d1, d2] }
  | _ => none }
def FnExactSameSymbolsWrongFalsely : Prop := fnExactSameSymbolsRow.holds Try.pinned (OpenSpec.ofChange fnExactSameSymbolsWrong)

/- THE SECOND FORM. 'bulk': how many values and letters a reading holds, each counted each time it is reached (what is shared counts as often as it is met; a slice's spare places count too). A statement '..UptoSaid' is the law's where the arguments, and the package variables that the reading takes, are together of bulk at most 1048576: NARROWER than '..Said'. Prove '..Said' where nothing that the law and all that it calls make is longer than what came in: it says more and counts as full. Else prove '..UptoSaid'. A law counts once. -/
mutual
def uptoBulk {H : Type} : DataW H → Nat
  | .lit (.string bytes) => bytes.length + 1
  | .lit _ => 1
  | .nil => 1
  | .ptr d => uptoBulk d + 1
  | .slice elems spare => uptoBulkAll elems + uptoBulkAll spare + 1
  | .agg parts => uptoBulkAll parts + 1
  | .iface _ d => uptoBulk d + 1
  | .map entries => uptoBulkEntries entries + 1
  | .held _ => 1
def uptoBulkAll {H : Type} : List (DataW H) → Nat
  | [] => 0
  | d :: r => uptoBulk d + uptoBulkAll r
def uptoBulkEntries {H : Type} : List (Lit × DataW H) → Nat
  | [] => 0
  | x :: r => uptoBulkEntry x + uptoBulkEntries r
def uptoBulkEntry {H : Type} : Lit × DataW H → Nat
  | (.string bytes, d) => bytes.length + uptoBulk d + 1
  | (_, d) => uptoBulk d + 1
 end
def uptoSmall : (H : Type) → List (DataW H) → Bool := fun _ ds => decide (uptoBulkAll ds ≤ 1048576)
def OpenSpec.upto (s : _root_.Go.ChangeSpec) : _root_.Go.OpenSpec := { _root_.Go.OpenSpec.ofChange s with cond := some uptoSmall }

/-- 'laws.FnExactSameLine', WHERE WHAT IT READS IS OF BULK AT MOST 1048576: true; the input reads as it did. -/
def fnExactSameLineUptoRow : OpenClaim := { program := "ytnimdpcfgfkdhab", sum := "652bd2569c18591c7eb40eda5a73a6b8b057419c601120c97546c047614e2596", func := "loop.example/g00918/laws.FnExactSameLine", spec := "fnExactSameLine", apart := false, narrowed := true }
def FnExactSameLineUptoSaid : Prop := fnExactSameLineUptoRow.holds Try.pinned (OpenSpec.upto fnExactSameLineSpec)

/-- 'laws.FnExactMakeFraction', WHERE WHAT IT READS IS OF BULK AT MOST 1048576: true; the input reads as it did. -/
def fnExactMakeFractionUptoRow : OpenClaim := { program := "ytnimdpcfgfkdhab", sum := "652bd2569c18591c7eb40eda5a73a6b8b057419c601120c97546c047614e2596", func := "loop.example/g00918/laws.FnExactMakeFraction", spec := "fnExactMakeFraction", apart := false, narrowed := true }
def FnExactMakeFractionUptoSaid : Prop := fnExactMakeFractionUptoRow.holds Try.pinned (OpenSpec.upto fnExactMakeFractionSpec)

/-- 'laws.FnExactAddFractions', WHERE WHAT IT READS IS OF BULK AT MOST 1048576: true; the input reads as it did. -/
def fnExactAddFractionsUptoRow : OpenClaim := { program := "ytnimdpcfgfkdhab", sum := "652bd2569c18591c7eb40eda5a73a6b8b057419c601120c97546c047614e2596", func := "loop.example/g00918/laws.FnExactAddFractions", spec := "fnExactAddFractions", apart := false, narrowed := true }
def FnExactAddFractionsUptoSaid : Prop := fnExactAddFractionsUptoRow.holds Try.pinned (OpenSpec.upto fnExactAddFractionsSpec)

/-- 'laws.FnExactTimesFractions', WHERE WHAT IT READS IS OF BULK AT MOST 1048576: true; the input reads as it did. -/
def fnExactTimesFractionsUptoRow : OpenClaim := { program := "ytnimdpcfgfkdhab", sum := "652bd2569c18591c7eb40eda5a73a6b8b057419c601120c97546c047614e2596", func := "loop.example/g00918/laws.FnExactTimesFractions", spec := "fnExactTimesFractions", apart := false, narrowed := true }
def FnExactTimesFractionsUptoSaid : Prop := fnExactTimesFractionsUptoRow.holds Try.pinned (OpenSpec.upto fnExactTimesFractionsSpec)

/-- 'laws.FnExactSameTree', WHERE WHAT IT READS IS OF BULK AT MOST 1048576: true; the input reads as it did. -/
def fnExactSameTreeUptoRow : OpenClaim := { program := "ytnimdpcfgfkdhab", sum := "652bd2569c18591c7eb40eda5a73a6b8b057419c601120c97546c047614e2596", func := "loop.example/g00918/laws.FnExactSameTree", spec := "fnExactSameTree", apart := false, narrowed := true }
def FnExactSameTreeUptoSaid : Prop := fnExactSameTreeUptoRow.holds Try.pinned (OpenSpec.upto fnExactSameTreeSpec)

/-- 'laws.FnExactSameSymbols', WHERE WHAT IT READS IS OF BULK AT MOST 1048576: true; the input reads as it did. -/
def fnExactSameSymbolsUptoRow : OpenClaim := { program := "ytnimdpcfgfkdhab", sum := "652bd2569c18591c7eb40eda5a73a6b8b057419c601120c97546c047614e2596", func := "loop.example/g00918/laws.FnExactSameSymbols", spec := "fnExactSameSymbols", apart := false, narrowed := true }
def FnExactSameSymbolsUptoSaid : Prop := fnExactSameSymbolsUptoRow.holds Try.pinned (OpenSpec.upto fnExactSameSymbolsSpec)

end Rows
end Go.Proofs.Ytnimdpcfgfkdhab
