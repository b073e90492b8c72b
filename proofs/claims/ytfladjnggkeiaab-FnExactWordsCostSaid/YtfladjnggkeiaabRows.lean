/-
  No cell of these rows narrows 'for every input' (looked for: loops, veiled, ifaces, maps, wideKeys, modest, calm, conditions, laid).
  DERIVED. THE GIVEN ROWS OF THIS SEAT. 5 by the template 'for every input the law returns true; each argument reads behind the call as it read before'; 0 by the template 'total and deterministic' (their statements: YtfladjnggkeiaabTotals.lean).
  GIVEN WITH THE SEED: the statements are not yours to turn. If you find one false, say at which input.
  Laid BY PROGRAM, IN A SANDBOX (cutbox-rows.mjs): the forced cells as the released guide's own fill.sh prints them over the translation 8fd63ba1aa1c4dfb… (all of the seat's roots in one cut). By AI agents, Wed Nov 11 2026. No macro, syntax, notation, axiom, sorry.
-/
import Derived.Test.YtfladjnggkeiaabChecked
import GoSem.Claim
import GoSem.ClaimJoined
import GoSem.ClaimMapViews
import Derived.JoinedTies
import Derived.KernelRfl
namespace Go.Proofs.Ytfladjnggkeiaab
/- THE CELL 'sum', in the pinned program and in every row, IS THE sha256 OF THE DUMP (.gsa) THAT YtfladjnggkeiaabProg.lean LOADS. Nothing in Lean hashes anything: it is a label: what it is worth is what the hold of that sum in a sandbox is worth. -/
noncomputable def Try.pinned : Pinned := { name := "ytfladjnggkeiaab", sum := "8fd63ba1aa1c4dfbed6b53a9e75423178c1ef4a07ea2ad3c1b043868f3af307c", checked := Try.checked }
namespace Rows
def none {H : Type} : Left H := { results := [], args := [] }

/-- 'laws.FnExactValidModel': WHATEVER THE INPUT: true; the input reads as it did. -/
def fnExactValidModelSpec : ChangeSpec := { name := "fnExactValidModel", fn := fun _ => fun
  | [d] => { results := [.lit (.bool true)], args := [d] }
  | _ => none }
def fnExactValidModelRow : OpenClaim := { program := "ytfladjnggkeiaab", sum := "8fd63ba1aa1c4dfbed6b53a9e75423178c1ef4a07ea2ad3c1b043868f3af307c", func := "loop.example/g00918/laws.FnExactValidModel", spec := "fnExactValidModel", apart := false }
def FnExactValidModelSaid : Prop := fnExactValidModelRow.holds Try.pinned (OpenSpec.ofChange fnExactValidModelSpec)

/-- ITS FALSE NEIGHBOUR: 'it returns false'. Refute it at one input. -/
def fnExactValidModelWrong : ChangeSpec := { name := "fnExactValidModel", fn := fun _ => fun
  | [d] => { results := [.lit (.bool false)], args := [d] }
  | _ => none }
def FnExactValidModelWrongFalsely : Prop := fnExactValidModelRow.holds Try.pinned (OpenSpec.ofChange fnExactValidModelWrong)

/-- 'laws.FnExactValidSymbols': WHATEVER THE INPUT: true; the input reads as it did. -/
def fnExactValidSymbolsSpec : ChangeSpec := { name := "fnExactValidSymbols", fn := fun _ => fun
  | [d] => { results := [.lit (.bool true)], args := [d] }
  | _ => none }
def fnExactValidSymbolsRow : OpenClaim := { program := "ytfladjnggkeiaab", sum := "8fd63ba1aa1c4dfbed6b53a9e75423178c1ef4a07ea2ad3c1b043868f3af307c", func := "loop.example/g00918/laws.FnExactValidSymbols", spec := "fnExactValidSymbols", inPlace := ["internal/bytealg.IndexByteString", "internal/bytealg.IndexString"], unfollowed := true, recurses := true, named := ["internal/bytealg.MaxLen"], apart := false }
def FnExactValidSymbolsSaid : Prop := fnExactValidSymbolsRow.holds Try.pinned (OpenSpec.ofChange fnExactValidSymbolsSpec)

/-- ITS FALSE NEIGHBOUR: 'it returns false'. Refute it at one input. -/
def fnExactValidSymbolsWrong : ChangeSpec := { name := "fnExactValidSymbols", fn := fun _ => fun
  | [d] => { results := [.lit (.bool false)], args := [d] }
  | _ => none }
def FnExactValidSymbolsWrongFalsely : Prop := fnExactValidSymbolsRow.holds Try.pinned (OpenSpec.ofChange fnExactValidSymbolsWrong)

/-- 'laws.FnExactPairCost': WHATEVER THE INPUT: true; the input reads as it did. -/
def fnExactPairCostSpec : ChangeSpec := { name := "fnExactPairCost", fn := fun _ => fun
  | [d1, d2, d3] => { results := [.lit (.bool true)], args := [d1, d2, d3] }
  | _ => none }
def fnExactPairCostRow : OpenClaim := { program := "ytfladjnggkeiaab", sum := "8fd63ba1aa1c4dfbed6b53a9e75423178c1ef4a07ea2ad3c1b043868f3af307c", func := "loop.example/g00918/laws.FnExactPairCost", spec := "fnExactPairCost", unfollowed := true, recurses := true, apart := false }
def FnExactPairCostSaid : Prop := fnExactPairCostRow.holds Try.pinned (OpenSpec.ofChange fnExactPairCostSpec)

/-- ITS FALSE NEIGHBOUR: 'it returns false'. Refute it at one input. -/
def fnExactPairCostWrong : ChangeSpec := { name := "fnExactPairCost", fn := fun _ => fun
  | [d1, d2, d3] => { results := [.lit (.bool false)], args := [d1, d2, d3] }
  | _ => none }
def FnExactPairCostWrongFalsely : Prop := fnExactPairCostRow.holds Try.pinned (OpenSpec.ofChange fnExactPairCostWrong)

/-- 'laws.FnExactGapsOf': WHATEVER THE INPUT: true; the input reads as it did. -/
def fnExactGapsOfSpec : ChangeSpec := { name := "fnExactGapsOf", fn := fun _ => fun
  | [d1, d2] => { results := [.lit (.bool true)], args := [d1, d2] }
  | _ => none }
def fnExactGapsOfRow : OpenClaim := { program := "ytfladjnggkeiaab", sum := "8fd63ba1aa1c4dfbed6b53a9e75423178c1ef4a07ea2ad3c1b043868f3af307c", func := "loop.example/g00918/laws.FnExactGapsOf", spec := "fnExactGapsOf", unfollowed := true, recurses := true, apart := false }
def FnExactGapsOfSaid : Prop := fnExactGapsOfRow.holds Try.pinned (OpenSpec.ofChange fnExactGapsOfSpec)

/-- ITS FALSE NEIGHBOUR: 'it returns false'. Refute it at one input. -/
def fnExactGapsOfWrong : ChangeSpec := { name := "fnExactGapsOf", fn := fun _ => fun
  | [d1, d2] => { results := [.lit (.bool false)], args := [d1, d2] }
  | _ => none }
def FnExactGapsOfWrongFalsely : Prop := fnExactGapsOfRow.holds Try.pinned (OpenSpec.ofChange fnExactGapsOfWrong)

/-- 'laws.FnExactWordsCost': WHATEVER THE INPUT: true; the input reads as it did. -/
def fnExactWordsCostSpec : ChangeSpec := { name := "fnExactWordsCost", fn := fun _ => fun
  | [d1, d2] => { results := [.lit (.bool true)], args := [d1, d2] }
  | _ => none }
def fnExactWordsCostRow : OpenClaim := { program := "ytfladjnggkeiaab", sum := "8fd63ba1aa1c4dfbed6b53a9e75423178c1ef4a07ea2ad3c1b043868f3af307c", func := "loop.example/g00918/laws.FnExactWordsCost", spec := "fnExactWordsCost", unfollowed := true, recurses := true, apart := false }
def FnExactWordsCostSaid : Prop := fnExactWordsCostRow.holds Try.pinned (OpenSpec.ofChange fnExactWordsCostSpec)

/-- ITS FALSE NEIGHBOUR: 'it returns false'. Refute it at one input. -/
def fnExactWordsCostWrong : ChangeSpec := { name := "fnExactWordsCost", fn := fun _ => fun
  | [d1, d2] => { results := [.lit (.bool false)], args := [d1, d2] }
  | _ => none }
def FnExactWordsCostWrongFalsely : Prop := fnExactWordsCostRow.holds Try.pinned (OpenSpec.ofChange fnExactWordsCostWrong)

/- THE SECOND FORM. 'bulk': how many values and letters a reading holds, each counted each time it is reached (what is shared counts as often as it is met; a slice's spare places count too). A statement '..UptoSaid' is the law's where the arguments, and the package variables that the reading takes, are together of bulk at most 1048576: NARROWER than '..Said'. Prove '..Said' where nothing that the law and all that it calls make is longer than what came in: it says more and counts as full. Else prove '..UptoSaid'. A law counts once. -/
mutual
def uptoBulk {H : Type} : DataW H → Nat
  | .lit (.string bytes) => bytes.length + 1
  | .lit _ => 1
  | .nil => 1
  | .ptr d => uptoBulk d + 1
  | .slice elems spare => uptoBulkAll elems + uptoBulkAll spare + 1
  | .agg parts => uptoBulkAll parts + 1
  | .iface _ d => uptoBulk d + 1
  | .map entries => uptoBulkEntries entries + 1
  | .held _ => 1
def uptoBulkAll {H : Type} : List (DataW H) → Nat
  | [] => 0
  | d :: r => uptoBulk d + uptoBulkAll r
def uptoBulkEntries {H : Type} : List (Lit × DataW H) → Nat
  | [] => 0
  | x :: r => uptoBulkEntry x + uptoBulkEntries r
def uptoBulkEntry {H : Type} : Lit × DataW H → Nat
  | (.string bytes, d) => bytes.length + uptoBulk d + 1
  | (_, d) => uptoBulk d + 1
 end
def uptoSmall : (H : Type) → List (DataW H) → Bool := fun _ ds => decide (uptoBulkAll ds ≤ 1048576)
def OpenSpec.upto (s : _root_.Go.ChangeSpec) : _root_.Go.OpenSpec := { _root_.Go.OpenSpec.ofChange s with cond := some uptoSmall }

/-- 'laws.FnExactValidModel', WHERE WHAT IT READS IS OF BULK AT MOST 1048576: true; the input reads as it did. -/
def fnExactValidModelUptoRow : OpenClaim := { program := "ytfladjnggkeiaab", sum := "8fd63ba1aa1c4dfbed6b53a9e75423178c1ef4a07ea2ad3c1b043868f3af307c", func := "loop.example/g00918/laws.FnExactValidModel", spec := "fnExactValidModel", apart := false, narrowed := true }
def FnExactValidModelUptoSaid : Prop := fnExactValidModelUptoRow.holds Try.pinned (OpenSpec.upto fnExactValidModelSpec)

/-- 'laws.FnExactValidSymbols', WHERE WHAT IT READS IS OF BULK AT MOST 1048576: true; the input reads as it did. -/
def fnExactValidSymbolsUptoRow : OpenClaim := { program := "ytfladjnggkeiaab", sum := "8fd63ba1aa1c4dfbed6b53a9e75423178c1ef4a07ea2ad3c1b043868f3af307c", func := "loop.example/g00918/laws.FnExactValidSymbols", spec := "fnExactValidSymbols", inPlace := ["internal/bytealg.IndexByteString", "internal/bytealg.IndexString"], unfollowed := true, recurses := true, named := ["internal/bytealg.MaxLen"], apart := false, narrowed := true }
def FnExactValidSymbolsUptoSaid : Prop := fnExactValidSymbolsUptoRow.holds Try.pinned (OpenSpec.upto fnExactValidSymbolsSpec)

/-- 'laws.FnExactPairCost', WHERE WHAT IT READS IS OF BULK AT MOST 1048576: true; the input reads as it did. -/
def fnExactPairCostUptoRow : OpenClaim := { program := "ytfladjnggkeiaab", sum := "8fd63ba1aa1c4dfbed6b53a9e75423178c1ef4a07ea2ad3c1b043868f3af307c", func := "loop.example/g00918/laws.FnExactPairCost", spec := "fnExactPairCost", unfollowed := true, recurses := true, apart := false, narrowed := true }
def FnExactPairCostUptoSaid : Prop := fnExactPairCostUptoRow.holds Try.pinned (OpenSpec.upto fnExactPairCostSpec)

/-- 'laws.FnExactGapsOf', WHERE WHAT IT READS IS OF BULK AT MOST 1048576: true; the input reads as it did. -/
def fnExactGapsOfUptoRow : OpenClaim := { program := "ytfladjnggkeiaab", sum := "8fd63ba1aa1c4dfbed6b53a9e75423178c1ef4a07ea2ad3c1b043868f3af307c", func := "loop.example/g00918/laws.FnExactGapsOf", spec := "fnExactGapsOf", unfollowed := true, recurses := true, apart := false, narrowed := true }
def FnExactGapsOfUptoSaid : Prop := fnExactGapsOfUptoRow.holds Try.pinned (OpenSpec.upto fnExactGapsOfSpec)

/-- 'laws.FnExactWordsCost', WHERE WHAT IT READS IS OF BULK AT MOST 1048576: true; the input reads as it did. -/
def fnExactWordsCostUptoRow : OpenClaim := { program := "ytfladjnggkeiaab", sum := "8fd63ba1aa1c4dfbed6b53a9e75423178c1ef4a07ea2ad3c1b043868f3af307c", func := "loop.example/g00918/laws.FnExactWordsCost", spec := "fnExactWordsCost", unfollowed := true, recurses := true, apart := false, narrowed := true }
def FnExactWordsCostUptoSaid : Prop := fnExactWordsCostUptoRow.holds Try.pinned (OpenSpec.upto fnExactWordsCostSpec)

end Rows
end Go.Proofs.Ytfladjnggkeiaab
