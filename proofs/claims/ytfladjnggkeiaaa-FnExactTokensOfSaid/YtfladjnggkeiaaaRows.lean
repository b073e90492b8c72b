/-
  No cell of these rows narrows 'for every input' (looked for: loops, veiled, ifaces, maps, wideKeys, modest, calm, conditions, laid).
  DERIVED. THE GIVEN ROWS OF THIS SEAT. 6 by the template 'for every input the law returns true; each argument reads behind the call as it read before'; 0 by the template 'total and deterministic' (their statements: YtfladjnggkeiaaaTotals.lean).
  GIVEN WITH THE SEED: the statements are not yours to turn. If you find one false, say at which input.
  Laid BY PROGRAM, IN A SANDBOX (cutbox-rows.mjs): the forced cells as the released guide's own fill.sh prints them over the translation 8ed6503f083035e3… (all of the seat's roots in one cut). By AI agents, Wed Nov 11 2026. No macro, syntax, notation, axiom, sorry.
-/
import Derived.Test.YtfladjnggkeiaaaChecked
import GoSem.Claim
import GoSem.ClaimJoined
import GoSem.ClaimMapViews
import Derived.JoinedTies
import Derived.KernelRfl
namespace Go.Proofs.Ytfladjnggkeiaaa
/- THE CELL 'sum', in the pinned program and in every row, IS THE sha256 OF THE DUMP (.gsa) THAT YtfladjnggkeiaaaProg.lean LOADS. Nothing in Lean hashes anything: it is a label: what it is worth is what the hold of that sum in a sandbox is worth. -/
noncomputable def Try.pinned : Pinned := { name := "ytfladjnggkeiaaa", sum := "8ed6503f083035e369613b446305e688b4d38bc1edfe9a59cac7e0fef701447b", checked := Try.checked }
namespace Rows
def none {H : Type} : Left H := { results := [], args := [] }

/-- 'laws.FnExactSameModel': WHATEVER THE INPUT: true; the input reads as it did. -/
def fnExactSameModelSpec : ChangeSpec := { name := "fnExactSameModel", fn := fun _ => fun
  | [d1, d2] => { results := [.lit (.bool true)], args := [d1, d2] }
  | _ => none }
def fnExactSameModelRow : OpenClaim := { program := "ytfladjnggkeiaaa", sum := "8ed6503f083035e369613b446305e688b4d38bc1edfe9a59cac7e0fef701447b", func := "loop.example/g00918/laws.FnExactSameModel", spec := "fnExactSameModel", apart := false }
def FnExactSameModelSaid : Prop := fnExactSameModelRow.holds Try.pinned (OpenSpec.ofChange fnExactSameModelSpec)

/-- ITS FALSE NEIGHBOUR: 'it returns false'. Refute it at one input. -/
def fnExactSameModelWrong : ChangeSpec := { name := "fnExactSameModel", fn := fun _ => fun
  | [d1, d2] => { results := [.lit (.bool false)], args := [d1, d2] }
  | _ => none }
def FnExactSameModelWrongFalsely : Prop := fnExactSameModelRow.holds Try.pinned (OpenSpec.ofChange fnExactSameModelWrong)

/-- 'laws.FnExactTokensOf': WHATEVER THE INPUT: true; the input reads as it did. -/
def fnExactTokensOfSpec : ChangeSpec := { name := "fnExactTokensOf", fn := fun _ => fun
  | [d] => { results := [.lit (.bool true)], args := [d] }
  | _ => none }
def fnExactTokensOfRow : OpenClaim := { program := "ytfladjnggkeiaaa", sum := "8ed6503f083035e369613b446305e688b4d38bc1edfe9a59cac7e0fef701447b", func := "loop.example/g00918/laws.FnExactTokensOf", spec := "fnExactTokensOf", inPlace := ["internal/bytealg.IndexByteString"], apart := false }
def FnExactTokensOfSaid : Prop := fnExactTokensOfRow.holds Try.pinned (OpenSpec.ofChange fnExactTokensOfSpec)

/-- ITS FALSE NEIGHBOUR: 'it returns false'. Refute it at one input. -/
def fnExactTokensOfWrong : ChangeSpec := { name := "fnExactTokensOf", fn := fun _ => fun
  | [d] => { results := [.lit (.bool false)], args := [d] }
  | _ => none }
def FnExactTokensOfWrongFalsely : Prop := fnExactTokensOfRow.holds Try.pinned (OpenSpec.ofChange fnExactTokensOfWrong)

/-- 'laws.FnExactRootFraction': WHATEVER THE INPUT: true; the input reads as it did. -/
def fnExactRootFractionSpec : ChangeSpec := { name := "fnExactRootFraction", fn := fun _ => fun
  | [d] => { results := [.lit (.bool true)], args := [d] }
  | _ => none }
def fnExactRootFractionRow : OpenClaim := { program := "ytfladjnggkeiaaa", sum := "8ed6503f083035e369613b446305e688b4d38bc1edfe9a59cac7e0fef701447b", func := "loop.example/g00918/laws.FnExactRootFraction", spec := "fnExactRootFraction", apart := false }
def FnExactRootFractionSaid : Prop := fnExactRootFractionRow.holds Try.pinned (OpenSpec.ofChange fnExactRootFractionSpec)

/-- ITS FALSE NEIGHBOUR: 'it returns false'. Refute it at one input. -/
def fnExactRootFractionWrong : ChangeSpec := { name := "fnExactRootFraction", fn := fun _ => fun
  | [d] => { results := [.lit (.bool false)], args := [d] }
  | _ => none }
def FnExactRootFractionWrongFalsely : Prop := fnExactRootFractionRow.holds Try.pinned (OpenSpec.ofChange fnExactRootFractionWrong)

/-- 'laws.FnExactLineOfPoint': WHATEVER THE INPUT: true; the input reads as it did. -/
def fnExactLineOfPointSpec : ChangeSpec := { name := "fnExactLineOfPoint", fn := fun _ => fun
  | [d1, d2] => { results := [.lit (.bool true)], args := [d1, d2] }
  | _ => none }
def fnExactLineOfPointRow : OpenClaim := { program := "ytfladjnggkeiaaa", sum := "8ed6503f083035e369613b446305e688b4d38bc1edfe9a59cac7e0fef701447b", func := "loop.example/g00918/laws.FnExactLineOfPoint", spec := "fnExactLineOfPoint", apart := false }
def FnExactLineOfPointSaid : Prop := fnExactLineOfPointRow.holds Try.pinned (OpenSpec.ofChange fnExactLineOfPointSpec)

/-- ITS FALSE NEIGHBOUR: 'it returns false'. Refute it at one input. -/
def fnExactLineOfPointWrong : ChangeSpec := { name := "fnExactLineOfPoint", fn := fun _ => fun
  | [d1, d2] => { results := [.lit (.bool false)], args := [d1, d2] }
  | _ => none }
def FnExactLineOfPointWrongFalsely : Prop := fnExactLineOfPointRow.holds Try.pinned (OpenSpec.ofChange fnExactLineOfPointWrong)

/-- 'laws.FnExactPowerFraction': WHATEVER THE INPUT: true; the input reads as it did. -/
def fnExactPowerFractionSpec : ChangeSpec := { name := "fnExactPowerFraction", fn := fun _ => fun
  | [d1, d2] => { results := [.lit (.bool true)], args := [d1, d2] }
  | _ => none }
def fnExactPowerFractionRow : OpenClaim := { program := "ytfladjnggkeiaaa", sum := "8ed6503f083035e369613b446305e688b4d38bc1edfe9a59cac7e0fef701447b", func := "loop.example/g00918/laws.FnExactPowerFraction", spec := "fnExactPowerFraction", apart := false }
def FnExactPowerFractionSaid : Prop := fnExactPowerFractionRow.holds Try.pinned (OpenSpec.ofChange fnExactPowerFractionSpec)

/-- ITS FALSE NEIGHBOUR: 'it returns false'. Refute it at one input. -/
def fnExactPowerFractionWrong : ChangeSpec := { name := "fnExactPowerFraction", fn := fun _ => fun
  | [d1, d2] => { results := [.lit (.bool false)], args := [d1, d2] }
  | _ => none }
def FnExactPowerFractionWrongFalsely : Prop := fnExactPowerFractionRow.holds Try.pinned (OpenSpec.ofChange fnExactPowerFractionWrong)

/-- 'laws.FnExactBoxOfItems': WHATEVER THE INPUT: true; the input reads as it did. -/
def fnExactBoxOfItemsSpec : ChangeSpec := { name := "fnExactBoxOfItems", fn := fun _ => fun
  | [d1, d2] => { results := [.lit (.bool true)], args := [d1, d2] }
  | _ => none }
def fnExactBoxOfItemsRow : OpenClaim := { program := "ytfladjnggkeiaaa", sum := "8ed6503f083035e369613b446305e688b4d38bc1edfe9a59cac7e0fef701447b", func := "loop.example/g00918/laws.FnExactBoxOfItems", spec := "fnExactBoxOfItems", unfollowed := true, recurses := true, apart := false }
def FnExactBoxOfItemsSaid : Prop := fnExactBoxOfItemsRow.holds Try.pinned (OpenSpec.ofChange fnExactBoxOfItemsSpec)

/-- ITS FALSE NEIGHBOUR: 'it returns false'. Refute it at one input. -/
def fnExactBoxOfItemsWrong : ChangeSpec := { name := "fnExactBoxOfItems", fn := fun _ => fun
  | [d1, d2] => { results := [.lit (.bool false)], args := [d1, d2] }
  | _ => none }
def FnExactBoxOfItemsWrongFalsely : Prop := fnExactBoxOfItemsRow.holds Try.pinned (OpenSpec.ofChange fnExactBoxOfItemsWrong)

/- THE SECOND FORM. 'bulk': how many values and letters a reading holds, each counted each time it is reached (what is shared counts as often as it is met; a slice's spare places count too). A statement '..UptoSaid' is the law's where the arguments, and the package variables that the reading takes, are together of bulk at most 1048576: NARROWER than '..Said'. Prove '..Said' where nothing that the law and all that it calls make is longer than what came in: it says more and counts as full. Else prove '..UptoSaid'. A law counts once. -/
mutual
def uptoBulk {H : Type} : DataW H → Nat
  | .lit (.string bytes) => bytes.length + 1
  | .lit _ => 1
  | .nil => 1
  | .ptr d => uptoBulk d + 1
  | .slice elems spare => uptoBulkAll elems + uptoBulkAll spare + 1
  | .agg parts => uptoBulkAll parts + 1
  | .iface _ d => uptoBulk d + 1
  | .map entries => uptoBulkEntries entries + 1
  | .held _ => 1
def uptoBulkAll {H : Type} : List (DataW H) → Nat
  | [] => 0
  | d :: r => uptoBulk d + uptoBulkAll r
def uptoBulkEntries {H : Type} : List (Lit × DataW H) → Nat
  | [] => 0
  | x :: r => uptoBulkEntry x + uptoBulkEntries r
def uptoBulkEntry {H : Type} : Lit × DataW H → Nat
  | (.string bytes, d) => bytes.length + uptoBulk d + 1
  | (_, d) => uptoBulk d + 1
 end
def uptoSmall : (H : Type) → List (DataW H) → Bool := fun _ ds => decide (uptoBulkAll ds ≤ 1048576)
def OpenSpec.upto (s : _root_.Go.ChangeSpec) : _root_.Go.OpenSpec := { _root_.Go.OpenSpec.ofChange s with cond := some uptoSmall }

/-- 'laws.FnExactSameModel', WHERE WHAT IT READS IS OF BULK AT MOST 1048576: true; the input reads as it did. -/
def fnExactSameModelUptoRow : OpenClaim := { program := "ytfladjnggkeiaaa", sum := "8ed6503f083035e369613b446305e688b4d38bc1edfe9a59cac7e0fef701447b", func := "loop.example/g00918/laws.FnExactSameModel", spec := "fnExactSameModel", apart := false, narrowed := true }
def FnExactSameModelUptoSaid : Prop := fnExactSameModelUptoRow.holds Try.pinned (OpenSpec.upto fnExactSameModelSpec)

/-- 'laws.FnExactTokensOf', WHERE WHAT IT READS IS OF BULK AT MOST 1048576: true; the input reads as it did. -/
def fnExactTokensOfUptoRow : OpenClaim := { program := "ytfladjnggkeiaaa", sum := "8ed6503f083035e369613b446305e688b4d38bc1edfe9a59cac7e0fef701447b", func := "loop.example/g00918/laws.FnExactTokensOf", spec := "fnExactTokensOf", inPlace := ["internal/bytealg.IndexByteString"], apart := false, narrowed := true }
def FnExactTokensOfUptoSaid : Prop := fnExactTokensOfUptoRow.holds Try.pinned (OpenSpec.upto fnExactTokensOfSpec)

/-- 'laws.FnExactRootFraction', WHERE WHAT IT READS IS OF BULK AT MOST 1048576: true; the input reads as it did. -/
def fnExactRootFractionUptoRow : OpenClaim := { program := "ytfladjnggkeiaaa", sum := "8ed6503f083035e369613b446305e688b4d38bc1edfe9a59cac7e0fef701447b", func := "loop.example/g00918/laws.FnExactRootFraction", spec := "fnExactRootFraction", apart := false, narrowed := true }
def FnExactRootFractionUptoSaid : Prop := fnExactRootFractionUptoRow.holds Try.pinned (OpenSpec.upto fnExactRootFractionSpec)

/-- 'laws.FnExactLineOfPoint', WHERE WHAT IT READS IS OF BULK AT MOST 1048576: true; the input reads as it did. -/
def fnExactLineOfPointUptoRow : OpenClaim := { program := "ytfladjnggkeiaaa", sum := "8ed6503f083035e369613b446305e688b4d38bc1edfe9a59cac7e0fef701447b", func := "loop.example/g00918/laws.FnExactLineOfPoint", spec := "fnExactLineOfPoint", apart := false, narrowed := true }
def FnExactLineOfPointUptoSaid : Prop := fnExactLineOfPointUptoRow.holds Try.pinned (OpenSpec.upto fnExactLineOfPointSpec)

/-- 'laws.FnExactPowerFraction', WHERE WHAT IT READS IS OF BULK AT MOST 1048576: true; the input reads as it did. -/
def fnExactPowerFractionUptoRow : OpenClaim := { program := "ytfladjnggkeiaaa", sum := "8ed6503f083035e369613b446305e688b4d38bc1edfe9a59cac7e0fef701447b", func := "loop.example/g00918/laws.FnExactPowerFraction", spec := "fnExactPowerFraction", apart := false, narrowed := true }
def FnExactPowerFractionUptoSaid : Prop := fnExactPowerFractionUptoRow.holds Try.pinned (OpenSpec.upto fnExactPowerFractionSpec)

/-- 'laws.FnExactBoxOfItems', WHERE WHAT IT READS IS OF BULK AT MOST 1048576: true; the input reads as it did. -/
def fnExactBoxOfItemsUptoRow : OpenClaim := { program := "ytfladjnggkeiaaa", sum := "8ed6503f083035e369613b446305e688b4d38bc1edfe9a59cac7e0fef701447b", func := "loop.example/g00918/laws.FnExactBoxOfItems", spec := "fnExactBoxOfItems", unfollowed := true, recurses := true, apart := false, narrowed := true }
def FnExactBoxOfItemsUptoSaid : Prop := fnExactBoxOfItemsUptoRow.holds Try.pinned (OpenSpec.upto fnExactBoxOfItemsSpec)

end Rows
end Go.Proofs.Ytfladjnggkeiaaa
