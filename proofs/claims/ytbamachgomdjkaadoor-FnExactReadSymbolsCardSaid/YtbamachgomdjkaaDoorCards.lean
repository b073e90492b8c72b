/-
  DERIVED. GIVEN WITH THE SEED: THE CARDS: each row of YtbamachgomdjkaaDoorRows.lean that lists a variable, with what it lists TIED to the program's text (the seventh form; the later family's looks); each row that meets fmt, with fmt's text TOLD by the authors' own Lean function (tested against real Go, not proved from fmt's source: count such statements apart). THE CARD IS WHAT COUNTS. Prove the row's statement (the work); the ties are given (YtbamachgomdjkaaDoorTie.lean); close each card by the builder's one call (the guide's Derived/Test/ToyasCard.lean, 'card_holds'). Laid BY PROGRAM, IN A SANDBOX (cutbox-door.mjs). By AI agents, Wed Nov 11 2026. No macro, syntax, notation, axiom, sorry.
-/
import Derived.Test.YtbamachgomdjkaaDoorRows
import GoSem.ClaimSeven
namespace Go.Proofs.YtbamachgomdjkaaDoor
namespace Rows

/-- THE TIED CARD OF 'laws.FnExactReadSymbols'. -/
def fnExactReadSymbolsCard : Claim7 := { stood := { row := fnExactReadSymbolsRow, standIns := [], harness := (true, "fc3a7a34e48b99cca356b65b0489cc48bbaf91e428fe0a6b3546f8950203e448"), looks := true }, kinds := [], alts := [], laidByText := true, laidKinds := [.data, .data, .data, .data, .sentinel, .sentinel, .pinned], laidTests := true, laidLooks := .later }
def FnExactReadSymbolsCardSaid : Prop := Claim7.holds Tryd.pinned (.plain (OpenSpec.ofChange fnExactReadSymbolsSpec)) fnExactReadSymbolsCard

/-- THE SECOND FORM's CARD OF 'laws.FnExactReadSymbols'. -/
def fnExactReadSymbolsUptoCard : Claim7 := { stood := { row := fnExactReadSymbolsUptoRow, standIns := [], harness := (true, "fc3a7a34e48b99cca356b65b0489cc48bbaf91e428fe0a6b3546f8950203e448"), looks := true }, kinds := [], alts := [], laidByText := true, laidKinds := [.data, .data, .data, .data, .sentinel, .sentinel, .pinned], laidTests := true, laidLooks := .later }
def FnExactReadSymbolsUptoCardSaid : Prop := Claim7.holds Tryd.pinned (.plain (OpenSpec.upto fnExactReadSymbolsSpec)) fnExactReadSymbolsUptoCard
end Rows
end Go.Proofs.YtbamachgomdjkaaDoor
