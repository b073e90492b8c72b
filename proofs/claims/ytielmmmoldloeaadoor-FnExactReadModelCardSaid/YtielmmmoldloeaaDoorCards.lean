/-
  DERIVED. GIVEN WITH THE SEED: THE CARDS: each row of YtielmmmoldloeaaDoorRows.lean that lists a variable, with what it lists TIED to the program's text (the seventh form; the later family's looks); each row that meets fmt, with fmt's text TOLD by the authors' own Lean function (tested against real Go, not proved from fmt's source: count such statements apart). THE CARD IS WHAT COUNTS. Prove the row's statement (the work); the ties are given (YtielmmmoldloeaaDoorTie.lean); close each card by the builder's one call (the guide's Derived/Test/ToyasCard.lean, 'card_holds'). Laid BY PROGRAM, IN A SANDBOX (cutbox-door.mjs). By AI agents, Wed Nov 11 2026. No macro, syntax, notation, axiom, sorry.
-/
import Derived.Test.YtielmmmoldloeaaDoorRows
import GoSem.ClaimSeven
namespace Go.Proofs.YtielmmmoldloeaaDoor
namespace Rows

/-- THE TIED CARD OF 'laws.FnExactModelText'. -/
def fnExactModelTextCard : Claim7 := { stood := { row := fnExactModelTextRow, standIns := [], harness := (true, "7fa4298b5785fd3a44aaacfe6035761d781ac1e09d21ed3d0a1c9dec825a721f"), looks := true }, kinds := [], alts := [], laidByText := true, laidKinds := [.data, .data, .data], laidTests := true, laidLooks := .later }
def FnExactModelTextCardSaid : Prop := Claim7.holds Tryd.pinned (.plain (OpenSpec.ofChange fnExactModelTextSpec)) fnExactModelTextCard

/-- THE TIED CARD OF 'laws.FnExactSymbolsText'. -/
def fnExactSymbolsTextCard : Claim7 := { stood := { row := fnExactSymbolsTextRow, standIns := [], harness := (true, "7fa4298b5785fd3a44aaacfe6035761d781ac1e09d21ed3d0a1c9dec825a721f"), looks := true }, kinds := [], alts := [], laidByText := true, laidKinds := [.data, .data, .data], laidTests := true, laidLooks := .later }
def FnExactSymbolsTextCardSaid : Prop := Claim7.holds Tryd.pinned (.plain (OpenSpec.ofChange fnExactSymbolsTextSpec)) fnExactSymbolsTextCard

/-- THE TIED CARD OF 'laws.FnExactReadSymbols'. -/
def fnExactReadSymbolsCard : Claim7 := { stood := { row := fnExactReadSymbolsRow, standIns := [], harness := (true, "7fa4298b5785fd3a44aaacfe6035761d781ac1e09d21ed3d0a1c9dec825a721f"), looks := true }, kinds := [], alts := [], laidByText := true, laidKinds := [.data, .data, .data, .data, .sentinel, .sentinel, .pinned], laidTests := true, laidLooks := .later }
def FnExactReadSymbolsCardSaid : Prop := Claim7.holds Tryd.pinned (.plain (OpenSpec.ofChange fnExactReadSymbolsSpec)) fnExactReadSymbolsCard

/-- THE TIED CARD OF 'laws.FnExactReadModel'. -/
def fnExactReadModelCard : Claim7 := { stood := { row := fnExactReadModelRow, standIns := [], harness := (true, "7fa4298b5785fd3a44aaacfe6035761d781ac1e09d21ed3d0a1c9dec825a721f"), looks := true }, kinds := [], alts := [], laidByText := true, laidKinds := [.data, .data, .data, .data, .sentinel, .sentinel, .pinned], laidTests := true, laidLooks := .later }
def FnExactReadModelCardSaid : Prop := Claim7.holds Tryd.pinned (.plain (OpenSpec.ofChange fnExactReadModelSpec)) fnExactReadModelCard

/-- THE SECOND FORM's CARD OF 'laws.FnExactModelText'. -/
def fnExactModelTextUptoCard : Claim7 := { stood := { row := fnExactModelTextUptoRow, standIns := [], harness := (true, "7fa4298b5785fd3a44aaacfe6035761d781ac1e09d21ed3d0a1c9dec825a721f"), looks := true }, kinds := [], alts := [], laidByText := true, laidKinds := [.data, .data, .data], laidTests := true, laidLooks := .later }
def FnExactModelTextUptoCardSaid : Prop := Claim7.holds Tryd.pinned (.plain (OpenSpec.upto fnExactModelTextSpec)) fnExactModelTextUptoCard

/-- THE SECOND FORM's CARD OF 'laws.FnExactSymbolsText'. -/
def fnExactSymbolsTextUptoCard : Claim7 := { stood := { row := fnExactSymbolsTextUptoRow, standIns := [], harness := (true, "7fa4298b5785fd3a44aaacfe6035761d781ac1e09d21ed3d0a1c9dec825a721f"), looks := true }, kinds := [], alts := [], laidByText := true, laidKinds := [.data, .data, .data], laidTests := true, laidLooks := .later }
def FnExactSymbolsTextUptoCardSaid : Prop := Claim7.holds Tryd.pinned (.plain (OpenSpec.upto fnExactSymbolsTextSpec)) fnExactSymbolsTextUptoCard

/-- THE SECOND FORM's CARD OF 'laws.FnExactReadSymbols'. -/
def fnExactReadSymbolsUptoCard : Claim7 := { stood := { row := fnExactReadSymbolsUptoRow, standIns := [], harness := (true, "7fa4298b5785fd3a44aaacfe6035761d781ac1e09d21ed3d0a1c9dec825a721f"), looks := true }, kinds := [], alts := [], laidByText := true, laidKinds := [.data, .data, .data, .data, .sentinel, .sentinel, .pinned], laidTests := true, laidLooks := .later }
def FnExactReadSymbolsUptoCardSaid : Prop := Claim7.holds Tryd.pinned (.plain (OpenSpec.upto fnExactReadSymbolsSpec)) fnExactReadSymbolsUptoCard

/-- THE SECOND FORM's CARD OF 'laws.FnExactReadModel'. -/
def fnExactReadModelUptoCard : Claim7 := { stood := { row := fnExactReadModelUptoRow, standIns := [], harness := (true, "7fa4298b5785fd3a44aaacfe6035761d781ac1e09d21ed3d0a1c9dec825a721f"), looks := true }, kinds := [], alts := [], laidByText := true, laidKinds := [.data, .data, .data, .data, .sentinel, .sentinel, .pinned], laidTests := true, laidLooks := .later }
def FnExactReadModelUptoCardSaid : Prop := Claim7.holds Tryd.pinned (.plain (OpenSpec.upto fnExactReadModelSpec)) fnExactReadModelUptoCard
end Rows
end Go.Proofs.YtielmmmoldloeaaDoor
