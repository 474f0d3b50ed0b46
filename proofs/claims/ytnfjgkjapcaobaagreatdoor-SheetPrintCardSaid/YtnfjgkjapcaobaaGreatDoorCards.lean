/-
  DERIVED. GIVEN WITH THE SEED: THE CARDS: each row of YtnfjgkjapcaobaaGreatDoorRows.lean that lists a variable, with what it lists TIED to the program's text (the seventh form; the later family's looks); each row that meets fmt, with fmt's text TOLD by the authors' own Lean function (tested against real Go, not proved from fmt's source: count such statements apart). THE CARD IS WHAT COUNTS. Prove the row's statement (the work); the ties are given (YtnfjgkjapcaobaaGreatDoorTie.lean); close each card by the builder's one call (the guide's Derived/Test/ToyasCard.lean, 'card_holds'). Laid BY PROGRAM, IN A SANDBOX (cutbox-door.mjs). By AI agents, Wed Nov 11 2026. No macro, syntax, notation, axiom, sorry.
-/
import Derived.Test.YtnfjgkjapcaobaaGreatDoorRows
import GoSem.ClaimSeven
namespace Go.Proofs.YtnfjgkjapcaobaaGreatDoor
namespace Rows

/-- THE TIED CARD OF 'sterilizerlaw09.SheetFormula'. -/
def sheetFormulaCard : Claim7 := { stood := { row := sheetFormulaRow, standIns := [], harness := (true, "1d19fdd4456caa5798d00e98e25f93265902badc581ab9f263c038df2e4bbf03"), looks := true }, kinds := [], alts := [], laidByText := true, laidKinds := [.data, .data, .data, .data, .sentinel, .sentinel, .pinned, .pinned], laidTests := true, laidLooks := .later }
def SheetFormulaCardSaid : Prop := Claim7.holds Tryz.pinned (.plain (OpenSpec.ofChange sheetFormulaSpec)) sheetFormulaCard

/-- THE TIED CARD OF 'sterilizerlaw09.SheetPrint'. -/
def sheetPrintCard : Claim7 := { stood := { row := sheetPrintRow, standIns := [], harness := (true, "1d19fdd4456caa5798d00e98e25f93265902badc581ab9f263c038df2e4bbf03"), looks := true }, kinds := [], alts := [], laidByText := true, laidKinds := [.data, .data, .data, .data, .sentinel, .sentinel, .pinned, .pinned], laidTests := true, laidLooks := .later }
def SheetPrintCardSaid : Prop := Claim7.holds Tryz.pinned (.plain (OpenSpec.ofChange sheetPrintSpec)) sheetPrintCard

/-- THE TIED CARD OF 'sterilizerlaw09.SheetPrinted'. -/
def sheetPrintedCard : Claim7 := { stood := { row := sheetPrintedRow, standIns := [], harness := (true, "1d19fdd4456caa5798d00e98e25f93265902badc581ab9f263c038df2e4bbf03"), looks := true }, kinds := [], alts := [], laidByText := true, laidKinds := [.data, .data, .data, .data, .sentinel, .sentinel, .pinned, .pinned], laidTests := true, laidLooks := .later }
def SheetPrintedCardSaid : Prop := Claim7.holds Tryz.pinned (.plain (OpenSpec.ofChange sheetPrintedSpec)) sheetPrintedCard

/-- THE SECOND FORM's CARD OF 'sterilizerlaw09.SheetFormula'. -/
def sheetFormulaUptoCard : Claim7 := { stood := { row := sheetFormulaUptoRow, standIns := [], harness := (true, "1d19fdd4456caa5798d00e98e25f93265902badc581ab9f263c038df2e4bbf03"), looks := true }, kinds := [], alts := [], laidByText := true, laidKinds := [.data, .data, .data, .data, .sentinel, .sentinel, .pinned, .pinned], laidTests := true, laidLooks := .later }
def SheetFormulaUptoCardSaid : Prop := Claim7.holds Tryz.pinned (.plain (OpenSpec.upto sheetFormulaSpec)) sheetFormulaUptoCard

/-- THE SECOND FORM's CARD OF 'sterilizerlaw09.SheetPrint'. -/
def sheetPrintUptoCard : Claim7 := { stood := { row := sheetPrintUptoRow, standIns := [], harness := (true, "1d19fdd4456caa5798d00e98e25f93265902badc581ab9f263c038df2e4bbf03"), looks := true }, kinds := [], alts := [], laidByText := true, laidKinds := [.data, .data, .data, .data, .sentinel, .sentinel, .pinned, .pinned], laidTests := true, laidLooks := .later }
def SheetPrintUptoCardSaid : Prop := Claim7.holds Tryz.pinned (.plain (OpenSpec.upto sheetPrintSpec)) sheetPrintUptoCard

/-- THE SECOND FORM's CARD OF 'sterilizerlaw09.SheetPrinted'. -/
def sheetPrintedUptoCard : Claim7 := { stood := { row := sheetPrintedUptoRow, standIns := [], harness := (true, "1d19fdd4456caa5798d00e98e25f93265902badc581ab9f263c038df2e4bbf03"), looks := true }, kinds := [], alts := [], laidByText := true, laidKinds := [.data, .data, .data, .data, .sentinel, .sentinel, .pinned, .pinned], laidTests := true, laidLooks := .later }
def SheetPrintedUptoCardSaid : Prop := Claim7.holds Tryz.pinned (.plain (OpenSpec.upto sheetPrintedSpec)) sheetPrintedUptoCard
end Rows
end Go.Proofs.YtnfjgkjapcaobaaGreatDoor
