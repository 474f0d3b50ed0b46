/-
  DERIVED. GIVEN WITH THE SEED: THE CARDS: each row of YthaaafdiilahjaaGreatDoorRows.lean that lists a variable, with what it lists TIED to the program's text (the seventh form; the later family's looks); each row that meets fmt, with fmt's text TOLD by the authors' own Lean function (tested against real Go, not proved from fmt's source: count such statements apart). THE CARD IS WHAT COUNTS. Prove the row's statement (the work); the ties are given (YthaaafdiilahjaaGreatDoorTie.lean); close each card by the builder's one call (the guide's Derived/Test/ToyasCard.lean, 'card_holds'). Laid BY PROGRAM, IN A SANDBOX (cutbox-door.mjs). By AI agents, Wed Nov 11 2026. No macro, syntax, notation, axiom, sorry.
-/
import Derived.Test.YthaaafdiilahjaaGreatDoorRows
import GoSem.ClaimSeven
namespace Go.Proofs.YthaaafdiilahjaaGreatDoor
namespace Rows

/-- THE TIED CARD OF 'sterilizerlaw09.SheetWrite'. -/
def sheetWriteCard : Claim7 := { stood := { row := sheetWriteRow, standIns := [], harness := (true, "c42574e5350f8c2ba4b2d13cdc9537a8b09b3ba18c6263550e3ae4af02c1c6dd"), looks := true }, kinds := [], alts := [], laidByText := true, laidKinds := [.data, .data, .data, .data, .sentinel, .sentinel, .pinned, .pinned], laidTests := true, laidLooks := .later }
def SheetWriteCardSaid : Prop := Claim7.holds Tryz.pinned (.plain (OpenSpec.ofChange sheetWriteSpec)) sheetWriteCard

/-- THE TIED CARD OF 'sterilizerlaw09.SheetLines'. -/
def sheetLinesCard : Claim7 := { stood := { row := sheetLinesRow, standIns := [], harness := (true, "c42574e5350f8c2ba4b2d13cdc9537a8b09b3ba18c6263550e3ae4af02c1c6dd"), looks := true }, kinds := [], alts := [], laidByText := true, laidKinds := [.data, .data, .data, .data, .sentinel, .sentinel, .pinned, .pinned], laidTests := true, laidLooks := .later }
def SheetLinesCardSaid : Prop := Claim7.holds Tryz.pinned (.plain (OpenSpec.ofChange sheetLinesSpec)) sheetLinesCard

/-- THE TIED CARD OF 'sterilizerlaw09.SheetRead'. -/
def sheetReadCard : Claim7 := { stood := { row := sheetReadRow, standIns := [], harness := (true, "c42574e5350f8c2ba4b2d13cdc9537a8b09b3ba18c6263550e3ae4af02c1c6dd"), looks := true }, kinds := [], alts := [], laidByText := true, laidKinds := [.data, .data, .data, .data, .sentinel, .sentinel, .pinned, .pinned], laidTests := true, laidLooks := .later }
def SheetReadCardSaid : Prop := Claim7.holds Tryz.pinned (.plain (OpenSpec.ofChange sheetReadSpec)) sheetReadCard

/-- THE TIED CARD OF 'sterilizerlaw09.SheetBack'. -/
def sheetBackCard : Claim7 := { stood := { row := sheetBackRow, standIns := [], harness := (true, "c42574e5350f8c2ba4b2d13cdc9537a8b09b3ba18c6263550e3ae4af02c1c6dd"), looks := true }, kinds := [], alts := [], laidByText := true, laidKinds := [.data, .data, .data, .data, .sentinel, .sentinel, .pinned, .pinned], laidTests := true, laidLooks := .later }
def SheetBackCardSaid : Prop := Claim7.holds Tryz.pinned (.plain (OpenSpec.ofChange sheetBackSpec)) sheetBackCard

/-- THE SECOND FORM's CARD OF 'sterilizerlaw09.SheetWrite'. -/
def sheetWriteUptoCard : Claim7 := { stood := { row := sheetWriteUptoRow, standIns := [], harness := (true, "c42574e5350f8c2ba4b2d13cdc9537a8b09b3ba18c6263550e3ae4af02c1c6dd"), looks := true }, kinds := [], alts := [], laidByText := true, laidKinds := [.data, .data, .data, .data, .sentinel, .sentinel, .pinned, .pinned], laidTests := true, laidLooks := .later }
def SheetWriteUptoCardSaid : Prop := Claim7.holds Tryz.pinned (.plain (OpenSpec.upto sheetWriteSpec)) sheetWriteUptoCard

/-- THE SECOND FORM's CARD OF 'sterilizerlaw09.SheetLines'. -/
def sheetLinesUptoCard : Claim7 := { stood := { row := sheetLinesUptoRow, standIns := [], harness := (true, "c42574e5350f8c2ba4b2d13cdc9537a8b09b3ba18c6263550e3ae4af02c1c6dd"), looks := true }, kinds := [], alts := [], laidByText := true, laidKinds := [.data, .data, .data, .data, .sentinel, .sentinel, .pinned, .pinned], laidTests := true, laidLooks := .later }
def SheetLinesUptoCardSaid : Prop := Claim7.holds Tryz.pinned (.plain (OpenSpec.upto sheetLinesSpec)) sheetLinesUptoCard

/-- THE SECOND FORM's CARD OF 'sterilizerlaw09.SheetRead'. -/
def sheetReadUptoCard : Claim7 := { stood := { row := sheetReadUptoRow, standIns := [], harness := (true, "c42574e5350f8c2ba4b2d13cdc9537a8b09b3ba18c6263550e3ae4af02c1c6dd"), looks := true }, kinds := [], alts := [], laidByText := true, laidKinds := [.data, .data, .data, .data, .sentinel, .sentinel, .pinned, .pinned], laidTests := true, laidLooks := .later }
def SheetReadUptoCardSaid : Prop := Claim7.holds Tryz.pinned (.plain (OpenSpec.upto sheetReadSpec)) sheetReadUptoCard

/-- THE SECOND FORM's CARD OF 'sterilizerlaw09.SheetBack'. -/
def sheetBackUptoCard : Claim7 := { stood := { row := sheetBackUptoRow, standIns := [], harness := (true, "c42574e5350f8c2ba4b2d13cdc9537a8b09b3ba18c6263550e3ae4af02c1c6dd"), looks := true }, kinds := [], alts := [], laidByText := true, laidKinds := [.data, .data, .data, .data, .sentinel, .sentinel, .pinned, .pinned], laidTests := true, laidLooks := .later }
def SheetBackUptoCardSaid : Prop := Claim7.holds Tryz.pinned (.plain (OpenSpec.upto sheetBackSpec)) sheetBackUptoCard
end Rows
end Go.Proofs.YthaaafdiilahjaaGreatDoor
