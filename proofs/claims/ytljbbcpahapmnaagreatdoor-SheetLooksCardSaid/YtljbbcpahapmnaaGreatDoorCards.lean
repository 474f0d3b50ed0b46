/-
  DERIVED. GIVEN WITH THE SEED: THE CARDS: each row of YtljbbcpahapmnaaGreatDoorRows.lean that lists a variable, with what it lists TIED to the program's text (the seventh form; the later family's looks); each row that meets fmt, with fmt's text TOLD by the authors' own Lean function (tested against real Go, not proved from fmt's source: count such statements apart). THE CARD IS WHAT COUNTS. Prove the row's statement (the work); the ties are given (YtljbbcpahapmnaaGreatDoorTie.lean); close each card by the builder's one call (the guide's Derived/Test/ToyasCard.lean, 'card_holds'). Laid BY PROGRAM, IN A SANDBOX (cutbox-door.mjs). By AI agents, Wed Nov 11 2026. No macro, syntax, notation, axiom, sorry.
-/
import Derived.Test.YtljbbcpahapmnaaGreatDoorRows
import GoSem.ClaimSeven
namespace Go.Proofs.YtljbbcpahapmnaaGreatDoor
namespace Rows

/-- THE TIED CARD OF 'sterilizerlaw09.SheetValues'. -/
def sheetValuesCard : Claim7 := { stood := { row := sheetValuesRow, standIns := [], harness := (true, "37e6501df949fc86b4c46b011beb810d1fdd9a174932ef3a2dd43c202d9ff7d0"), looks := true }, kinds := [], alts := [], laidByText := true, laidKinds := [.data, .data, .data, .data, .sentinel, .sentinel, .pinned, .pinned], laidTests := true, laidLooks := .later }
def SheetValuesCardSaid : Prop := Claim7.holds Tryz.pinned (.plain (OpenSpec.ofChange sheetValuesSpec)) sheetValuesCard

/-- THE TIED CARD OF 'sterilizerlaw09.SheetOrderless'. -/
def sheetOrderlessCard : Claim7 := { stood := { row := sheetOrderlessRow, standIns := [], harness := (true, "37e6501df949fc86b4c46b011beb810d1fdd9a174932ef3a2dd43c202d9ff7d0"), looks := true }, kinds := [], alts := [], laidByText := true, laidKinds := [.data, .data, .data, .data, .sentinel, .sentinel, .pinned, .pinned], laidTests := true, laidLooks := .later }
def SheetOrderlessCardSaid : Prop := Claim7.holds Tryz.pinned (.plain (OpenSpec.ofChange sheetOrderlessSpec)) sheetOrderlessCard

/-- THE TIED CARD OF 'sterilizerlaw09.SheetLooks'. -/
def sheetLooksCard : Claim7 := { stood := { row := sheetLooksRow, standIns := [], harness := (true, "37e6501df949fc86b4c46b011beb810d1fdd9a174932ef3a2dd43c202d9ff7d0"), looks := true }, kinds := [], alts := [], laidByText := true, laidKinds := [.data, .data, .data, .data, .sentinel, .sentinel, .pinned, .pinned], laidTests := true, laidLooks := .later }
def SheetLooksCardSaid : Prop := Claim7.holds Tryz.pinned (.plain (OpenSpec.ofChange sheetLooksSpec)) sheetLooksCard

/-- THE TIED CARD OF 'sterilizerlaw09.SheetMoved'. -/
def sheetMovedCard : Claim7 := { stood := { row := sheetMovedRow, standIns := [], harness := (true, "37e6501df949fc86b4c46b011beb810d1fdd9a174932ef3a2dd43c202d9ff7d0"), looks := true }, kinds := [], alts := [], laidByText := true, laidKinds := [.data, .data, .data, .data, .sentinel, .sentinel, .pinned, .pinned], laidTests := true, laidLooks := .later }
def SheetMovedCardSaid : Prop := Claim7.holds Tryz.pinned (.plain (OpenSpec.ofChange sheetMovedSpec)) sheetMovedCard

/-- THE SECOND FORM's CARD OF 'sterilizerlaw09.SheetValues'. -/
def sheetValuesUptoCard : Claim7 := { stood := { row := sheetValuesUptoRow, standIns := [], harness := (true, "37e6501df949fc86b4c46b011beb810d1fdd9a174932ef3a2dd43c202d9ff7d0"), looks := true }, kinds := [], alts := [], laidByText := true, laidKinds := [.data, .data, .data, .data, .sentinel, .sentinel, .pinned, .pinned], laidTests := true, laidLooks := .later }
def SheetValuesUptoCardSaid : Prop := Claim7.holds Tryz.pinned (.plain (OpenSpec.upto sheetValuesSpec)) sheetValuesUptoCard

/-- THE SECOND FORM's CARD OF 'sterilizerlaw09.SheetOrderless'. -/
def sheetOrderlessUptoCard : Claim7 := { stood := { row := sheetOrderlessUptoRow, standIns := [], harness := (true, "37e6501df949fc86b4c46b011beb810d1fdd9a174932ef3a2dd43c202d9ff7d0"), looks := true }, kinds := [], alts := [], laidByText := true, laidKinds := [.data, .data, .data, .data, .sentinel, .sentinel, .pinned, .pinned], laidTests := true, laidLooks := .later }
def SheetOrderlessUptoCardSaid : Prop := Claim7.holds Tryz.pinned (.plain (OpenSpec.upto sheetOrderlessSpec)) sheetOrderlessUptoCard

/-- THE SECOND FORM's CARD OF 'sterilizerlaw09.SheetLooks'. -/
def sheetLooksUptoCard : Claim7 := { stood := { row := sheetLooksUptoRow, standIns := [], harness := (true, "37e6501df949fc86b4c46b011beb810d1fdd9a174932ef3a2dd43c202d9ff7d0"), looks := true }, kinds := [], alts := [], laidByText := true, laidKinds := [.data, .data, .data, .data, .sentinel, .sentinel, .pinned, .pinned], laidTests := true, laidLooks := .later }
def SheetLooksUptoCardSaid : Prop := Claim7.holds Tryz.pinned (.plain (OpenSpec.upto sheetLooksSpec)) sheetLooksUptoCard

/-- THE SECOND FORM's CARD OF 'sterilizerlaw09.SheetMoved'. -/
def sheetMovedUptoCard : Claim7 := { stood := { row := sheetMovedUptoRow, standIns := [], harness := (true, "37e6501df949fc86b4c46b011beb810d1fdd9a174932ef3a2dd43c202d9ff7d0"), looks := true }, kinds := [], alts := [], laidByText := true, laidKinds := [.data, .data, .data, .data, .sentinel, .sentinel, .pinned, .pinned], laidTests := true, laidLooks := .later }
def SheetMovedUptoCardSaid : Prop := Claim7.holds Tryz.pinned (.plain (OpenSpec.upto sheetMovedSpec)) sheetMovedUptoCard
end Rows
end Go.Proofs.YtljbbcpahapmnaaGreatDoor
