/-
  DERIVED. GIVEN WITH THE SEED: THE CARDS: each row of YthejhdkdfjinbaaDoorRows.lean that lists a variable, with what it lists TIED to the program's text (the seventh form; the later family's looks); each row that meets fmt, with fmt's text TOLD by the authors' own Lean function (tested against real Go, not proved from fmt's source: count such statements apart). THE CARD IS WHAT COUNTS. Prove the row's statement (the work); the ties are given (YthejhdkdfjinbaaDoorTie.lean); close each card by the builder's one call (the guide's Derived/Test/ToyasCard.lean, 'card_holds'). Laid BY PROGRAM, IN A SANDBOX (cutbox-door.mjs). By AI agents, Wed Nov 11 2026. No macro, syntax, notation, axiom, sorry.
-/
import Derived.Test.YthejhdkdfjinbaaDoorRows
import GoSem.ClaimSeven
namespace Go.Proofs.YthejhdkdfjinbaaDoor
namespace Rows

/-- THE TIED CARD OF 'sterilizerlaw01.MeasureSpends'. -/
def measureSpendsCard : Claim7 := { stood := { row := measureSpendsRow, standIns := [], harness := (true, "ec7a382f2661eb964221165cafb39b5f6f1ffb3f9a96a8332bed62927db47ac0"), looks := true }, kinds := [], alts := [], laidByText := true, laidKinds := [.data, .data, .data, .sentinel, .sentinel, .data], laidTests := true, laidLooks := .later }
def MeasureSpendsCardSaid : Prop := Claim7.holds Tryd.pinned (.plain (OpenSpec.ofChange measureSpendsSpec)) measureSpendsCard

/-- THE TIED CARD OF 'sterilizerlaw01.MeasureSums'. -/
def measureSumsCard : Claim7 := { stood := { row := measureSumsRow, standIns := [], harness := (true, "ec7a382f2661eb964221165cafb39b5f6f1ffb3f9a96a8332bed62927db47ac0"), looks := true }, kinds := [], alts := [], laidByText := true, laidKinds := [.data, .data, .data, .sentinel, .sentinel, .data], laidTests := true, laidLooks := .later }
def MeasureSumsCardSaid : Prop := Claim7.holds Tryd.pinned (.plain (OpenSpec.ofChange measureSumsSpec)) measureSumsCard

/-- THE TIED CARD OF 'sterilizerlaw01.MeasureBursts'. -/
def measureBurstsCard : Claim7 := { stood := { row := measureBurstsRow, standIns := [], harness := (true, "ec7a382f2661eb964221165cafb39b5f6f1ffb3f9a96a8332bed62927db47ac0"), looks := true }, kinds := [], alts := [], laidByText := true, laidKinds := [.data, .data, .data, .sentinel, .sentinel, .data], laidTests := true, laidLooks := .later }
def MeasureBurstsCardSaid : Prop := Claim7.holds Tryd.pinned (.plain (OpenSpec.ofChange measureBurstsSpec)) measureBurstsCard

/-- THE TIED CARD OF 'sterilizerlaw01.MeasureLinear'. -/
def measureLinearCard : Claim7 := { stood := { row := measureLinearRow, standIns := [], harness := (true, "ec7a382f2661eb964221165cafb39b5f6f1ffb3f9a96a8332bed62927db47ac0"), looks := true }, kinds := [], alts := [], laidByText := true, laidKinds := [.data, .data, .data, .sentinel, .sentinel, .data], laidTests := true, laidLooks := .later }
def MeasureLinearCardSaid : Prop := Claim7.holds Tryd.pinned (.plain (OpenSpec.ofChange measureLinearSpec)) measureLinearCard

/-- THE TIED CARD OF 'sterilizerlaw01.MeasureOneByte'. -/
def measureOneByteCard : Claim7 := { stood := { row := measureOneByteRow, standIns := [], harness := (true, "ec7a382f2661eb964221165cafb39b5f6f1ffb3f9a96a8332bed62927db47ac0"), looks := true }, kinds := [], alts := [], laidByText := true, laidKinds := [.data, .data, .data, .sentinel, .sentinel, .data], laidTests := true, laidLooks := .later }
def MeasureOneByteCardSaid : Prop := Claim7.holds Tryd.pinned (.plain (OpenSpec.ofChange measureOneByteSpec)) measureOneByteCard

/-- THE TIED CARD OF 'sterilizerlaw01.MeasureReads'. -/
def measureReadsCard : Claim7 := { stood := { row := measureReadsRow, standIns := [], harness := (true, "ec7a382f2661eb964221165cafb39b5f6f1ffb3f9a96a8332bed62927db47ac0"), looks := true }, kinds := [], alts := [], laidByText := true, laidKinds := [.data, .data, .data, .sentinel, .sentinel, .data], laidTests := true, laidLooks := .later }
def MeasureReadsCardSaid : Prop := Claim7.holds Tryd.pinned (.plain (OpenSpec.ofChange measureReadsSpec)) measureReadsCard

/-- THE TIED CARD OF 'sterilizerlaw01.MeasureBack'. -/
def measureBackCard : Claim7 := { stood := { row := measureBackRow, standIns := [], harness := (true, "ec7a382f2661eb964221165cafb39b5f6f1ffb3f9a96a8332bed62927db47ac0"), looks := true }, kinds := [], alts := [], laidByText := true, laidKinds := [.data, .data, .data, .sentinel, .sentinel, .data], laidTests := true, laidLooks := .later }
def MeasureBackCardSaid : Prop := Claim7.holds Tryd.pinned (.plain (OpenSpec.ofChange measureBackSpec)) measureBackCard

/-- THE TIED CARD OF 'sterilizerlaw01.MeasureWords'. -/
def measureWordsCard : Claim7 := { stood := { row := measureWordsRow, standIns := [], harness := (true, "ec7a382f2661eb964221165cafb39b5f6f1ffb3f9a96a8332bed62927db47ac0"), looks := true }, kinds := [], alts := [], laidByText := true, laidKinds := [.data, .data, .data, .sentinel, .sentinel, .data], laidTests := true, laidLooks := .later }
def MeasureWordsCardSaid : Prop := Claim7.holds Tryd.pinned (.plain (OpenSpec.ofChange measureWordsSpec)) measureWordsCard

/-- THE TIED CARD OF 'sterilizerlaw01.MeasureNumbers'. -/
def measureNumbersCard : Claim7 := { stood := { row := measureNumbersRow, standIns := [], harness := (true, "ec7a382f2661eb964221165cafb39b5f6f1ffb3f9a96a8332bed62927db47ac0"), looks := true }, kinds := [], alts := [], laidByText := true, laidKinds := [.data, .data, .data, .sentinel, .sentinel, .data], laidTests := true, laidLooks := .later }
def MeasureNumbersCardSaid : Prop := Claim7.holds Tryd.pinned (.plain (OpenSpec.ofChange measureNumbersSpec)) measureNumbersCard

/-- THE SECOND FORM's CARD OF 'sterilizerlaw01.MeasureSpends'. -/
def measureSpendsUptoCard : Claim7 := { stood := { row := measureSpendsUptoRow, standIns := [], harness := (true, "ec7a382f2661eb964221165cafb39b5f6f1ffb3f9a96a8332bed62927db47ac0"), looks := true }, kinds := [], alts := [], laidByText := true, laidKinds := [.data, .data, .data, .sentinel, .sentinel, .data], laidTests := true, laidLooks := .later }
def MeasureSpendsUptoCardSaid : Prop := Claim7.holds Tryd.pinned (.plain (OpenSpec.upto measureSpendsSpec)) measureSpendsUptoCard

/-- THE SECOND FORM's CARD OF 'sterilizerlaw01.MeasureSums'. -/
def measureSumsUptoCard : Claim7 := { stood := { row := measureSumsUptoRow, standIns := [], harness := (true, "ec7a382f2661eb964221165cafb39b5f6f1ffb3f9a96a8332bed62927db47ac0"), looks := true }, kinds := [], alts := [], laidByText := true, laidKinds := [.data, .data, .data, .sentinel, .sentinel, .data], laidTests := true, laidLooks := .later }
def MeasureSumsUptoCardSaid : Prop := Claim7.holds Tryd.pinned (.plain (OpenSpec.upto measureSumsSpec)) measureSumsUptoCard

/-- THE SECOND FORM's CARD OF 'sterilizerlaw01.MeasureBursts'. -/
def measureBurstsUptoCard : Claim7 := { stood := { row := measureBurstsUptoRow, standIns := [], harness := (true, "ec7a382f2661eb964221165cafb39b5f6f1ffb3f9a96a8332bed62927db47ac0"), looks := true }, kinds := [], alts := [], laidByText := true, laidKinds := [.data, .data, .data, .sentinel, .sentinel, .data], laidTests := true, laidLooks := .later }
def MeasureBurstsUptoCardSaid : Prop := Claim7.holds Tryd.pinned (.plain (OpenSpec.upto measureBurstsSpec)) measureBurstsUptoCard

/-- THE SECOND FORM's CARD OF 'sterilizerlaw01.MeasureLinear'. -/
def measureLinearUptoCard : Claim7 := { stood := { row := measureLinearUptoRow, standIns := [], harness := (true, "ec7a382f2661eb964221165cafb39b5f6f1ffb3f9a96a8332bed62927db47ac0"), looks := true }, kinds := [], alts := [], laidByText := true, laidKinds := [.data, .data, .data, .sentinel, .sentinel, .data], laidTests := true, laidLooks := .later }
def MeasureLinearUptoCardSaid : Prop := Claim7.holds Tryd.pinned (.plain (OpenSpec.upto measureLinearSpec)) measureLinearUptoCard

/-- THE SECOND FORM's CARD OF 'sterilizerlaw01.MeasureOneByte'. -/
def measureOneByteUptoCard : Claim7 := { stood := { row := measureOneByteUptoRow, standIns := [], harness := (true, "ec7a382f2661eb964221165cafb39b5f6f1ffb3f9a96a8332bed62927db47ac0"), looks := true }, kinds := [], alts := [], laidByText := true, laidKinds := [.data, .data, .data, .sentinel, .sentinel, .data], laidTests := true, laidLooks := .later }
def MeasureOneByteUptoCardSaid : Prop := Claim7.holds Tryd.pinned (.plain (OpenSpec.upto measureOneByteSpec)) measureOneByteUptoCard

/-- THE SECOND FORM's CARD OF 'sterilizerlaw01.MeasureReads'. -/
def measureReadsUptoCard : Claim7 := { stood := { row := measureReadsUptoRow, standIns := [], harness := (true, "ec7a382f2661eb964221165cafb39b5f6f1ffb3f9a96a8332bed62927db47ac0"), looks := true }, kinds := [], alts := [], laidByText := true, laidKinds := [.data, .data, .data, .sentinel, .sentinel, .data], laidTests := true, laidLooks := .later }
def MeasureReadsUptoCardSaid : Prop := Claim7.holds Tryd.pinned (.plain (OpenSpec.upto measureReadsSpec)) measureReadsUptoCard

/-- THE SECOND FORM's CARD OF 'sterilizerlaw01.MeasureBack'. -/
def measureBackUptoCard : Claim7 := { stood := { row := measureBackUptoRow, standIns := [], harness := (true, "ec7a382f2661eb964221165cafb39b5f6f1ffb3f9a96a8332bed62927db47ac0"), looks := true }, kinds := [], alts := [], laidByText := true, laidKinds := [.data, .data, .data, .sentinel, .sentinel, .data], laidTests := true, laidLooks := .later }
def MeasureBackUptoCardSaid : Prop := Claim7.holds Tryd.pinned (.plain (OpenSpec.upto measureBackSpec)) measureBackUptoCard

/-- THE SECOND FORM's CARD OF 'sterilizerlaw01.MeasureWords'. -/
def measureWordsUptoCard : Claim7 := { stood := { row := measureWordsUptoRow, standIns := [], harness := (true, "ec7a382f2661eb964221165cafb39b5f6f1ffb3f9a96a8332bed62927db47ac0"), looks := true }, kinds := [], alts := [], laidByText := true, laidKinds := [.data, .data, .data, .sentinel, .sentinel, .data], laidTests := true, laidLooks := .later }
def MeasureWordsUptoCardSaid : Prop := Claim7.holds Tryd.pinned (.plain (OpenSpec.upto measureWordsSpec)) measureWordsUptoCard

/-- THE SECOND FORM's CARD OF 'sterilizerlaw01.MeasureNumbers'. -/
def measureNumbersUptoCard : Claim7 := { stood := { row := measureNumbersUptoRow, standIns := [], harness := (true, "ec7a382f2661eb964221165cafb39b5f6f1ffb3f9a96a8332bed62927db47ac0"), looks := true }, kinds := [], alts := [], laidByText := true, laidKinds := [.data, .data, .data, .sentinel, .sentinel, .data], laidTests := true, laidLooks := .later }
def MeasureNumbersUptoCardSaid : Prop := Claim7.holds Tryd.pinned (.plain (OpenSpec.upto measureNumbersSpec)) measureNumbersUptoCard
end Rows
end Go.Proofs.YthejhdkdfjinbaaDoor
