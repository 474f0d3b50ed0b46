/-
  DERIVED. GIVEN WITH THE SEED: THE CARDS: each row of YtfaomcaimppmeaaDoorRows.lean that lists a variable, with what it lists TIED to the program's text (the seventh form; the later family's looks); each row that meets fmt, with fmt's text TOLD by the authors' own Lean function (tested against real Go, not proved from fmt's source: count such statements apart). THE CARD IS WHAT COUNTS. Prove the row's statement (the work); the ties are given (YtfaomcaimppmeaaDoorTie.lean); close each card by the builder's one call (the guide's Derived/Test/ToyasCard.lean, 'card_holds'). Laid BY PROGRAM, IN A SANDBOX (cutbox-door.mjs). By AI agents, Wed Nov 11 2026. No macro, syntax, notation, axiom, sorry.
-/
import Derived.Test.YtfaomcaimppmeaaDoorRows
import GoSem.ClaimSeven
namespace Go.Proofs.YtfaomcaimppmeaaDoor
namespace Rows

/-- THE TIED CARD OF 'sterilizerlaw05.GlyphRunes'. -/
def glyphRunesCard : Claim7 := { stood := { row := glyphRunesRow, standIns := [], harness := (true, "40e490e0a4d94b87b15274ead85828bdd745423730ed2bb8193ffb9790a31ff2"), looks := false }, kinds := [], alts := [], laidByText := true, laidKinds := [.data, .pinned], laidTests := true, laidLooks := .later }
def GlyphRunesCardSaid : Prop := Claim7.holds Tryd.pinned (.plain (OpenSpec.ofChange glyphRunesSpec)) glyphRunesCard

/-- THE TIED CARD OF 'sterilizerlaw05.GlyphHidden'. -/
def glyphHiddenCard : Claim7 := { stood := { row := glyphHiddenRow, standIns := [], harness := (true, "40e490e0a4d94b87b15274ead85828bdd745423730ed2bb8193ffb9790a31ff2"), looks := false }, kinds := [], alts := [], laidByText := true, laidKinds := [.data, .pinned], laidTests := true, laidLooks := .later }
def GlyphHiddenCardSaid : Prop := Claim7.holds Tryd.pinned (.plain (OpenSpec.ofChange glyphHiddenSpec)) glyphHiddenCard

/-- THE TIED CARD OF 'sterilizerlaw05.GlyphOutline'. -/
def glyphOutlineCard : Claim7 := { stood := { row := glyphOutlineRow, standIns := [], harness := (true, "40e490e0a4d94b87b15274ead85828bdd745423730ed2bb8193ffb9790a31ff2"), looks := false }, kinds := [], alts := [], laidByText := true, laidKinds := [.data, .pinned], laidTests := true, laidLooks := .later }
def GlyphOutlineCardSaid : Prop := Claim7.holds Tryd.pinned (.plain (OpenSpec.ofChange glyphOutlineSpec)) glyphOutlineCard

/-- THE TIED CARD OF 'sterilizerlaw05.GlyphMoved'. -/
def glyphMovedCard : Claim7 := { stood := { row := glyphMovedRow, standIns := [], harness := (true, "40e490e0a4d94b87b15274ead85828bdd745423730ed2bb8193ffb9790a31ff2"), looks := false }, kinds := [], alts := [], laidByText := true, laidKinds := [.data, .pinned], laidTests := true, laidLooks := .later }
def GlyphMovedCardSaid : Prop := Claim7.holds Tryd.pinned (.plain (OpenSpec.ofChange glyphMovedSpec)) glyphMovedCard

/-- THE TIED CARD OF 'sterilizerlaw05.GlyphLine'. -/
def glyphLineCard : Claim7 := { stood := { row := glyphLineRow, standIns := [], harness := (true, "40e490e0a4d94b87b15274ead85828bdd745423730ed2bb8193ffb9790a31ff2"), looks := false }, kinds := [], alts := [], laidByText := true, laidKinds := [.data, .pinned], laidTests := true, laidLooks := .later }
def GlyphLineCardSaid : Prop := Claim7.holds Tryd.pinned (.plain (OpenSpec.ofChange glyphLineSpec)) glyphLineCard

/-- THE TIED CARD OF 'sterilizerlaw05.GlyphFlat'. -/
def glyphFlatCard : Claim7 := { stood := { row := glyphFlatRow, standIns := [], harness := (true, "40e490e0a4d94b87b15274ead85828bdd745423730ed2bb8193ffb9790a31ff2"), looks := false }, kinds := [], alts := [], laidByText := true, laidKinds := [.data, .pinned], laidTests := true, laidLooks := .later }
def GlyphFlatCardSaid : Prop := Claim7.holds Tryd.pinned (.plain (OpenSpec.ofChange glyphFlatSpec)) glyphFlatCard

/-- THE TIED CARD OF 'sterilizerlaw05.GlyphPlain'. -/
def glyphPlainCard : Claim7 := { stood := { row := glyphPlainRow, standIns := [], harness := (true, "40e490e0a4d94b87b15274ead85828bdd745423730ed2bb8193ffb9790a31ff2"), looks := false }, kinds := [], alts := [], laidByText := true, laidKinds := [.data, .pinned], laidTests := true, laidLooks := .later }
def GlyphPlainCardSaid : Prop := Claim7.holds Tryd.pinned (.plain (OpenSpec.ofChange glyphPlainSpec)) glyphPlainCard

/-- THE TIED CARD OF 'sterilizerlaw05.GlyphWrite'. -/
def glyphWriteCard : Claim7 := { stood := { row := glyphWriteRow, standIns := [], harness := (true, "40e490e0a4d94b87b15274ead85828bdd745423730ed2bb8193ffb9790a31ff2"), looks := false }, kinds := [], alts := [], laidByText := true, laidKinds := [.data, .pinned], laidTests := true, laidLooks := .later }
def GlyphWriteCardSaid : Prop := Claim7.holds Tryd.pinned (.plain (OpenSpec.ofChange glyphWriteSpec)) glyphWriteCard

/-- THE TIED CARD OF 'sterilizerlaw05.GlyphCut'. -/
def glyphCutCard : Claim7 := { stood := { row := glyphCutRow, standIns := [], harness := (true, "40e490e0a4d94b87b15274ead85828bdd745423730ed2bb8193ffb9790a31ff2"), looks := false }, kinds := [], alts := [], laidByText := true, laidKinds := [.data, .pinned], laidTests := true, laidLooks := .later }
def GlyphCutCardSaid : Prop := Claim7.holds Tryd.pinned (.plain (OpenSpec.ofChange glyphCutSpec)) glyphCutCard

/-- THE TIED CARD OF 'sterilizerlaw05.GlyphRead'. -/
def glyphReadCard : Claim7 := { stood := { row := glyphReadRow, standIns := [], harness := (true, "40e490e0a4d94b87b15274ead85828bdd745423730ed2bb8193ffb9790a31ff2"), looks := false }, kinds := [], alts := [], laidByText := true, laidKinds := [.data, .pinned], laidTests := true, laidLooks := .later }
def GlyphReadCardSaid : Prop := Claim7.holds Tryd.pinned (.plain (OpenSpec.ofChange glyphReadSpec)) glyphReadCard

/-- THE TIED CARD OF 'sterilizerlaw05.GlyphBack'. -/
def glyphBackCard : Claim7 := { stood := { row := glyphBackRow, standIns := [], harness := (true, "40e490e0a4d94b87b15274ead85828bdd745423730ed2bb8193ffb9790a31ff2"), looks := false }, kinds := [], alts := [], laidByText := true, laidKinds := [.data, .pinned], laidTests := true, laidLooks := .later }
def GlyphBackCardSaid : Prop := Claim7.holds Tryd.pinned (.plain (OpenSpec.ofChange glyphBackSpec)) glyphBackCard

/-- THE SECOND FORM's CARD OF 'sterilizerlaw05.GlyphRunes'. -/
def glyphRunesUptoCard : Claim7 := { stood := { row := glyphRunesUptoRow, standIns := [], harness := (true, "40e490e0a4d94b87b15274ead85828bdd745423730ed2bb8193ffb9790a31ff2"), looks := false }, kinds := [], alts := [], laidByText := true, laidKinds := [.data, .pinned], laidTests := true, laidLooks := .later }
def GlyphRunesUptoCardSaid : Prop := Claim7.holds Tryd.pinned (.plain (OpenSpec.upto glyphRunesSpec)) glyphRunesUptoCard

/-- THE SECOND FORM's CARD OF 'sterilizerlaw05.GlyphHidden'. -/
def glyphHiddenUptoCard : Claim7 := { stood := { row := glyphHiddenUptoRow, standIns := [], harness := (true, "40e490e0a4d94b87b15274ead85828bdd745423730ed2bb8193ffb9790a31ff2"), looks := false }, kinds := [], alts := [], laidByText := true, laidKinds := [.data, .pinned], laidTests := true, laidLooks := .later }
def GlyphHiddenUptoCardSaid : Prop := Claim7.holds Tryd.pinned (.plain (OpenSpec.upto glyphHiddenSpec)) glyphHiddenUptoCard

/-- THE SECOND FORM's CARD OF 'sterilizerlaw05.GlyphOutline'. -/
def glyphOutlineUptoCard : Claim7 := { stood := { row := glyphOutlineUptoRow, standIns := [], harness := (true, "40e490e0a4d94b87b15274ead85828bdd745423730ed2bb8193ffb9790a31ff2"), looks := false }, kinds := [], alts := [], laidByText := true, laidKinds := [.data, .pinned], laidTests := true, laidLooks := .later }
def GlyphOutlineUptoCardSaid : Prop := Claim7.holds Tryd.pinned (.plain (OpenSpec.upto glyphOutlineSpec)) glyphOutlineUptoCard

/-- THE SECOND FORM's CARD OF 'sterilizerlaw05.GlyphMoved'. -/
def glyphMovedUptoCard : Claim7 := { stood := { row := glyphMovedUptoRow, standIns := [], harness := (true, "40e490e0a4d94b87b15274ead85828bdd745423730ed2bb8193ffb9790a31ff2"), looks := false }, kinds := [], alts := [], laidByText := true, laidKinds := [.data, .pinned], laidTests := true, laidLooks := .later }
def GlyphMovedUptoCardSaid : Prop := Claim7.holds Tryd.pinned (.plain (OpenSpec.upto glyphMovedSpec)) glyphMovedUptoCard

/-- THE SECOND FORM's CARD OF 'sterilizerlaw05.GlyphLine'. -/
def glyphLineUptoCard : Claim7 := { stood := { row := glyphLineUptoRow, standIns := [], harness := (true, "40e490e0a4d94b87b15274ead85828bdd745423730ed2bb8193ffb9790a31ff2"), looks := false }, kinds := [], alts := [], laidByText := true, laidKinds := [.data, .pinned], laidTests := true, laidLooks := .later }
def GlyphLineUptoCardSaid : Prop := Claim7.holds Tryd.pinned (.plain (OpenSpec.upto glyphLineSpec)) glyphLineUptoCard

/-- THE SECOND FORM's CARD OF 'sterilizerlaw05.GlyphFlat'. -/
def glyphFlatUptoCard : Claim7 := { stood := { row := glyphFlatUptoRow, standIns := [], harness := (true, "40e490e0a4d94b87b15274ead85828bdd745423730ed2bb8193ffb9790a31ff2"), looks := false }, kinds := [], alts := [], laidByText := true, laidKinds := [.data, .pinned], laidTests := true, laidLooks := .later }
def GlyphFlatUptoCardSaid : Prop := Claim7.holds Tryd.pinned (.plain (OpenSpec.upto glyphFlatSpec)) glyphFlatUptoCard

/-- THE SECOND FORM's CARD OF 'sterilizerlaw05.GlyphPlain'. -/
def glyphPlainUptoCard : Claim7 := { stood := { row := glyphPlainUptoRow, standIns := [], harness := (true, "40e490e0a4d94b87b15274ead85828bdd745423730ed2bb8193ffb9790a31ff2"), looks := false }, kinds := [], alts := [], laidByText := true, laidKinds := [.data, .pinned], laidTests := true, laidLooks := .later }
def GlyphPlainUptoCardSaid : Prop := Claim7.holds Tryd.pinned (.plain (OpenSpec.upto glyphPlainSpec)) glyphPlainUptoCard

/-- THE SECOND FORM's CARD OF 'sterilizerlaw05.GlyphWrite'. -/
def glyphWriteUptoCard : Claim7 := { stood := { row := glyphWriteUptoRow, standIns := [], harness := (true, "40e490e0a4d94b87b15274ead85828bdd745423730ed2bb8193ffb9790a31ff2"), looks := false }, kinds := [], alts := [], laidByText := true, laidKinds := [.data, .pinned], laidTests := true, laidLooks := .later }
def GlyphWriteUptoCardSaid : Prop := Claim7.holds Tryd.pinned (.plain (OpenSpec.upto glyphWriteSpec)) glyphWriteUptoCard

/-- THE SECOND FORM's CARD OF 'sterilizerlaw05.GlyphCut'. -/
def glyphCutUptoCard : Claim7 := { stood := { row := glyphCutUptoRow, standIns := [], harness := (true, "40e490e0a4d94b87b15274ead85828bdd745423730ed2bb8193ffb9790a31ff2"), looks := false }, kinds := [], alts := [], laidByText := true, laidKinds := [.data, .pinned], laidTests := true, laidLooks := .later }
def GlyphCutUptoCardSaid : Prop := Claim7.holds Tryd.pinned (.plain (OpenSpec.upto glyphCutSpec)) glyphCutUptoCard

/-- THE SECOND FORM's CARD OF 'sterilizerlaw05.GlyphRead'. -/
def glyphReadUptoCard : Claim7 := { stood := { row := glyphReadUptoRow, standIns := [], harness := (true, "40e490e0a4d94b87b15274ead85828bdd745423730ed2bb8193ffb9790a31ff2"), looks := false }, kinds := [], alts := [], laidByText := true, laidKinds := [.data, .pinned], laidTests := true, laidLooks := .later }
def GlyphReadUptoCardSaid : Prop := Claim7.holds Tryd.pinned (.plain (OpenSpec.upto glyphReadSpec)) glyphReadUptoCard

/-- THE SECOND FORM's CARD OF 'sterilizerlaw05.GlyphBack'. -/
def glyphBackUptoCard : Claim7 := { stood := { row := glyphBackUptoRow, standIns := [], harness := (true, "40e490e0a4d94b87b15274ead85828bdd745423730ed2bb8193ffb9790a31ff2"), looks := false }, kinds := [], alts := [], laidByText := true, laidKinds := [.data, .pinned], laidTests := true, laidLooks := .later }
def GlyphBackUptoCardSaid : Prop := Claim7.holds Tryd.pinned (.plain (OpenSpec.upto glyphBackSpec)) glyphBackUptoCard
end Rows
end Go.Proofs.YtfaomcaimppmeaaDoor
