/-
  NARROWER THAN 'FOR EVERY INPUT', by the rows' own cells (each row's printed sentence says how): GlyphRunes: laid · GlyphHidden: laid · GlyphOutline: laid · GlyphMoved: laid · GlyphLine: laid · GlyphFlat: laid · GlyphPlain: laid · GlyphWrite: laid · GlyphCut: laid · GlyphRead: laid · GlyphBack: laid.
  DERIVED. THE GIVEN ROWS OF THIS SEAT. 11 by the template 'for every input the law returns true; each argument reads behind the call as it read before'; 0 by the template 'total and deterministic' (their statements: YtfaomcaimppmeaaDoorTotals.lean).
  GIVEN WITH THE SEED: the statements are not yours to turn. If you find one false, say at which input.
  Laid BY PROGRAM, IN A SANDBOX (cutbox-rows.mjs): the forced cells as the released guide's own fill.sh prints them over the translation 75f0cf1688c28767… (all of the seat's roots in one cut). By AI agents, Wed Nov 11 2026. No macro, syntax, notation, axiom, sorry.
-/
import Derived.Test.YtfaomcaimppmeaaDoorChecked
import GoSem.PinnedTables
import GoSem.Claim
import GoSem.ClaimJoined
import GoSem.ClaimMapViews
import Derived.JoinedTies
import Derived.KernelRfl
namespace Go.Proofs.YtfaomcaimppmeaaDoor
/- THE CELL 'sum', in the pinned program and in every row, IS THE sha256 OF THE DUMP (.gsa) THAT YtfaomcaimppmeaaDoorProg.lean LOADS. Nothing in Lean hashes anything: it is a label: what it is worth is what the hold of that sum in a sandbox is worth. -/
noncomputable def Tryd.pinned : Pinned := { name := "ytfaomcaimppmeaadoor", sum := "75f0cf1688c287677e25d34d3400d7b25fa089222bb4f21fc83172c03c728369", checked := Tryd.checked }
namespace Rows
def none {H : Type} : Left H := { results := [], args := [] }

/- WHAT THE LISTED PACKAGE-LEVEL VARIABLES READ AS WHEN THE CALL BEGINS. Each datum BY PROGRAM (the guide's laid-datum.mjs) off the statement by which the dump's own 'gosem.cut.vars' lays the variable. In a bare row this is a premise. The card (YtfaomcaimppmeaaDoorCards.lean) ties it to the program's text. -/
def laid_unicode_utf8_acceptRanges {H : Type} : DataW H := .agg [.agg [.lit (.int .u8 128), .lit (.int .u8 191)], .agg [.lit (.int .u8 160), .lit (.int .u8 191)], .agg [.lit (.int .u8 128), .lit (.int .u8 159)], .agg [.lit (.int .u8 144), .lit (.int .u8 191)], .agg [.lit (.int .u8 128), .lit (.int .u8 143)], .agg [.lit (.int .u8 0), .lit (.int .u8 0)], .agg [.lit (.int .u8 0), .lit (.int .u8 0)], .agg [.lit (.int .u8 0), .lit (.int .u8 0)], .agg [.lit (.int .u8 0), .lit (.int .u8 0)], .agg [.lit (.int .u8 0), .lit (.int .u8 0)], .agg [.lit (.int .u8 0), .lit (.int .u8 0)], .agg [.lit (.int .u8 0), .lit (.int .u8 0)], .agg [.lit (.int .u8 0), .lit (.int .u8 0)], .agg [.lit (.int .u8 0), .lit (.int .u8 0)], .agg [.lit (.int .u8 0), .lit (.int .u8 0)], .agg [.lit (.int .u8 0), .lit (.int .u8 0)]]
/-- One of Go's own tables, pinned by name: the form's constant. -/
def laid_unicode_utf8_first : DataW Unit := Go.Pinned.utf8First

/-- 'sterilizerlaw05.GlyphRunes': WHATEVER THE INPUT: true; the input reads as it did. -/
def glyphRunesSpec : ChangeSpec := { name := "glyphRunes", fn := fun _ => fun
  | [d] => { results := [.lit (.bool true)], args := [d] }
  | _ => none }
def glyphRunesRow : OpenClaim := { program := "ytfaomcaimppmeaadoor", sum := "75f0cf1688c287677e25d34d3400d7b25fa089222bb4f21fc83172c03c728369", func := "sterilizer/sterilizerlaw05.GlyphRunes", spec := "glyphRunes", unfollowed := true, recurses := true, named := ["unicode/utf8.first", "unicode/utf8.acceptRanges"], apart := false, laid := [("unicode/utf8.acceptRanges", laid_unicode_utf8_acceptRanges), ("unicode/utf8.first", laid_unicode_utf8_first)] }
def GlyphRunesSaid : Prop := glyphRunesRow.holds Tryd.pinned (OpenSpec.ofChange glyphRunesSpec)

/-- ITS FALSE NEIGHBOUR: 'it returns false'. Refute it at one input. -/
def glyphRunesWrong : ChangeSpec := { name := "glyphRunes", fn := fun _ => fun
  | [d] => { results := [.lit (.bool false)], args := [d] }
  | _ => none }
def GlyphRunesWrongFalsely : Prop := glyphRunesRow.holds Tryd.pinned (OpenSpec.ofChange glyphRunesWrong)

/-- 'sterilizerlaw05.GlyphHidden': WHATEVER THE INPUT: true; the input reads as it did. -/
def glyphHiddenSpec : ChangeSpec := { name := "glyphHidden", fn := fun _ => fun
  | [d1, d2, d3] => { results := [.lit (.bool true)], args := [d1, d2, d3] }
  | _ => none }
def glyphHiddenRow : OpenClaim := { program := "ytfaomcaimppmeaadoor", sum := "75f0cf1688c287677e25d34d3400d7b25fa089222bb4f21fc83172c03c728369", func := "sterilizer/sterilizerlaw05.GlyphHidden", spec := "glyphHidden", unfollowed := true, recurses := true, named := ["unicode/utf8.first", "unicode/utf8.acceptRanges"], apart := false, laid := [("unicode/utf8.acceptRanges", laid_unicode_utf8_acceptRanges), ("unicode/utf8.first", laid_unicode_utf8_first)] }
def GlyphHiddenSaid : Prop := glyphHiddenRow.holds Tryd.pinned (OpenSpec.ofChange glyphHiddenSpec)

/-- ITS FALSE NEIGHBOUR: 'it returns false'. Refute it at one input. -/
def glyphHiddenWrong : ChangeSpec := { name := "glyphHidden", fn := fun _ => fun
  | [d1, d2, d3] => { results := [.lit (.bool false)], args := [d1, d2, d3] }
  | _ => none }
def GlyphHiddenWrongFalsely : Prop := glyphHiddenRow.holds Tryd.pinned (OpenSpec.ofChange glyphHiddenWrong)

/-- 'sterilizerlaw05.GlyphOutline': WHATEVER THE INPUT: true; the input reads as it did. -/
def glyphOutlineSpec : ChangeSpec := { name := "glyphOutline", fn := fun _ => fun
  | [d1, d2, d3, d4] => { results := [.lit (.bool true)], args := [d1, d2, d3, d4] }
  | _ => none }
def glyphOutlineRow : OpenClaim := { program := "ytfaomcaimppmeaadoor", sum := "75f0cf1688c287677e25d34d3400d7b25fa089222bb4f21fc83172c03c728369", func := "sterilizer/sterilizerlaw05.GlyphOutline", spec := "glyphOutline", unfollowed := true, recurses := true, named := ["unicode/utf8.first", "unicode/utf8.acceptRanges"], apart := false, laid := [("unicode/utf8.acceptRanges", laid_unicode_utf8_acceptRanges), ("unicode/utf8.first", laid_unicode_utf8_first)] }
def GlyphOutlineSaid : Prop := glyphOutlineRow.holds Tryd.pinned (OpenSpec.ofChange glyphOutlineSpec)

/-- ITS FALSE NEIGHBOUR: 'it returns false'. Refute it at one input. -/
def glyphOutlineWrong : ChangeSpec := { name := "glyphOutline", fn := fun _ => fun
  | [d1, d2, d3, d4] => { results := [.lit (.bool false)], args := [d1, d2, d3, d4] }
  | _ => none }
def GlyphOutlineWrongFalsely : Prop := glyphOutlineRow.holds Tryd.pinned (OpenSpec.ofChange glyphOutlineWrong)

/-- 'sterilizerlaw05.GlyphMoved': WHATEVER THE INPUT: true; the input reads as it did. -/
def glyphMovedSpec : ChangeSpec := { name := "glyphMoved", fn := fun _ => fun
  | [d1, d2, d3] => { results := [.lit (.bool true)], args := [d1, d2, d3] }
  | _ => none }
def glyphMovedRow : OpenClaim := { program := "ytfaomcaimppmeaadoor", sum := "75f0cf1688c287677e25d34d3400d7b25fa089222bb4f21fc83172c03c728369", func := "sterilizer/sterilizerlaw05.GlyphMoved", spec := "glyphMoved", unfollowed := true, recurses := true, named := ["unicode/utf8.first", "unicode/utf8.acceptRanges"], apart := false, laid := [("unicode/utf8.acceptRanges", laid_unicode_utf8_acceptRanges), ("unicode/utf8.first", laid_unicode_utf8_first)] }
def GlyphMovedSaid : Prop := glyphMovedRow.holds Tryd.pinned (OpenSpec.ofChange glyphMovedSpec)

/-- ITS FALSE NEIGHBOUR: 'it returns false'. Refute it at one input. -/
def glyphMovedWrong : ChangeSpec := { name := "glyphMoved", fn := fun _ => fun
  | [d1, d2, d3] => { results := [.lit (.bool false)], args := [d1, d2, d3] }
  | _ => none }
def GlyphMovedWrongFalsely : Prop := glyphMovedRow.holds Tryd.pinned (OpenSpec.ofChange glyphMovedWrong)

/-- 'sterilizerlaw05.GlyphLine': WHATEVER THE INPUT: true; the input reads as it did. -/
def glyphLineSpec : ChangeSpec := { name := "glyphLine", fn := fun _ => fun
  | [d1, d2, d3] => { results := [.lit (.bool true)], args := [d1, d2, d3] }
  | _ => none }
def glyphLineRow : OpenClaim := { program := "ytfaomcaimppmeaadoor", sum := "75f0cf1688c287677e25d34d3400d7b25fa089222bb4f21fc83172c03c728369", func := "sterilizer/sterilizerlaw05.GlyphLine", spec := "glyphLine", unfollowed := true, recurses := true, named := ["unicode/utf8.first", "unicode/utf8.acceptRanges"], apart := false, laid := [("unicode/utf8.acceptRanges", laid_unicode_utf8_acceptRanges), ("unicode/utf8.first", laid_unicode_utf8_first)] }
def GlyphLineSaid : Prop := glyphLineRow.holds Tryd.pinned (OpenSpec.ofChange glyphLineSpec)

/-- ITS FALSE NEIGHBOUR: 'it returns false'. Refute it at one input. -/
def glyphLineWrong : ChangeSpec := { name := "glyphLine", fn := fun _ => fun
  | [d1, d2, d3] => { results := [.lit (.bool false)], args := [d1, d2, d3] }
  | _ => none }
def GlyphLineWrongFalsely : Prop := glyphLineRow.holds Tryd.pinned (OpenSpec.ofChange glyphLineWrong)

/-- 'sterilizerlaw05.GlyphFlat': WHATEVER THE INPUT: true; the input reads as it did. -/
def glyphFlatSpec : ChangeSpec := { name := "glyphFlat", fn := fun _ => fun
  | [d1, d2] => { results := [.lit (.bool true)], args := [d1, d2] }
  | _ => none }
def glyphFlatRow : OpenClaim := { program := "ytfaomcaimppmeaadoor", sum := "75f0cf1688c287677e25d34d3400d7b25fa089222bb4f21fc83172c03c728369", func := "sterilizer/sterilizerlaw05.GlyphFlat", spec := "glyphFlat", unfollowed := true, recurses := true, named := ["unicode/utf8.first", "unicode/utf8.acceptRanges"], apart := false, laid := [("unicode/utf8.acceptRanges", laid_unicode_utf8_acceptRanges), ("unicode/utf8.first", laid_unicode_utf8_first)] }
def GlyphFlatSaid : Prop := glyphFlatRow.holds Tryd.pinned (OpenSpec.ofChange glyphFlatSpec)

/-- ITS FALSE NEIGHBOUR: 'it returns false'. Refute it at one input. -/
def glyphFlatWrong : ChangeSpec := { name := "glyphFlat", fn := fun _ => fun
  | [d1, d2] => { results := [.lit (.bool false)], args := [d1, d2] }
  | _ => none }
def GlyphFlatWrongFalsely : Prop := glyphFlatRow.holds Tryd.pinned (OpenSpec.ofChange glyphFlatWrong)

/-- 'sterilizerlaw05.GlyphPlain': WHATEVER THE INPUT: true; the input reads as it did. -/
def glyphPlainSpec : ChangeSpec := { name := "glyphPlain", fn := fun _ => fun
  | [d1, d2] => { results := [.lit (.bool true)], args := [d1, d2] }
  | _ => none }
def glyphPlainRow : OpenClaim := { program := "ytfaomcaimppmeaadoor", sum := "75f0cf1688c287677e25d34d3400d7b25fa089222bb4f21fc83172c03c728369", func := "sterilizer/sterilizerlaw05.GlyphPlain", spec := "glyphPlain", unfollowed := true, recurses := true, named := ["unicode/utf8.first", "unicode/utf8.acceptRanges"], apart := false, laid := [("unicode/utf8.acceptRanges", laid_unicode_utf8_acceptRanges), ("unicode/utf8.first", laid_unicode_utf8_first)] }
def GlyphPlainSaid : Prop := glyphPlainRow.holds Tryd.pinned (OpenSpec.ofChange glyphPlainSpec)

/-- ITS FALSE NEIGHBOUR: 'it returns false'. Refute it at one input. -/
def glyphPlainWrong : ChangeSpec := { name := "glyphPlain", fn := fun _ => fun
  | [d1, d2] => { results := [.lit (.bool false)], args := [d1, d2] }
  | _ => none }
def GlyphPlainWrongFalsely : Prop := glyphPlainRow.holds Tryd.pinned (OpenSpec.ofChange glyphPlainWrong)

/-- 'sterilizerlaw05.GlyphWrite': WHATEVER THE INPUT: true; the input reads as it did. -/
def glyphWriteSpec : ChangeSpec := { name := "glyphWrite", fn := fun _ => fun
  | [d] => { results := [.lit (.bool true)], args := [d] }
  | _ => none }
def glyphWriteRow : OpenClaim := { program := "ytfaomcaimppmeaadoor", sum := "75f0cf1688c287677e25d34d3400d7b25fa089222bb4f21fc83172c03c728369", func := "sterilizer/sterilizerlaw05.GlyphWrite", spec := "glyphWrite", unfollowed := true, recurses := true, named := ["unicode/utf8.first", "unicode/utf8.acceptRanges"], apart := false, laid := [("unicode/utf8.acceptRanges", laid_unicode_utf8_acceptRanges), ("unicode/utf8.first", laid_unicode_utf8_first)] }
def GlyphWriteSaid : Prop := glyphWriteRow.holds Tryd.pinned (OpenSpec.ofChange glyphWriteSpec)

/-- ITS FALSE NEIGHBOUR: 'it returns false'. Refute it at one input. -/
def glyphWriteWrong : ChangeSpec := { name := "glyphWrite", fn := fun _ => fun
  | [d] => { results := [.lit (.bool false)], args := [d] }
  | _ => none }
def GlyphWriteWrongFalsely : Prop := glyphWriteRow.holds Tryd.pinned (OpenSpec.ofChange glyphWriteWrong)

/-- 'sterilizerlaw05.GlyphCut': WHATEVER THE INPUT: true; the input reads as it did. -/
def glyphCutSpec : ChangeSpec := { name := "glyphCut", fn := fun _ => fun
  | [d1, d2, d3] => { results := [.lit (.bool true)], args := [d1, d2, d3] }
  | _ => none }
def glyphCutRow : OpenClaim := { program := "ytfaomcaimppmeaadoor", sum := "75f0cf1688c287677e25d34d3400d7b25fa089222bb4f21fc83172c03c728369", func := "sterilizer/sterilizerlaw05.GlyphCut", spec := "glyphCut", unfollowed := true, recurses := true, named := ["unicode/utf8.first", "unicode/utf8.acceptRanges"], apart := false, laid := [("unicode/utf8.acceptRanges", laid_unicode_utf8_acceptRanges), ("unicode/utf8.first", laid_unicode_utf8_first)] }
def GlyphCutSaid : Prop := glyphCutRow.holds Tryd.pinned (OpenSpec.ofChange glyphCutSpec)

/-- ITS FALSE NEIGHBOUR: 'it returns false'. Refute it at one input. -/
def glyphCutWrong : ChangeSpec := { name := "glyphCut", fn := fun _ => fun
  | [d1, d2, d3] => { results := [.lit (.bool false)], args := [d1, d2, d3] }
  | _ => none }
def GlyphCutWrongFalsely : Prop := glyphCutRow.holds Tryd.pinned (OpenSpec.ofChange glyphCutWrong)

/-- 'sterilizerlaw05.GlyphRead': WHATEVER THE INPUT: true; the input reads as it did. -/
def glyphReadSpec : ChangeSpec := { name := "glyphRead", fn := fun _ => fun
  | [d1, d2] => { results := [.lit (.bool true)], args := [d1, d2] }
  | _ => none }
def glyphReadRow : OpenClaim := { program := "ytfaomcaimppmeaadoor", sum := "75f0cf1688c287677e25d34d3400d7b25fa089222bb4f21fc83172c03c728369", func := "sterilizer/sterilizerlaw05.GlyphRead", spec := "glyphRead", unfollowed := true, recurses := true, named := ["unicode/utf8.first", "unicode/utf8.acceptRanges"], apart := false, laid := [("unicode/utf8.acceptRanges", laid_unicode_utf8_acceptRanges), ("unicode/utf8.first", laid_unicode_utf8_first)] }
def GlyphReadSaid : Prop := glyphReadRow.holds Tryd.pinned (OpenSpec.ofChange glyphReadSpec)

/-- ITS FALSE NEIGHBOUR: 'it returns false'. Refute it at one input. -/
def glyphReadWrong : ChangeSpec := { name := "glyphRead", fn := fun _ => fun
  | [d1, d2] => { results := [.lit (.bool false)], args := [d1, d2] }
  | _ => none }
def GlyphReadWrongFalsely : Prop := glyphReadRow.holds Tryd.pinned (OpenSpec.ofChange glyphReadWrong)

/-- 'sterilizerlaw05.GlyphBack': WHATEVER THE INPUT: true; the input reads as it did. -/
def glyphBackSpec : ChangeSpec := { name := "glyphBack", fn := fun _ => fun
  | [d] => { results := [.lit (.bool true)], args := [d] }
  | _ => none }
def glyphBackRow : OpenClaim := { program := "ytfaomcaimppmeaadoor", sum := "75f0cf1688c287677e25d34d3400d7b25fa089222bb4f21fc83172c03c728369", func := "sterilizer/sterilizerlaw05.GlyphBack", spec := "glyphBack", unfollowed := true, recurses := true, named := ["unicode/utf8.first", "unicode/utf8.acceptRanges"], apart := false, laid := [("unicode/utf8.acceptRanges", laid_unicode_utf8_acceptRanges), ("unicode/utf8.first", laid_unicode_utf8_first)] }
def GlyphBackSaid : Prop := glyphBackRow.holds Tryd.pinned (OpenSpec.ofChange glyphBackSpec)

/-- ITS FALSE NEIGHBOUR: 'it returns false'. Refute it at one input. -/
def glyphBackWrong : ChangeSpec := { name := "glyphBack", fn := fun _ => fun
  | [d] => { results := [.lit (.bool false)], args := [d] }
  | _ => none }
def GlyphBackWrongFalsely : Prop := glyphBackRow.holds Tryd.pinned (OpenSpec.ofChange glyphBackWrong)

/- THE SECOND FORM. 'bulk': how many values and letters a reading holds, each counted each time it is reached (what is shared counts as often as it is met; a slice's spare places count too). A statement '..UptoSaid' is the law's where the arguments, and the package variables that the reading takes, are together of bulk at most 1048576: NARROWER than '..Said'. Prove '..Said' where nothing that the law and all that it calls make is longer than what came in: it says more and counts as full. Else prove '..UptoSaid'. A law counts once. -/
mutual
def uptoBulk {H : Type} : DataW H → Nat
  | .lit (.string bytes) => bytes.length + 1
  | .lit _ => 1
  | .nil => 1
  | .ptr d => uptoBulk d + 1
  | .slice elems spare => uptoBulkAll elems + uptoBulkAll spare + 1
  | .agg parts => uptoBulkAll parts + 1
  | .iface _ d => uptoBulk d + 1
  | .map entries => uptoBulkEntries entries + 1
  | .held _ => 1
def uptoBulkAll {H : Type} : List (DataW H) → Nat
  | [] => 0
  | d :: r => uptoBulk d + uptoBulkAll r
def uptoBulkEntries {H : Type} : List (Lit × DataW H) → Nat
  | [] => 0
  | x :: r => uptoBulkEntry x + uptoBulkEntries r
def uptoBulkEntry {H : Type} : Lit × DataW H → Nat
  | (.string bytes, d) => bytes.length + uptoBulk d + 1
  | (_, d) => uptoBulk d + 1
 end
def uptoSmall : (H : Type) → List (DataW H) → Bool := fun _ ds => decide (uptoBulkAll ds ≤ 1048576)
def OpenSpec.upto (s : _root_.Go.ChangeSpec) : _root_.Go.OpenSpec := { _root_.Go.OpenSpec.ofChange s with cond := some uptoSmall }

/-- 'sterilizerlaw05.GlyphRunes', WHERE WHAT IT READS IS OF BULK AT MOST 1048576: true; the input reads as it did. -/
def glyphRunesUptoRow : OpenClaim := { program := "ytfaomcaimppmeaadoor", sum := "75f0cf1688c287677e25d34d3400d7b25fa089222bb4f21fc83172c03c728369", func := "sterilizer/sterilizerlaw05.GlyphRunes", spec := "glyphRunes", unfollowed := true, recurses := true, named := ["unicode/utf8.first", "unicode/utf8.acceptRanges"], apart := false, laid := [("unicode/utf8.acceptRanges", laid_unicode_utf8_acceptRanges), ("unicode/utf8.first", laid_unicode_utf8_first)], narrowed := true }
def GlyphRunesUptoSaid : Prop := glyphRunesUptoRow.holds Tryd.pinned (OpenSpec.upto glyphRunesSpec)

/-- 'sterilizerlaw05.GlyphHidden', WHERE WHAT IT READS IS OF BULK AT MOST 1048576: true; the input reads as it did. -/
def glyphHiddenUptoRow : OpenClaim := { program := "ytfaomcaimppmeaadoor", sum := "75f0cf1688c287677e25d34d3400d7b25fa089222bb4f21fc83172c03c728369", func := "sterilizer/sterilizerlaw05.GlyphHidden", spec := "glyphHidden", unfollowed := true, recurses := true, named := ["unicode/utf8.first", "unicode/utf8.acceptRanges"], apart := false, laid := [("unicode/utf8.acceptRanges", laid_unicode_utf8_acceptRanges), ("unicode/utf8.first", laid_unicode_utf8_first)], narrowed := true }
def GlyphHiddenUptoSaid : Prop := glyphHiddenUptoRow.holds Tryd.pinned (OpenSpec.upto glyphHiddenSpec)

/-- 'sterilizerlaw05.GlyphOutline', WHERE WHAT IT READS IS OF BULK AT MOST 1048576: true; the input reads as it did. -/
def glyphOutlineUptoRow : OpenClaim := { program := "ytfaomcaimppmeaadoor", sum := "75f0cf1688c287677e25d34d3400d7b25fa089222bb4f21fc83172c03c728369", func := "sterilizer/sterilizerlaw05.GlyphOutline", spec := "glyphOutline", unfollowed := true, recurses := true, named := ["unicode/utf8.first", "unicode/utf8.acceptRanges"], apart := false, laid := [("unicode/utf8.acceptRanges", laid_unicode_utf8_acceptRanges), ("unicode/utf8.first", laid_unicode_utf8_first)], narrowed := true }
def GlyphOutlineUptoSaid : Prop := glyphOutlineUptoRow.holds Tryd.pinned (OpenSpec.upto glyphOutlineSpec)

/-- 'sterilizerlaw05.GlyphMoved', WHERE WHAT IT READS IS OF BULK AT MOST 1048576: true; the input reads as it did. -/
def glyphMovedUptoRow : OpenClaim := { program := "ytfaomcaimppmeaadoor", sum := "75f0cf1688c287677e25d34d3400d7b25fa089222bb4f21fc83172c03c728369", func := "sterilizer/sterilizerlaw05.GlyphMoved", spec := "glyphMoved", unfollowed := true, recurses := true, named := ["unicode/utf8.first", "unicode/utf8.acceptRanges"], apart := false, laid := [("unicode/utf8.acceptRanges", laid_unicode_utf8_acceptRanges), ("unicode/utf8.first", laid_unicode_utf8_first)], narrowed := true }
def GlyphMovedUptoSaid : Prop := glyphMovedUptoRow.holds Tryd.pinned (OpenSpec.upto glyphMovedSpec)

/-- 'sterilizerlaw05.GlyphLine', WHERE WHAT IT READS IS OF BULK AT MOST 1048576: true; the input reads as it did. -/
def glyphLineUptoRow : OpenClaim := { program := "ytfaomcaimppmeaadoor", sum := "75f0cf1688c287677e25d34d3400d7b25fa089222bb4f21fc83172c03c728369", func := "sterilizer/sterilizerlaw05.GlyphLine", spec := "glyphLine", unfollowed := true, recurses := true, named := ["unicode/utf8.first", "unicode/utf8.acceptRanges"], apart := false, laid := [("unicode/utf8.acceptRanges", laid_unicode_utf8_acceptRanges), ("unicode/utf8.first", laid_unicode_utf8_first)], narrowed := true }
def GlyphLineUptoSaid : Prop := glyphLineUptoRow.holds Tryd.pinned (OpenSpec.upto glyphLineSpec)

/-- 'sterilizerlaw05.GlyphFlat', WHERE WHAT IT READS IS OF BULK AT MOST 1048576: true; the input reads as it did. -/
def glyphFlatUptoRow : OpenClaim := { program := "ytfaomcaimppmeaadoor", sum := "75f0cf1688c287677e25d34d3400d7b25fa089222bb4f21fc83172c03c728369", func := "sterilizer/sterilizerlaw05.GlyphFlat", spec := "glyphFlat", unfollowed := true, recurses := true, named := ["unicode/utf8.first", "unicode/utf8.acceptRanges"], apart := false, laid := [("unicode/utf8.acceptRanges", laid_unicode_utf8_acceptRanges), ("unicode/utf8.first", laid_unicode_utf8_first)], narrowed := true }
def GlyphFlatUptoSaid : Prop := glyphFlatUptoRow.holds Tryd.pinned (OpenSpec.upto glyphFlatSpec)

/-- 'sterilizerlaw05.GlyphPlain', WHERE WHAT IT READS IS OF BULK AT MOST 1048576: true; the input reads as it did. -/
def glyphPlainUptoRow : OpenClaim := { program := "ytfaomcaimppmeaadoor", sum := "75f0cf1688c287677e25d34d3400d7b25fa089222bb4f21fc83172c03c728369", func := "sterilizer/sterilizerlaw05.GlyphPlain", spec := "glyphPlain", unfollowed := true, recurses := true, named := ["unicode/utf8.first", "unicode/utf8.acceptRanges"], apart := false, laid := [("unicode/utf8.acceptRanges", laid_unicode_utf8_acceptRanges), ("unicode/utf8.first", laid_unicode_utf8_first)], narrowed := true }
def GlyphPlainUptoSaid : Prop := glyphPlainUptoRow.holds Tryd.pinned (OpenSpec.upto glyphPlainSpec)

/-- 'sterilizerlaw05.GlyphWrite', WHERE WHAT IT READS IS OF BULK AT MOST 1048576: true; the input reads as it did. -/
def glyphWriteUptoRow : OpenClaim := { program := "ytfaomcaimppmeaadoor", sum := "75f0cf1688c287677e25d34d3400d7b25fa089222bb4f21fc83172c03c728369", func := "sterilizer/sterilizerlaw05.GlyphWrite", spec := "glyphWrite", unfollowed := true, recurses := true, named := ["unicode/utf8.first", "unicode/utf8.acceptRanges"], apart := false, laid := [("unicode/utf8.acceptRanges", laid_unicode_utf8_acceptRanges), ("unicode/utf8.first", laid_unicode_utf8_first)], narrowed := true }
def GlyphWriteUptoSaid : Prop := glyphWriteUptoRow.holds Tryd.pinned (OpenSpec.upto glyphWriteSpec)

/-- 'sterilizerlaw05.GlyphCut', WHERE WHAT IT READS IS OF BULK AT MOST 1048576: true; the input reads as it did. -/
def glyphCutUptoRow : OpenClaim := { program := "ytfaomcaimppmeaadoor", sum := "75f0cf1688c287677e25d34d3400d7b25fa089222bb4f21fc83172c03c728369", func := "sterilizer/sterilizerlaw05.GlyphCut", spec := "glyphCut", unfollowed := true, recurses := true, named := ["unicode/utf8.first", "unicode/utf8.acceptRanges"], apart := false, laid := [("unicode/utf8.acceptRanges", laid_unicode_utf8_acceptRanges), ("unicode/utf8.first", laid_unicode_utf8_first)], narrowed := true }
def GlyphCutUptoSaid : Prop := glyphCutUptoRow.holds Tryd.pinned (OpenSpec.upto glyphCutSpec)

/-- 'sterilizerlaw05.GlyphRead', WHERE WHAT IT READS IS OF BULK AT MOST 1048576: true; the input reads as it did. -/
def glyphReadUptoRow : OpenClaim := { program := "ytfaomcaimppmeaadoor", sum := "75f0cf1688c287677e25d34d3400d7b25fa089222bb4f21fc83172c03c728369", func := "sterilizer/sterilizerlaw05.GlyphRead", spec := "glyphRead", unfollowed := true, recurses := true, named := ["unicode/utf8.first", "unicode/utf8.acceptRanges"], apart := false, laid := [("unicode/utf8.acceptRanges", laid_unicode_utf8_acceptRanges), ("unicode/utf8.first", laid_unicode_utf8_first)], narrowed := true }
def GlyphReadUptoSaid : Prop := glyphReadUptoRow.holds Tryd.pinned (OpenSpec.upto glyphReadSpec)

/-- 'sterilizerlaw05.GlyphBack', WHERE WHAT IT READS IS OF BULK AT MOST 1048576: true; the input reads as it did. -/
def glyphBackUptoRow : OpenClaim := { program := "ytfaomcaimppmeaadoor", sum := "75f0cf1688c287677e25d34d3400d7b25fa089222bb4f21fc83172c03c728369", func := "sterilizer/sterilizerlaw05.GlyphBack", spec := "glyphBack", unfollowed := true, recurses := true, named := ["unicode/utf8.first", "unicode/utf8.acceptRanges"], apart := false, laid := [("unicode/utf8.acceptRanges", laid_unicode_utf8_acceptRanges), ("unicode/utf8.first", laid_unicode_utf8_first)], narrowed := true }
def GlyphBackUptoSaid : Prop := glyphBackUptoRow.holds Tryd.pinned (OpenSpec.upto glyphBackSpec)

end Rows
end Go.Proofs.YtfaomcaimppmeaaDoor
