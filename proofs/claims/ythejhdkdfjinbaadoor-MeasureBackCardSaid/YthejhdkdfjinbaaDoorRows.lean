/-
  NARROWER THAN 'FOR EVERY INPUT', by the rows' own cells (each row's printed sentence says how): MeasureSpends: laid · MeasureSums: laid · MeasureBursts: laid · MeasureLinear: laid · MeasureOneByte: laid · MeasureReads: laid · MeasureBack: laid · MeasureWords: laid · MeasureNumbers: laid.
  DERIVED. THE GIVEN ROWS OF THIS SEAT. 9 by the template 'for every input the law returns true; each argument reads behind the call as it read before'; 0 by the template 'total and deterministic' (their statements: YthejhdkdfjinbaaDoorTotals.lean).
  GIVEN WITH THE SEED: the statements are not yours to turn. If you find one false, say at which input.
  Laid BY PROGRAM, IN A SANDBOX (cutbox-rows.mjs): the forced cells as the released guide's own fill.sh prints them over the translation ebd6a8a36055b1ef… (all of the seat's roots in one cut). By AI agents, Wed Nov 11 2026. No macro, syntax, notation, axiom, sorry.
-/
import Derived.Test.YthejhdkdfjinbaaDoorChecked
import GoSem.Claim
import GoSem.ClaimJoined
import GoSem.ClaimMapViews
import Derived.JoinedTies
import Derived.KernelRfl
namespace Go.Proofs.YthejhdkdfjinbaaDoor
/- THE CELL 'sum', in the pinned program and in every row, IS THE sha256 OF THE DUMP (.gsa) THAT YthejhdkdfjinbaaDoorProg.lean LOADS. Nothing in Lean hashes anything: it is a label: what it is worth is what the hold of that sum in a sandbox is worth. -/
noncomputable def Tryd.pinned : Pinned := { name := "ythejhdkdfjinbaadoor", sum := "ebd6a8a36055b1ef6911f3d648cee06ef4604d249d72c15a3cb59e5858646de1", checked := Tryd.checked }
namespace Rows
def none {H : Type} : Left H := { results := [], args := [] }

/- WHAT THE LISTED PACKAGE-LEVEL VARIABLES READ AS WHEN THE CALL BEGINS. Each datum BY PROGRAM (the guide's laid-datum.mjs) off the statement by which the dump's own 'gosem.cut.vars' lays the variable. In a bare row this is a premise. The card (YthejhdkdfjinbaaDoorCards.lean) ties it to the program's text. -/
def laid_math_bits_deBruijn32tab {H : Type} : DataW H := .agg [.lit (.int .u8 0), .lit (.int .u8 1), .lit (.int .u8 28), .lit (.int .u8 2), .lit (.int .u8 29), .lit (.int .u8 14), .lit (.int .u8 24), .lit (.int .u8 3), .lit (.int .u8 30), .lit (.int .u8 22), .lit (.int .u8 20), .lit (.int .u8 15), .lit (.int .u8 25), .lit (.int .u8 17), .lit (.int .u8 4), .lit (.int .u8 8), .lit (.int .u8 31), .lit (.int .u8 27), .lit (.int .u8 13), .lit (.int .u8 23), .lit (.int .u8 21), .lit (.int .u8 19), .lit (.int .u8 16), .lit (.int .u8 7), .lit (.int .u8 26), .lit (.int .u8 12), .lit (.int .u8 18), .lit (.int .u8 6), .lit (.int .u8 11), .lit (.int .u8 5), .lit (.int .u8 10), .lit (.int .u8 9)]
def laid_math_bits_deBruijn64tab {H : Type} : DataW H := .agg [.lit (.int .u8 0), .lit (.int .u8 1), .lit (.int .u8 56), .lit (.int .u8 2), .lit (.int .u8 57), .lit (.int .u8 49), .lit (.int .u8 28), .lit (.int .u8 3), .lit (.int .u8 61), .lit (.int .u8 58), .lit (.int .u8 42), .lit (.int .u8 50), .lit (.int .u8 38), .lit (.int .u8 29), .lit (.int .u8 17), .lit (.int .u8 4), .lit (.int .u8 62), .lit (.int .u8 47), .lit (.int .u8 59), .lit (.int .u8 36), .lit (.int .u8 45), .lit (.int .u8 43), .lit (.int .u8 51), .lit (.int .u8 22), .lit (.int .u8 53), .lit (.int .u8 39), .lit (.int .u8 33), .lit (.int .u8 30), .lit (.int .u8 24), .lit (.int .u8 18), .lit (.int .u8 12), .lit (.int .u8 5), .lit (.int .u8 63), .lit (.int .u8 55), .lit (.int .u8 48), .lit (.int .u8 27), .lit (.int .u8 60), .lit (.int .u8 41), .lit (.int .u8 37), .lit (.int .u8 16), .lit (.int .u8 46), .lit (.int .u8 35), .lit (.int .u8 44), .lit (.int .u8 21), .lit (.int .u8 52), .lit (.int .u8 32), .lit (.int .u8 23), .lit (.int .u8 11), .lit (.int .u8 54), .lit (.int .u8 26), .lit (.int .u8 40), .lit (.int .u8 15), .lit (.int .u8 34), .lit (.int .u8 20), .lit (.int .u8 31), .lit (.int .u8 10), .lit (.int .u8 25), .lit (.int .u8 14), .lit (.int .u8 19), .lit (.int .u8 9), .lit (.int .u8 13), .lit (.int .u8 8), .lit (.int .u8 7), .lit (.int .u8 6)]
def laid_internal_strconv_uint64pow10 {H : Type} : DataW H := .agg [.lit (.int .u64 1), .lit (.int .u64 10), .lit (.int .u64 100), .lit (.int .u64 1000), .lit (.int .u64 10000), .lit (.int .u64 100000), .lit (.int .u64 1000000), .lit (.int .u64 10000000), .lit (.int .u64 100000000), .lit (.int .u64 1000000000), .lit (.int .u64 10000000000), .lit (.int .u64 100000000000), .lit (.int .u64 1000000000000), .lit (.int .u64 10000000000000), .lit (.int .u64 100000000000000), .lit (.int .u64 1000000000000000), .lit (.int .u64 10000000000000000), .lit (.int .u64 100000000000000000), .lit (.int .u64 1000000000000000000), .lit (.int .u64 10000000000000000000)]
def laid_strconv_ErrRange {H : Type} : DataW H := .iface "*errors.errorString" (.ptr (.agg [.lit (.string [118, 97, 108, 117, 101, 32, 111, 117, 116, 32, 111, 102, 32, 114, 97, 110, 103, 101])]))
def laid_strconv_ErrSyntax {H : Type} : DataW H := .iface "*errors.errorString" (.ptr (.agg [.lit (.string [105, 110, 118, 97, 108, 105, 100, 32, 115, 121, 110, 116, 97, 120])]))
def laid_sterilizer_measure_nibbles {H : Type} : DataW H := .agg [.lit (.int .u32 0), .lit (.int .u32 498536548), .lit (.int .u32 997073096), .lit (.int .u32 651767980), .lit (.int .u32 1994146192), .lit (.int .u32 1802195444), .lit (.int .u32 1303535960), .lit (.int .u32 1342533948), .lit (.int .u32 3988292384), .lit (.int .u32 4027552580), .lit (.int .u32 3604390888), .lit (.int .u32 3412177804), .lit (.int .u32 2607071920), .lit (.int .u32 2262029012), .lit (.int .u32 2685067896), .lit (.int .u32 3183342108)]

/-- 'sterilizerlaw01.MeasureSpends': WHATEVER THE INPUT: true; the input reads as it did. -/
def measureSpendsSpec : ChangeSpec := { name := "measureSpends", fn := fun _ => fun
  | [d1, d2, d3, d4, d5] => { results := [.lit (.bool true)], args := [d1, d2, d3, d4, d5] }
  | _ => none }
def measureSpendsRow : OpenClaim := { program := "ythejhdkdfjinbaadoor", sum := "ebd6a8a36055b1ef6911f3d648cee06ef4604d249d72c15a3cb59e5858646de1", func := "sterilizer/sterilizerlaw01.MeasureSpends", spec := "measureSpends", inPlace := ["internal/abi.NoEscape", "internal/bytealg.MakeNoZero", "internal/bytealg.IndexByteString", "internal/bytealg.IndexString"], unfollowed := true, recurses := true, named := ["sterilizer/measure.nibbles", "internal/strconv.uint64pow10", "math/bits.deBruijn32tab", "math/bits.deBruijn64tab", "internal/bytealg.MaxLen", "strconv.ErrSyntax", "strconv.ErrRange"], apart := false, laid := [("math/bits.deBruijn32tab", laid_math_bits_deBruijn32tab), ("math/bits.deBruijn64tab", laid_math_bits_deBruijn64tab), ("internal/strconv.uint64pow10", laid_internal_strconv_uint64pow10), ("strconv.ErrRange", laid_strconv_ErrRange), ("strconv.ErrSyntax", laid_strconv_ErrSyntax), ("sterilizer/measure.nibbles", laid_sterilizer_measure_nibbles)] }
def MeasureSpendsSaid : Prop := measureSpendsRow.holds Tryd.pinned (OpenSpec.ofChange measureSpendsSpec)

/-- ITS FALSE NEIGHBOUR: 'it returns false'. Refute it at one input. -/
def measureSpendsWrong : ChangeSpec := { name := "measureSpends", fn := fun _ => fun
  | [d1, d2, d3, d4, d5] => { results := [.lit (.bool false)], args := [d1, d2, d3, d4, d5] }
  | _ => none }
def MeasureSpendsWrongFalsely : Prop := measureSpendsRow.holds Tryd.pinned (OpenSpec.ofChange measureSpendsWrong)

/-- 'sterilizerlaw01.MeasureSums': WHATEVER THE INPUT: true; the input reads as it did. -/
def measureSumsSpec : ChangeSpec := { name := "measureSums", fn := fun _ => fun
  | [d] => { results := [.lit (.bool true)], args := [d] }
  | _ => none }
def measureSumsRow : OpenClaim := { program := "ythejhdkdfjinbaadoor", sum := "ebd6a8a36055b1ef6911f3d648cee06ef4604d249d72c15a3cb59e5858646de1", func := "sterilizer/sterilizerlaw01.MeasureSums", spec := "measureSums", inPlace := ["internal/abi.NoEscape", "internal/bytealg.MakeNoZero", "internal/bytealg.IndexByteString", "internal/bytealg.IndexString"], unfollowed := true, recurses := true, named := ["sterilizer/measure.nibbles", "internal/strconv.uint64pow10", "math/bits.deBruijn32tab", "math/bits.deBruijn64tab", "internal/bytealg.MaxLen", "strconv.ErrSyntax", "strconv.ErrRange"], apart := false, laid := [("math/bits.deBruijn32tab", laid_math_bits_deBruijn32tab), ("math/bits.deBruijn64tab", laid_math_bits_deBruijn64tab), ("internal/strconv.uint64pow10", laid_internal_strconv_uint64pow10), ("strconv.ErrRange", laid_strconv_ErrRange), ("strconv.ErrSyntax", laid_strconv_ErrSyntax), ("sterilizer/measure.nibbles", laid_sterilizer_measure_nibbles)] }
def MeasureSumsSaid : Prop := measureSumsRow.holds Tryd.pinned (OpenSpec.ofChange measureSumsSpec)

/-- ITS FALSE NEIGHBOUR: 'it returns false'. Refute it at one input. -/
def measureSumsWrong : ChangeSpec := { name := "measureSums", fn := fun _ => fun
  | [d] => { results := [.lit (.bool false)], args := [d] }
  | _ => none }
def MeasureSumsWrongFalsely : Prop := measureSumsRow.holds Tryd.pinned (OpenSpec.ofChange measureSumsWrong)

/-- 'sterilizerlaw01.MeasureBursts': WHATEVER THE INPUT: true; the input reads as it did. -/
def measureBurstsSpec : ChangeSpec := { name := "measureBursts", fn := fun _ => fun
  | [d1, d2, d3] => { results := [.lit (.bool true)], args := [d1, d2, d3] }
  | _ => none }
def measureBurstsRow : OpenClaim := { program := "ythejhdkdfjinbaadoor", sum := "ebd6a8a36055b1ef6911f3d648cee06ef4604d249d72c15a3cb59e5858646de1", func := "sterilizer/sterilizerlaw01.MeasureBursts", spec := "measureBursts", inPlace := ["internal/abi.NoEscape", "internal/bytealg.MakeNoZero", "internal/bytealg.IndexByteString", "internal/bytealg.IndexString"], unfollowed := true, recurses := true, named := ["sterilizer/measure.nibbles", "internal/strconv.uint64pow10", "math/bits.deBruijn32tab", "math/bits.deBruijn64tab", "internal/bytealg.MaxLen", "strconv.ErrSyntax", "strconv.ErrRange"], apart := false, laid := [("math/bits.deBruijn32tab", laid_math_bits_deBruijn32tab), ("math/bits.deBruijn64tab", laid_math_bits_deBruijn64tab), ("internal/strconv.uint64pow10", laid_internal_strconv_uint64pow10), ("strconv.ErrRange", laid_strconv_ErrRange), ("strconv.ErrSyntax", laid_strconv_ErrSyntax), ("sterilizer/measure.nibbles", laid_sterilizer_measure_nibbles)] }
def MeasureBurstsSaid : Prop := measureBurstsRow.holds Tryd.pinned (OpenSpec.ofChange measureBurstsSpec)

/-- ITS FALSE NEIGHBOUR: 'it returns false'. Refute it at one input. -/
def measureBurstsWrong : ChangeSpec := { name := "measureBursts", fn := fun _ => fun
  | [d1, d2, d3] => { results := [.lit (.bool false)], args := [d1, d2, d3] }
  | _ => none }
def MeasureBurstsWrongFalsely : Prop := measureBurstsRow.holds Tryd.pinned (OpenSpec.ofChange measureBurstsWrong)

/-- 'sterilizerlaw01.MeasureLinear': WHATEVER THE INPUT: true; the input reads as it did. -/
def measureLinearSpec : ChangeSpec := { name := "measureLinear", fn := fun _ => fun
  | [d1, d2, d3] => { results := [.lit (.bool true)], args := [d1, d2, d3] }
  | _ => none }
def measureLinearRow : OpenClaim := { program := "ythejhdkdfjinbaadoor", sum := "ebd6a8a36055b1ef6911f3d648cee06ef4604d249d72c15a3cb59e5858646de1", func := "sterilizer/sterilizerlaw01.MeasureLinear", spec := "measureLinear", inPlace := ["internal/abi.NoEscape", "internal/bytealg.MakeNoZero", "internal/bytealg.IndexByteString", "internal/bytealg.IndexString"], unfollowed := true, recurses := true, named := ["sterilizer/measure.nibbles", "internal/strconv.uint64pow10", "math/bits.deBruijn32tab", "math/bits.deBruijn64tab", "internal/bytealg.MaxLen", "strconv.ErrSyntax", "strconv.ErrRange"], apart := false, laid := [("math/bits.deBruijn32tab", laid_math_bits_deBruijn32tab), ("math/bits.deBruijn64tab", laid_math_bits_deBruijn64tab), ("internal/strconv.uint64pow10", laid_internal_strconv_uint64pow10), ("strconv.ErrRange", laid_strconv_ErrRange), ("strconv.ErrSyntax", laid_strconv_ErrSyntax), ("sterilizer/measure.nibbles", laid_sterilizer_measure_nibbles)] }
def MeasureLinearSaid : Prop := measureLinearRow.holds Tryd.pinned (OpenSpec.ofChange measureLinearSpec)

/-- ITS FALSE NEIGHBOUR: 'it returns false'. Refute it at one input. -/
def measureLinearWrong : ChangeSpec := { name := "measureLinear", fn := fun _ => fun
  | [d1, d2, d3] => { results := [.lit (.bool false)], args := [d1, d2, d3] }
  | _ => none }
def MeasureLinearWrongFalsely : Prop := measureLinearRow.holds Tryd.pinned (OpenSpec.ofChange measureLinearWrong)

/-- 'sterilizerlaw01.MeasureOneByte': WHATEVER THE INPUT: true; the input reads as it did. -/
def measureOneByteSpec : ChangeSpec := { name := "measureOneByte", fn := fun _ => fun
  | [d1, d2, d3] => { results := [.lit (.bool true)], args := [d1, d2, d3] }
  | _ => none }
def measureOneByteRow : OpenClaim := { program := "ythejhdkdfjinbaadoor", sum := "ebd6a8a36055b1ef6911f3d648cee06ef4604d249d72c15a3cb59e5858646de1", func := "sterilizer/sterilizerlaw01.MeasureOneByte", spec := "measureOneByte", inPlace := ["internal/abi.NoEscape", "internal/bytealg.MakeNoZero", "internal/bytealg.IndexByteString", "internal/bytealg.IndexString"], unfollowed := true, recurses := true, named := ["sterilizer/measure.nibbles", "internal/strconv.uint64pow10", "math/bits.deBruijn32tab", "math/bits.deBruijn64tab", "internal/bytealg.MaxLen", "strconv.ErrSyntax", "strconv.ErrRange"], apart := false, laid := [("math/bits.deBruijn32tab", laid_math_bits_deBruijn32tab), ("math/bits.deBruijn64tab", laid_math_bits_deBruijn64tab), ("internal/strconv.uint64pow10", laid_internal_strconv_uint64pow10), ("strconv.ErrRange", laid_strconv_ErrRange), ("strconv.ErrSyntax", laid_strconv_ErrSyntax), ("sterilizer/measure.nibbles", laid_sterilizer_measure_nibbles)] }
def MeasureOneByteSaid : Prop := measureOneByteRow.holds Tryd.pinned (OpenSpec.ofChange measureOneByteSpec)

/-- ITS FALSE NEIGHBOUR: 'it returns false'. Refute it at one input. -/
def measureOneByteWrong : ChangeSpec := { name := "measureOneByte", fn := fun _ => fun
  | [d1, d2, d3] => { results := [.lit (.bool false)], args := [d1, d2, d3] }
  | _ => none }
def MeasureOneByteWrongFalsely : Prop := measureOneByteRow.holds Tryd.pinned (OpenSpec.ofChange measureOneByteWrong)

/-- 'sterilizerlaw01.MeasureReads': WHATEVER THE INPUT: true; the input reads as it did. -/
def measureReadsSpec : ChangeSpec := { name := "measureReads", fn := fun _ => fun
  | [d1, d2] => { results := [.lit (.bool true)], args := [d1, d2] }
  | _ => none }
def measureReadsRow : OpenClaim := { program := "ythejhdkdfjinbaadoor", sum := "ebd6a8a36055b1ef6911f3d648cee06ef4604d249d72c15a3cb59e5858646de1", func := "sterilizer/sterilizerlaw01.MeasureReads", spec := "measureReads", inPlace := ["internal/abi.NoEscape", "internal/bytealg.MakeNoZero", "internal/bytealg.IndexByteString", "internal/bytealg.IndexString"], unfollowed := true, recurses := true, named := ["sterilizer/measure.nibbles", "internal/strconv.uint64pow10", "math/bits.deBruijn32tab", "math/bits.deBruijn64tab", "internal/bytealg.MaxLen", "strconv.ErrSyntax", "strconv.ErrRange"], apart := false, laid := [("math/bits.deBruijn32tab", laid_math_bits_deBruijn32tab), ("math/bits.deBruijn64tab", laid_math_bits_deBruijn64tab), ("internal/strconv.uint64pow10", laid_internal_strconv_uint64pow10), ("strconv.ErrRange", laid_strconv_ErrRange), ("strconv.ErrSyntax", laid_strconv_ErrSyntax), ("sterilizer/measure.nibbles", laid_sterilizer_measure_nibbles)] }
def MeasureReadsSaid : Prop := measureReadsRow.holds Tryd.pinned (OpenSpec.ofChange measureReadsSpec)

/-- ITS FALSE NEIGHBOUR: 'it returns false'. Refute it at one input. -/
def measureReadsWrong : ChangeSpec := { name := "measureReads", fn := fun _ => fun
  | [d1, d2] => { results := [.lit (.bool false)], args := [d1, d2] }
  | _ => none }
def MeasureReadsWrongFalsely : Prop := measureReadsRow.holds Tryd.pinned (OpenSpec.ofChange measureReadsWrong)

/-- 'sterilizerlaw01.MeasureBack': WHATEVER THE INPUT: true; the input reads as it did. -/
def measureBackSpec : ChangeSpec := { name := "measureBack", fn := fun _ => fun
  | [d1, d2] => { results := [.lit (.bool true)], args := [d1, d2] }
  | _ => none }
def measureBackRow : OpenClaim := { program := "ythejhdkdfjinbaadoor", sum := "ebd6a8a36055b1ef6911f3d648cee06ef4604d249d72c15a3cb59e5858646de1", func := "sterilizer/sterilizerlaw01.MeasureBack", spec := "measureBack", inPlace := ["internal/abi.NoEscape", "internal/bytealg.MakeNoZero", "internal/bytealg.IndexByteString", "internal/bytealg.IndexString"], unfollowed := true, recurses := true, named := ["sterilizer/measure.nibbles", "internal/strconv.uint64pow10", "math/bits.deBruijn32tab", "math/bits.deBruijn64tab", "internal/bytealg.MaxLen", "strconv.ErrSyntax", "strconv.ErrRange"], apart := false, laid := [("math/bits.deBruijn32tab", laid_math_bits_deBruijn32tab), ("math/bits.deBruijn64tab", laid_math_bits_deBruijn64tab), ("internal/strconv.uint64pow10", laid_internal_strconv_uint64pow10), ("strconv.ErrRange", laid_strconv_ErrRange), ("strconv.ErrSyntax", laid_strconv_ErrSyntax), ("sterilizer/measure.nibbles", laid_sterilizer_measure_nibbles)] }
def MeasureBackSaid : Prop := measureBackRow.holds Tryd.pinned (OpenSpec.ofChange measureBackSpec)

/-- ITS FALSE NEIGHBOUR: 'it returns false'. Refute it at one input. -/
def measureBackWrong : ChangeSpec := { name := "measureBack", fn := fun _ => fun
  | [d1, d2] => { results := [.lit (.bool false)], args := [d1, d2] }
  | _ => none }
def MeasureBackWrongFalsely : Prop := measureBackRow.holds Tryd.pinned (OpenSpec.ofChange measureBackWrong)

/-- 'sterilizerlaw01.MeasureWords': WHATEVER THE INPUT: true; the input reads as it did. -/
def measureWordsSpec : ChangeSpec := { name := "measureWords", fn := fun _ => fun
  | [d] => { results := [.lit (.bool true)], args := [d] }
  | _ => none }
def measureWordsRow : OpenClaim := { program := "ythejhdkdfjinbaadoor", sum := "ebd6a8a36055b1ef6911f3d648cee06ef4604d249d72c15a3cb59e5858646de1", func := "sterilizer/sterilizerlaw01.MeasureWords", spec := "measureWords", inPlace := ["internal/abi.NoEscape", "internal/bytealg.MakeNoZero", "internal/bytealg.IndexByteString", "internal/bytealg.IndexString"], unfollowed := true, recurses := true, named := ["sterilizer/measure.nibbles", "internal/strconv.uint64pow10", "math/bits.deBruijn32tab", "math/bits.deBruijn64tab", "internal/bytealg.MaxLen", "strconv.ErrSyntax", "strconv.ErrRange"], apart := false, laid := [("math/bits.deBruijn32tab", laid_math_bits_deBruijn32tab), ("math/bits.deBruijn64tab", laid_math_bits_deBruijn64tab), ("internal/strconv.uint64pow10", laid_internal_strconv_uint64pow10), ("strconv.ErrRange", laid_strconv_ErrRange), ("strconv.ErrSyntax", laid_strconv_ErrSyntax), ("sterilizer/measure.nibbles", laid_sterilizer_measure_nibbles)] }
def MeasureWordsSaid : Prop := measureWordsRow.holds Tryd.pinned (OpenSpec.ofChange measureWordsSpec)

/-- ITS FALSE NEIGHBOUR: 'it returns false'. Refute it at one input. -/
def measureWordsWrong : ChangeSpec := { name := "measureWords", fn := fun _ => fun
  | [d] => { results := [.lit (.bool false)], args := [d] }
  | _ => none }
def MeasureWordsWrongFalsely : Prop := measureWordsRow.holds Tryd.pinned (OpenSpec.ofChange measureWordsWrong)

/-- 'sterilizerlaw01.MeasureNumbers': WHATEVER THE INPUT: true; the input reads as it did. -/
def measureNumbersSpec : ChangeSpec := { name := "measureNumbers", fn := fun _ => fun
  | [d1, d2] => { results := [.lit (.bool true)], args := [d1, d2] }
  | _ => none }
def measureNumbersRow : OpenClaim := { program := "ythejhdkdfjinbaadoor", sum := "ebd6a8a36055b1ef6911f3d648cee06ef4604d249d72c15a3cb59e5858646de1", func := "sterilizer/sterilizerlaw01.MeasureNumbers", spec := "measureNumbers", inPlace := ["internal/abi.NoEscape", "internal/bytealg.MakeNoZero", "internal/bytealg.IndexByteString", "internal/bytealg.IndexString"], unfollowed := true, recurses := true, named := ["sterilizer/measure.nibbles", "internal/strconv.uint64pow10", "math/bits.deBruijn32tab", "math/bits.deBruijn64tab", "internal/bytealg.MaxLen", "strconv.ErrSyntax", "strconv.ErrRange"], apart := false, laid := [("math/bits.deBruijn32tab", laid_math_bits_deBruijn32tab), ("math/bits.deBruijn64tab", laid_math_bits_deBruijn64tab), ("internal/strconv.uint64pow10", laid_internal_strconv_uint64pow10), ("strconv.ErrRange", laid_strconv_ErrRange), ("strconv.ErrSyntax", laid_strconv_ErrSyntax), ("sterilizer/measure.nibbles", laid_sterilizer_measure_nibbles)] }
def MeasureNumbersSaid : Prop := measureNumbersRow.holds Tryd.pinned (OpenSpec.ofChange measureNumbersSpec)

/-- ITS FALSE NEIGHBOUR: 'it returns false'. Refute it at one input. -/
def measureNumbersWrong : ChangeSpec := { name := "measureNumbers", fn := fun _ => fun
  | [d1, d2] => { results := [.lit (.bool false)], args := [d1, d2] }
  | _ => none }
def MeasureNumbersWrongFalsely : Prop := measureNumbersRow.holds Tryd.pinned (OpenSpec.ofChange measureNumbersWrong)

/- THE SECOND FORM. 'bulk': how many values and letters a reading holds, each counted each time it is reached (what is shared counts as often as it is met; a slice's spare places count too). A statement '..UptoSaid' is the law's where the arguments, and the package variables that the reading takes, are together of bulk at most 1048576: NARROWER than '..Said'. Prove '..Said' where nothing that the law and all that it calls make is longer than what came in: it says more and counts as full. Else prove '..UptoSaid'. A law counts once. -/
mutual
def uptoBulk {H : Type} : DataW H → Nat
  | .lit (.string bytes) => bytes.length + 1
  | .lit _ => 1
  | .nil => 1
  | .ptr d => uptoBulk d + 1
  | .slice elems spare => uptoBulkAll elems + uptoBulkAll spare + 1
  | .agg parts => uptoBulkAll parts + 1
  | .iface _ d => uptoBulk d + 1
  | .map entries => uptoBulkEntries entries + 1
  | .held _ => 1
def uptoBulkAll {H : Type} : List (DataW H) → Nat
  | [] => 0
  | d :: r => uptoBulk d + uptoBulkAll r
def uptoBulkEntries {H : Type} : List (Lit × DataW H) → Nat
  | [] => 0
  | x :: r => uptoBulkEntry x + uptoBulkEntries r
def uptoBulkEntry {H : Type} : Lit × DataW H → Nat
  | (.string bytes, d) => bytes.length + uptoBulk d + 1
  | (_, d) => uptoBulk d + 1
 end
def uptoSmall : (H : Type) → List (DataW H) → Bool := fun _ ds => decide (uptoBulkAll ds ≤ 1048576)
def OpenSpec.upto (s : _root_.Go.ChangeSpec) : _root_.Go.OpenSpec := { _root_.Go.OpenSpec.ofChange s with cond := some uptoSmall }

/-- 'sterilizerlaw01.MeasureSpends', WHERE WHAT IT READS IS OF BULK AT MOST 1048576: true; the input reads as it did. -/
def measureSpendsUptoRow : OpenClaim := { program := "ythejhdkdfjinbaadoor", sum := "ebd6a8a36055b1ef6911f3d648cee06ef4604d249d72c15a3cb59e5858646de1", func := "sterilizer/sterilizerlaw01.MeasureSpends", spec := "measureSpends", inPlace := ["internal/abi.NoEscape", "internal/bytealg.MakeNoZero", "internal/bytealg.IndexByteString", "internal/bytealg.IndexString"], unfollowed := true, recurses := true, named := ["sterilizer/measure.nibbles", "internal/strconv.uint64pow10", "math/bits.deBruijn32tab", "math/bits.deBruijn64tab", "internal/bytealg.MaxLen", "strconv.ErrSyntax", "strconv.ErrRange"], apart := false, laid := [("math/bits.deBruijn32tab", laid_math_bits_deBruijn32tab), ("math/bits.deBruijn64tab", laid_math_bits_deBruijn64tab), ("internal/strconv.uint64pow10", laid_internal_strconv_uint64pow10), ("strconv.ErrRange", laid_strconv_ErrRange), ("strconv.ErrSyntax", laid_strconv_ErrSyntax), ("sterilizer/measure.nibbles", laid_sterilizer_measure_nibbles)], narrowed := true }
def MeasureSpendsUptoSaid : Prop := measureSpendsUptoRow.holds Tryd.pinned (OpenSpec.upto measureSpendsSpec)

/-- 'sterilizerlaw01.MeasureSums', WHERE WHAT IT READS IS OF BULK AT MOST 1048576: true; the input reads as it did. -/
def measureSumsUptoRow : OpenClaim := { program := "ythejhdkdfjinbaadoor", sum := "ebd6a8a36055b1ef6911f3d648cee06ef4604d249d72c15a3cb59e5858646de1", func := "sterilizer/sterilizerlaw01.MeasureSums", spec := "measureSums", inPlace := ["internal/abi.NoEscape", "internal/bytealg.MakeNoZero", "internal/bytealg.IndexByteString", "internal/bytealg.IndexString"], unfollowed := true, recurses := true, named := ["sterilizer/measure.nibbles", "internal/strconv.uint64pow10", "math/bits.deBruijn32tab", "math/bits.deBruijn64tab", "internal/bytealg.MaxLen", "strconv.ErrSyntax", "strconv.ErrRange"], apart := false, laid := [("math/bits.deBruijn32tab", laid_math_bits_deBruijn32tab), ("math/bits.deBruijn64tab", laid_math_bits_deBruijn64tab), ("internal/strconv.uint64pow10", laid_internal_strconv_uint64pow10), ("strconv.ErrRange", laid_strconv_ErrRange), ("strconv.ErrSyntax", laid_strconv_ErrSyntax), ("sterilizer/measure.nibbles", laid_sterilizer_measure_nibbles)], narrowed := true }
def MeasureSumsUptoSaid : Prop := measureSumsUptoRow.holds Tryd.pinned (OpenSpec.upto measureSumsSpec)

/-- 'sterilizerlaw01.MeasureBursts', WHERE WHAT IT READS IS OF BULK AT MOST 1048576: true; the input reads as it did. -/
def measureBurstsUptoRow : OpenClaim := { program := "ythejhdkdfjinbaadoor", sum := "ebd6a8a36055b1ef6911f3d648cee06ef4604d249d72c15a3cb59e5858646de1", func := "sterilizer/sterilizerlaw01.MeasureBursts", spec := "measureBursts", inPlace := ["internal/abi.NoEscape", "internal/bytealg.MakeNoZero", "internal/bytealg.IndexByteString", "internal/bytealg.IndexString"], unfollowed := true, recurses := true, named := ["sterilizer/measure.nibbles", "internal/strconv.uint64pow10", "math/bits.deBruijn32tab", "math/bits.deBruijn64tab", "internal/bytealg.MaxLen", "strconv.ErrSyntax", "strconv.ErrRange"], apart := false, laid := [("math/bits.deBruijn32tab", laid_math_bits_deBruijn32tab), ("math/bits.deBruijn64tab", laid_math_bits_deBruijn64tab), ("internal/strconv.uint64pow10", laid_internal_strconv_uint64pow10), ("strconv.ErrRange", laid_strconv_ErrRange), ("strconv.ErrSyntax", laid_strconv_ErrSyntax), ("sterilizer/measure.nibbles", laid_sterilizer_measure_nibbles)], narrowed := true }
def MeasureBurstsUptoSaid : Prop := measureBurstsUptoRow.holds Tryd.pinned (OpenSpec.upto measureBurstsSpec)

/-- 'sterilizerlaw01.MeasureLinear', WHERE WHAT IT READS IS OF BULK AT MOST 1048576: true; the input reads as it did. -/
def measureLinearUptoRow : OpenClaim := { program := "ythejhdkdfjinbaadoor", sum := "ebd6a8a36055b1ef6911f3d648cee06ef4604d249d72c15a3cb59e5858646de1", func := "sterilizer/sterilizerlaw01.MeasureLinear", spec := "measureLinear", inPlace := ["internal/abi.NoEscape", "internal/bytealg.MakeNoZero", "internal/bytealg.IndexByteString", "internal/bytealg.IndexString"], unfollowed := true, recurses := true, named := ["sterilizer/measure.nibbles", "internal/strconv.uint64pow10", "math/bits.deBruijn32tab", "math/bits.deBruijn64tab", "internal/bytealg.MaxLen", "strconv.ErrSyntax", "strconv.ErrRange"], apart := false, laid := [("math/bits.deBruijn32tab", laid_math_bits_deBruijn32tab), ("math/bits.deBruijn64tab", laid_math_bits_deBruijn64tab), ("internal/strconv.uint64pow10", laid_internal_strconv_uint64pow10), ("strconv.ErrRange", laid_strconv_ErrRange), ("strconv.ErrSyntax", laid_strconv_ErrSyntax), ("sterilizer/measure.nibbles", laid_sterilizer_measure_nibbles)], narrowed := true }
def MeasureLinearUptoSaid : Prop := measureLinearUptoRow.holds Tryd.pinned (OpenSpec.upto measureLinearSpec)

/-- 'sterilizerlaw01.MeasureOneByte', WHERE WHAT IT READS IS OF BULK AT MOST 1048576: true; the input reads as it did. -/
def measureOneByteUptoRow : OpenClaim := { program := "ythejhdkdfjinbaadoor", sum := "ebd6a8a36055b1ef6911f3d648cee06ef4604d249d72c15a3cb59e5858646de1", func := "sterilizer/sterilizerlaw01.MeasureOneByte", spec := "measureOneByte", inPlace := ["internal/abi.NoEscape", "internal/bytealg.MakeNoZero", "internal/bytealg.IndexByteString", "internal/bytealg.IndexString"], unfollowed := true, recurses := true, named := ["sterilizer/measure.nibbles", "internal/strconv.uint64pow10", "math/bits.deBruijn32tab", "math/bits.deBruijn64tab", "internal/bytealg.MaxLen", "strconv.ErrSyntax", "strconv.ErrRange"], apart := false, laid := [("math/bits.deBruijn32tab", laid_math_bits_deBruijn32tab), ("math/bits.deBruijn64tab", laid_math_bits_deBruijn64tab), ("internal/strconv.uint64pow10", laid_internal_strconv_uint64pow10), ("strconv.ErrRange", laid_strconv_ErrRange), ("strconv.ErrSyntax", laid_strconv_ErrSyntax), ("sterilizer/measure.nibbles", laid_sterilizer_measure_nibbles)], narrowed := true }
def MeasureOneByteUptoSaid : Prop := measureOneByteUptoRow.holds Tryd.pinned (OpenSpec.upto measureOneByteSpec)

/-- 'sterilizerlaw01.MeasureReads', WHERE WHAT IT READS IS OF BULK AT MOST 1048576: true; the input reads as it did. -/
def measureReadsUptoRow : OpenClaim := { program := "ythejhdkdfjinbaadoor", sum := "ebd6a8a36055b1ef6911f3d648cee06ef4604d249d72c15a3cb59e5858646de1", func := "sterilizer/sterilizerlaw01.MeasureReads", spec := "measureReads", inPlace := ["internal/abi.NoEscape", "internal/bytealg.MakeNoZero", "internal/bytealg.IndexByteString", "internal/bytealg.IndexString"], unfollowed := true, recurses := true, named := ["sterilizer/measure.nibbles", "internal/strconv.uint64pow10", "math/bits.deBruijn32tab", "math/bits.deBruijn64tab", "internal/bytealg.MaxLen", "strconv.ErrSyntax", "strconv.ErrRange"], apart := false, laid := [("math/bits.deBruijn32tab", laid_math_bits_deBruijn32tab), ("math/bits.deBruijn64tab", laid_math_bits_deBruijn64tab), ("internal/strconv.uint64pow10", laid_internal_strconv_uint64pow10), ("strconv.ErrRange", laid_strconv_ErrRange), ("strconv.ErrSyntax", laid_strconv_ErrSyntax), ("sterilizer/measure.nibbles", laid_sterilizer_measure_nibbles)], narrowed := true }
def MeasureReadsUptoSaid : Prop := measureReadsUptoRow.holds Tryd.pinned (OpenSpec.upto measureReadsSpec)

/-- 'sterilizerlaw01.MeasureBack', WHERE WHAT IT READS IS OF BULK AT MOST 1048576: true; the input reads as it did. -/
def measureBackUptoRow : OpenClaim := { program := "ythejhdkdfjinbaadoor", sum := "ebd6a8a36055b1ef6911f3d648cee06ef4604d249d72c15a3cb59e5858646de1", func := "sterilizer/sterilizerlaw01.MeasureBack", spec := "measureBack", inPlace := ["internal/abi.NoEscape", "internal/bytealg.MakeNoZero", "internal/bytealg.IndexByteString", "internal/bytealg.IndexString"], unfollowed := true, recurses := true, named := ["sterilizer/measure.nibbles", "internal/strconv.uint64pow10", "math/bits.deBruijn32tab", "math/bits.deBruijn64tab", "internal/bytealg.MaxLen", "strconv.ErrSyntax", "strconv.ErrRange"], apart := false, laid := [("math/bits.deBruijn32tab", laid_math_bits_deBruijn32tab), ("math/bits.deBruijn64tab", laid_math_bits_deBruijn64tab), ("internal/strconv.uint64pow10", laid_internal_strconv_uint64pow10), ("strconv.ErrRange", laid_strconv_ErrRange), ("strconv.ErrSyntax", laid_strconv_ErrSyntax), ("sterilizer/measure.nibbles", laid_sterilizer_measure_nibbles)], narrowed := true }
def MeasureBackUptoSaid : Prop := measureBackUptoRow.holds Tryd.pinned (OpenSpec.upto measureBackSpec)

/-- 'sterilizerlaw01.MeasureWords', WHERE WHAT IT READS IS OF BULK AT MOST 1048576: true; the input reads as it did. -/
def measureWordsUptoRow : OpenClaim := { program := "ythejhdkdfjinbaadoor", sum := "ebd6a8a36055b1ef6911f3d648cee06ef4604d249d72c15a3cb59e5858646de1", func := "sterilizer/sterilizerlaw01.MeasureWords", spec := "measureWords", inPlace := ["internal/abi.NoEscape", "internal/bytealg.MakeNoZero", "internal/bytealg.IndexByteString", "internal/bytealg.IndexString"], unfollowed := true, recurses := true, named := ["sterilizer/measure.nibbles", "internal/strconv.uint64pow10", "math/bits.deBruijn32tab", "math/bits.deBruijn64tab", "internal/bytealg.MaxLen", "strconv.ErrSyntax", "strconv.ErrRange"], apart := false, laid := [("math/bits.deBruijn32tab", laid_math_bits_deBruijn32tab), ("math/bits.deBruijn64tab", laid_math_bits_deBruijn64tab), ("internal/strconv.uint64pow10", laid_internal_strconv_uint64pow10), ("strconv.ErrRange", laid_strconv_ErrRange), ("strconv.ErrSyntax", laid_strconv_ErrSyntax), ("sterilizer/measure.nibbles", laid_sterilizer_measure_nibbles)], narrowed := true }
def MeasureWordsUptoSaid : Prop := measureWordsUptoRow.holds Tryd.pinned (OpenSpec.upto measureWordsSpec)

/-- 'sterilizerlaw01.MeasureNumbers', WHERE WHAT IT READS IS OF BULK AT MOST 1048576: true; the input reads as it did. -/
def measureNumbersUptoRow : OpenClaim := { program := "ythejhdkdfjinbaadoor", sum := "ebd6a8a36055b1ef6911f3d648cee06ef4604d249d72c15a3cb59e5858646de1", func := "sterilizer/sterilizerlaw01.MeasureNumbers", spec := "measureNumbers", inPlace := ["internal/abi.NoEscape", "internal/bytealg.MakeNoZero", "internal/bytealg.IndexByteString", "internal/bytealg.IndexString"], unfollowed := true, recurses := true, named := ["sterilizer/measure.nibbles", "internal/strconv.uint64pow10", "math/bits.deBruijn32tab", "math/bits.deBruijn64tab", "internal/bytealg.MaxLen", "strconv.ErrSyntax", "strconv.ErrRange"], apart := false, laid := [("math/bits.deBruijn32tab", laid_math_bits_deBruijn32tab), ("math/bits.deBruijn64tab", laid_math_bits_deBruijn64tab), ("internal/strconv.uint64pow10", laid_internal_strconv_uint64pow10), ("strconv.ErrRange", laid_strconv_ErrRange), ("strconv.ErrSyntax", laid_strconv_ErrSyntax), ("sterilizer/measure.nibbles", laid_sterilizer_measure_nibbles)], narrowed := true }
def MeasureNumbersUptoSaid : Prop := measureNumbersUptoRow.holds Tryd.pinned (OpenSpec.upto measureNumbersSpec)

end Rows
end Go.Proofs.YthejhdkdfjinbaaDoor
