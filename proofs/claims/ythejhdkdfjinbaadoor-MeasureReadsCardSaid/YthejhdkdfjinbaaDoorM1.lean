/-
  What functions of layer 1 and of its reference compute: equations of the abstract run, and plain laws of them.
-/
import Derived.Test.YthejhdkdfjinbaaDoorE2
import Derived.Test.YthejhdkdfjinbaaDoorMaX
set_option linter.unusedVariables false
set_option linter.unusedSimpArgs false
set_option linter.unnecessarySimpa false
set_option linter.unusedSectionVars false
namespace Go.Vai
/-! The chapter's examples. -/
def W (e3 e4 : Value) : Env := { G := Gm e3 e4, T := Tm, E := Em }
variable {e3 e4 : Value}
theorem W_T : (W e3 e4).T = Tm := rfl
theorem W_E : (W e3 e4).E = Em := rfl
theorem cl_crc : (W e3 e4).run 17 [bs [49, 50, 51, 52, 53, 54, 55, 56, 57]] [] = some (i64 3421780262, []) := (W e3 e4).run_some.2 ⟨60, by kernel_rfl⟩
theorem cl_digest : (W e3 e4).run 19 [bs [97]] [] = some (bs [97, 102, 54, 51, 100, 99, 52, 99, 56, 54, 48, 49, 101, 99, 56, 99], []) := (W e3 e4).run_some.2 ⟨60, by kernel_rfl⟩
theorem cl_unhex : (W e3 e4).run 22 [bs [52, 32, 49, 45, 55, 65, 32, 102], i64 100] [] = some (.tup [bs [65, 122], i64 92], []) := (W e3 e4).run_some.2 ⟨60, by kernel_rfl⟩
theorem cl_unbase : (W e3 e4).run 24 [bs [89, 87, 74, 106, 90], i64 9] [] = some (.tup [bs [97, 98, 99], i64 4], []) := (W e3 e4).run_some.2 ⟨60, by kernel_rfl⟩
theorem cl_hex : (W e3 e4).run 27 [bs [65, 122]] [] = some (bs [52, 49, 55, 97], []) := (W e3 e4).run_some.2 ⟨60, by kernel_rfl⟩
theorem cl_base : (W e3 e4).run 28 [bs [97, 98]] [] = some (bs [89, 87, 73, 61], []) := (W e3 e4).run_some.2 ⟨60, by kernel_rfl⟩
theorem cl_unquote : (W e3 e4).run 30 [bs [34, 97, 92, 50, 50, 34]] [] = some (.tup [bs [97, 34], bo true], []) := (W e3 e4).run_some.2 ⟨60, by kernel_rfl⟩
theorem cl_quote : (W e3 e4).run 29 [bs [97, 34]] [] = some (bs [34, 97, 92, 50, 50, 34], []) := (W e3 e4).run_some.2 ⟨60, by kernel_rfl⟩
end Go.Vai
