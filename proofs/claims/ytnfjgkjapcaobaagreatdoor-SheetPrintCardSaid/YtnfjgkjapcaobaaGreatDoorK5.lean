/-
  What functions of layer 9 and of its reference compute: equations of the abstract run, and plain laws of them.
-/
import Derived.Test.YtnfjgkjapcaobaaGreatDoorK4
set_option linter.unusedVariables false
set_option linter.unusedSimpArgs false
set_option linter.unnecessarySimpa false
set_option linter.unusedSectionVars false
namespace Go.Vai
variable {m : Int} {e3 e4 : Value}
end Go.Vai
namespace Go.Vai
variable {m : Int} {e3 e4 : Value}
abbrev tok6 (k : Int) (t : List UInt8) (n r c : Int) (b : Bool) : List FV := [.sc (.int .i64 k), .sc (.string (mkB t)), .sc (.int .i64 n), .sc (.int .i64 r), .sc (.int .i64 c), .sc (.bool b)]
def rTok : Tok → List FV
 | .sign t => tok6 0 t 0 0 0 false
 | .num n => tok6 1 [] n 0 0 false
 | .txt t => tok6 2 t 0 0 0 false
 | .plc r c => tok6 3 [] 0 r c false
 | .name t => tok6 0 t 0 0 0 true
end Go.Vai
