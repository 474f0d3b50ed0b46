/-
  What functions of layer 9 and of its reference compute: equations of the abstract run, and plain laws of them.
-/
import Derived.Test.YtnfjgkjapcaobaaGreatDoorL1
set_option linter.unusedVariables false
set_option linter.unusedSimpArgs false
set_option linter.unnecessarySimpa false
set_option linter.unusedSectionVars false
namespace Go.Vai
variable {m : Int} {e3 e4 : Value}
end Go.Vai
namespace Go.Vai
variable {m : Int} {e3 e4 : Value}
@[simp] theorem eNds_len (l : List Nd) : (eNds l).length = l.length := by
 induction l with
 | nil => rfl
 | cons a r ih => simp [eNds, ih]
@[simp] theorem eNds_ok (l : List Nd) : okSz 8 (eNds l) = true := by
 induction l with
 | nil => rfl
 | cons a r ih => simp only [eNds, okSz_cons, ih]; simp
@[simp] theorem eNds_take (l : List Nd) : (eNds l).take l.length = eNds l := by rw [← eNds_len l, List.take_length]
@[simp] theorem eNds_get (l : List Nd) (c : List FV) : (eNds l ++ [c])[l.length]? = some c := by
 rw [← eNds_len l]; simp
@[simp] theorem eNds_set (l : List Nd) (c x : List FV) : (eNds l ++ [c]).set l.length x = eNds l ++ [x] := by
 rw [← eNds_len l]; simp
@[simp] theorem eNds_take1 (l : List Nd) (c : List FV) : (eNds l ++ [c]).take (l.length + 1) = eNds l ++ [c] := List.take_of_length_le (by simp)
structure Arg236 where
 l : List Nd
 ts : List Tok
 j : Nat
end Go.Vai
namespace Go.Vai
variable {m : Int} {e3 e4 : Value}
end Go.Vai
namespace Go.Vai
variable {m : Int} {e3 e4 : Value}
end Go.Vai
