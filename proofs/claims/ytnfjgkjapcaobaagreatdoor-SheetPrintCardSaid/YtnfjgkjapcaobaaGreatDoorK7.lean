/-
  What functions of layer 9 and of its reference compute: equations of the abstract run, and plain laws of them.
-/
import Derived.Test.YtnfjgkjapcaobaaGreatDoorK5
set_option linter.unusedVariables false
set_option linter.unusedSimpArgs false
set_option linter.unnecessarySimpa false
set_option linter.unusedSectionVars false
namespace Go.Vai
variable {m : Int} {e3 e4 : Value}
theorem drop_take (l : List UInt8) (a n : Nat) : (l.take (a + n)).drop a = (l.drop a).take n := by
 rw [List.drop_take, Nat.add_sub_cancel_left]
end Go.Vai
namespace Go.Vai
variable {m : Int} {e3 e4 : Value}
theorem nat_ne {c : UInt8} {k : Nat} (hk : k < 256) (h : ¬ c = UInt8.ofNat k) : ¬ c.toNat = k := fun e => h (by apply UInt8.toNat.inj; rw [e]; simp; omega)
end Go.Vai
namespace Go.Vai
variable {m : Int} {e3 e4 : Value}
@[simp] theorem rTok_len (t : Tok) : (rTok t).length = 6 := by cases t <;> rfl
end Go.Vai
