/-
  What functions of layer 9 and of its reference compute: equations of the abstract run, and plain laws of them.
-/
import Derived.Lib.AtoiAllCases
import Derived.Test.YtnfjgkjapcaobaaGreatDoorKA
set_option linter.unusedVariables false
set_option linter.unusedSimpArgs false
set_option linter.unnecessarySimpa false
set_option linter.unusedSectionVars false
namespace Go.Vai
variable {m : Int} {e3 e4 : Value}
theorem W_T : (W m e3 e4).T = Tz := rfl
abbrev inI (n : Int) : Prop := -9223372036854775808 ≤ n ∧ n ≤ 9223372036854775807
theorem run_E {f : FuncId} {xs : List AV} {bl : List (Option Blk)} {r : AV × List (Option Blk)} (hT : Tz f = none) (h : Ez f xs bl = some r) : (W m e3 e4).run f xs bl = some r := by
 rw [Env.run_some]
 refine ⟨1, ?_⟩
 have h1 : (W m e3 e4).T f = none := hT
 unfold runN
 rw [h1]
 exact h
theorem run_itoa (n : Int) (h : inI n) : (W m e3 e4).run 49 [i64 n] [] = some (bs (Lib.itoa n), []) := by
 refine run_E rfl ?_
 simp only [Ez, E0]
 rw [if_pos h, itoaC_eq n h]
theorem run_replace (l : List UInt8) (h : l.length ≤ 4000000000) : (W m e3 e4).run 24 [bs l, bs [34], bs [34, 34]] [] = some (bs (dbl l), []) := by
 refine run_E rfl ?_
 simp only [Ez, E0, mkB_size, mkB_list]
 simp [h]
theorem run_number (n : Int) (h : inI n) : (W m e3 e4).run 23 [i64 n] [] = some (bs (Lib.itoa n), []) := by
 refine run_wp (by rw [W_T]; exact rfl) ?_
 simp -dsimp -implicitDefEqProofs (maxSteps := 1000000) (disch := omega) [ST, run_itoa n h]
end Go.Vai
namespace Go.Vai
variable {m : Int} {e3 e4 : Value}
abbrev pl (r c : Int) : AV := .agg [i64 r, i64 c]
inductive Tok where
 | sign (t : List UInt8)
 | num (n : Int)
 | txt (t : List UInt8)
 | plc (r c : Int)
 | name (t : List UInt8)
 deriving DecidableEq
abbrev tok5 (k : Int) (t : List UInt8) (n r c : Int) : List FV := [.sc (.int .i64 k), .sc (.string (mkB t)), .sc (.int .i64 n), .sc (.int .i64 r), .sc (.int .i64 c)]
def eTok : Tok → List FV
 | .sign t => tok5 0 t 0 0 0
 | .num n => tok5 1 [] n 0 0
 | .txt t => tok5 2 t 0 0 0
 | .plc r c => tok5 3 [] 0 r c
 | .name t => tok5 6 t 0 0 0
end Go.Vai
namespace Go.Vai
variable {m : Int} {e3 e4 : Value}
end Go.Vai
namespace Go.Vai
variable {m : Int} {e3 e4 : Value}
@[simp] theorem eTok_len (t : Tok) : (eTok t).length = 5 := by cases t <;> rfl
end Go.Vai
