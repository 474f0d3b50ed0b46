/-
  What functions of layer 1 and of its reference compute: equations of the abstract run, and plain laws of them.
-/
import Derived.Test.YthejhdkdfjinbaaDoorE2
import Derived.Test.YthejhdkdfjinbaaDoorMaX
set_option linter.unusedVariables false
set_option linter.unusedSimpArgs false
set_option linter.unnecessarySimpa false
set_option linter.unusedSectionVars false
namespace Go.Vai
/-! The chapter's examples. -/
def W (e3 e4 : Value) : Env := { G := Gm e3 e4, T := Tm, E := Em }
variable {e3 e4 : Value}
theorem W_T : (W e3 e4).T = Tm := rfl
theorem W_E : (W e3 e4).E = Em := rfl
theorem cl_crc : (W e3 e4).run 17 [bs [49, 50, 51, 52, 53, 54, 55, 56, 57]] [] = some (i64 3421780262, []) := (W e3 e4).run_some.2 ⟨60, by kernel_rfl⟩
theorem cl_digest : (W e3 e4).run 19 [bs [97]] [] = some (bs [97, 102, 54, 51, 100, 99, 52, 99, 56, 54, 48, 49, 101, 99, 56, 99], []) := (W e3 e4).run_some.2 ⟨60, by kernel_rfl⟩
theorem cl_unhex : (W e3 e4).run 22 [bs [52, 32, 49, 45, 55, 65, 32, 102], i64 100] [] = some (.tup [bs [65, 122], i64 92], []) := (W e3 e4).run_some.2 ⟨60, by kernel_rfl⟩
theorem cl_unbase : (W e3 e4).run 24 [bs [89, 87, 74, 106, 90], i64 9] [] = some (.tup [bs [97, 98, 99], i64 4], []) := (W e3 e4).run_some.2 ⟨60, by kernel_rfl⟩
theorem cl_hex : (W e3 e4).run 27 [bs [65, 122]] [] = some (bs [52, 49, 55, 97], []) := (W e3 e4).run_some.2 ⟨60, by kernel_rfl⟩
theorem cl_base : (W e3 e4).run 28 [bs [97, 98]] [] = some (bs [89, 87, 73, 61], []) := (W e3 e4).run_some.2 ⟨60, by kernel_rfl⟩
theorem cl_unquote : (W e3 e4).run 30 [bs [34, 97, 92, 50, 50, 34]] [] = some (.tup [bs [97, 34], bo true], []) := (W e3 e4).run_some.2 ⟨60, by kernel_rfl⟩
theorem cl_quote : (W e3 e4).run 29 [bs [97, 34]] [] = some (bs [34, 97, 92, 50, 50, 34], []) := (W e3 e4).run_some.2 ⟨60, by kernel_rfl⟩
end Go.Vai

set_option linter.unusedVariables false
set_option linter.unusedSimpArgs false
set_option linter.unnecessarySimpa false
set_option linter.unusedSectionVars false
namespace Go.Vai
variable {e3 e4 : Value}
/-! Spend, Budget, Number, ParseNumber; the chapter's examples. -/
def spendG (left n : Int) : Int × Bool := if max left 0 < max n 0 then (0, false) else (max left 0 - max n 0, true)
def budgetG (n : Int) : Int := if n ≤ 0 then 20000 else if 53686591 < n then 2147483647 else 20000 + 40 * n
abbrev inI (n : Int) : Prop := -9223372036854775808 ≤ n ∧ n ≤ 9223372036854775807
theorem run_spend (left n : Int) (h1 : inI left) (h2 : inI n) : (W e3 e4).run 13 [i64 left, i64 n] [] = some (.tup [i64 (spendG left n).1, bo (spendG left n).2], []) := by
  unfold spendG
  have ha : 0 ≤ max left 0 ∧ max left 0 ≤ 9223372036854775807 := by omega
  have hb : 0 ≤ max n 0 ∧ max n 0 ≤ 9223372036854775807 := by omega
  refine run_wp (by rw [W_T]; exact rfl) ?_
  by_cases h : max left 0 < max n 0
  · rw [if_pos h]
    generalize hA : max left 0 = a at *
    generalize hB : max n 0 = b at *
    simp -dsimp -implicitDefEqProofs (maxSteps := 1000000) (disch := omega) [condP_pos, condP_neg, optP_pos, decide_eq_true, decide_eq_false, wrap_i64, Int.natCast_inj, h, hA, hB]
  · rw [if_neg h]
    generalize hA : max left 0 = a at *
    generalize hB : max n 0 = b at *
    simp -dsimp -implicitDefEqProofs (maxSteps := 1000000) (disch := omega) [condP_pos, condP_neg, optP_pos, decide_eq_true, decide_eq_false, wrap_i64, Int.natCast_inj, h, hA, hB]
theorem run_rspend (left n : Int) (h1 : inI left) (h2 : inI n) : (W e3 e4).run 14 [i64 left, i64 n] [] = some (.tup [i64 (spendG left n).1, bo (spendG left n).2], []) := by
  unfold spendG
  have ha : 0 ≤ max left 0 ∧ max left 0 ≤ 9223372036854775807 := by omega
  have hb : 0 ≤ max n 0 ∧ max n 0 ≤ 9223372036854775807 := by omega
  refine run_wp (by rw [W_T]; exact rfl) ?_
  by_cases h : max left 0 < max n 0
  · rw [if_pos h]
    generalize hA : max left 0 = a at *
    generalize hB : max n 0 = b at *
    simp -dsimp -implicitDefEqProofs (maxSteps := 1000000) (disch := omega) [condP_pos, condP_neg, optP_pos, decide_eq_true, decide_eq_false, wrap_i64, Int.natCast_inj, h, hA, hB]
  · rw [if_neg h]
    generalize hA : max left 0 = a at *
    generalize hB : max n 0 = b at *
    simp -dsimp -implicitDefEqProofs (maxSteps := 1000000) (disch := omega) [condP_pos, condP_neg, optP_pos, decide_eq_true, decide_eq_false, wrap_i64, Int.natCast_inj, h, hA, hB]
theorem run_budget (n : Int) : (W e3 e4).run 15 [i64 n] [] = some (i64 (budgetG n), []) := by
  unfold budgetG
  refine run_wp (by rw [W_T]; exact rfl) ?_
  by_cases h1 : n ≤ 0
  · rw [if_pos h1]
    simp -dsimp -implicitDefEqProofs (maxSteps := 1000000) (disch := omega) [condP_pos, condP_neg, optP_pos, decide_eq_true, decide_eq_false, wrap_i64, Int.natCast_inj, h1]
  · rw [if_neg h1]
    by_cases h2 : 53686591 < n
    · rw [if_pos h2]
      simp -dsimp -implicitDefEqProofs (maxSteps := 1000000) (disch := omega) [condP_pos, condP_neg, optP_pos, decide_eq_true, decide_eq_false, wrap_i64, Int.natCast_inj, h1, h2]
    · rw [if_neg h2]
      simp -dsimp -implicitDefEqProofs (maxSteps := 1000000) (disch := omega) [condP_pos, condP_neg, optP_pos, decide_eq_true, decide_eq_false, wrap_i64, Int.natCast_inj, h1, h2]
theorem run_rbudget (n : Int) : (W e3 e4).run 16 [i64 n] [] = some (i64 (budgetG n), []) := by
  unfold budgetG
  refine run_wp (by rw [W_T]; exact rfl) ?_
  by_cases h1 : n < 0
  · rw [if_pos (by omega)]
    simp -dsimp -implicitDefEqProofs (maxSteps := 1000000) (disch := omega) [condP_pos, condP_neg, optP_pos, decide_eq_true, decide_eq_false, wrap_i64, Int.natCast_inj, h1]
  · by_cases h2 : 53686591 < n
    · rw [if_neg (by omega), if_pos h2]
      simp -dsimp -implicitDefEqProofs (maxSteps := 1000000) (disch := omega) [condP_pos, condP_neg, optP_pos, decide_eq_true, decide_eq_false, wrap_i64, Int.natCast_inj, h1, h2]
    · by_cases h0 : n = 0
      · subst h0
        simp -dsimp -implicitDefEqProofs (maxSteps := 1000000) (disch := omega) [condP_pos, condP_neg, optP_pos, decide_eq_true, decide_eq_false, wrap_i64, Int.natCast_inj, h1, h2]
        try rfl
      · rw [if_neg (by omega), if_neg h2]
        have hm : min (20000 + 40 * n) 2147483647 = 20000 + 40 * n := by omega
        simp -dsimp -implicitDefEqProofs (maxSteps := 1000000) (disch := omega) [condP_pos, condP_neg, optP_pos, decide_eq_true, decide_eq_false, wrap_i64, Int.natCast_inj, h1, h2, hm]
theorem run_E {f : FuncId} {xs : List AV} {r : AV × List (Option Blk)} (hT : Tm f = none) (h : Em f xs [] = some r) : (W e3 e4).run f xs [] = some r := by
  rw [Env.run_some]
  refine ⟨1, ?_⟩
  have h1 : (W e3 e4).T f = none := hT
  unfold runN
  rw [h1]
  exact h
theorem run_itoa (n : Int) (h : inI n) : (W e3 e4).run 50 [i64 n] [] = some (bs (Lib.itoa n), []) := by
  refine run_E rfl ?_
  simp only [Em]
  rw [if_pos h]
theorem run_atoi (l : List UInt8) (h : l.length ≤ 1000000) : (W e3 e4).run 51 [bs l] [] = some (match Lib.atoiAll l with
        | .ok v => .tup [i64 v, .fz (.sc .nilIface)]
        | .range => .tup [i64 (Lib.atoiSat l), .err]
        | _ => .tup [i64 0, .err], []) := by
  refine run_E rfl ?_
  simp only [Em, mkB_size, mkB_list]
  rw [if_pos (by omega)]
  cases Lib.atoiAll l <;> rfl
theorem run_number (n : Int) (h : inI n) : (W e3 e4).run 32 [i64 n] [] = some (bs (Lib.itoa n), []) := by
  refine run_wp (by rw [W_T]; exact rfl) ?_
  simp -dsimp -implicitDefEqProofs (maxSteps := 1000000) (disch := omega) [condP_pos, condP_neg, optP_pos, decide_eq_true, decide_eq_false, wrap_i64, Int.natCast_inj, run_itoa n h]
def parseG (l : List UInt8) : Int × Bool := match Lib.atoiAll l with
  | .ok v => if Lib.itoa v = l then (v, true) else (0, false)
  | _ => (0, false)
theorem run_parse (l : List UInt8) (h : l.length ≤ 1000000) : (W e3 e4).run 33 [bs l] [] = some (.tup [i64 (parseG l).1, bo (parseG l).2], []) := by
  have h1 := run_atoi (e3 := e3) (e4 := e4) l h
  cases ha : Lib.atoiAll l with
  | ok v =>
    rw [ha] at h1
    have hb := Lib.atoiAll_bounds ha
    have h2 := run_itoa (e3 := e3) (e4 := e4) v (by exact ⟨by omega, by omega⟩)
    by_cases he : Lib.itoa v = l
    · have hp : parseG l = (v, true) := by unfold parseG; rw [ha]; exact if_pos he
      rw [hp]
      rw [he] at h2
      refine run_wp (by rw [W_T]; exact rfl) ?_
      simp -dsimp -implicitDefEqProofs (maxSteps := 1000000) (disch := omega) [condP_pos, condP_neg, optP_pos, decide_eq_true, decide_eq_false, wrap_i64, Int.natCast_inj, h1, h2]
    · have hp : parseG l = (0, false) := by unfold parseG; rw [ha]; exact if_neg he
      rw [hp]
      refine run_wp (by rw [W_T]; exact rfl) ?_
      simp -dsimp -implicitDefEqProofs (maxSteps := 1000000) (disch := omega) [condP_pos, condP_neg, optP_pos, decide_eq_true, decide_eq_false, wrap_i64, Int.natCast_inj, h1, h2, he]
  | range =>
    rw [ha] at h1
    have hp : parseG l = (0, false) := by unfold parseG; rw [ha]
    rw [hp]
    refine run_wp (by rw [W_T]; exact rfl) ?_
    simp -dsimp -implicitDefEqProofs (maxSteps := 1000000) (disch := omega) [condP_pos, condP_neg, optP_pos, decide_eq_true, decide_eq_false, wrap_i64, Int.natCast_inj, h1]
  | _ =>
    rw [ha] at h1
    have hp : parseG l = (0, false) := by unfold parseG; rw [ha]
    rw [hp]
    refine run_wp (by rw [W_T]; exact rfl) ?_
    simp -dsimp -implicitDefEqProofs (maxSteps := 1000000) (disch := omega) [condP_pos, condP_neg, optP_pos, decide_eq_true, decide_eq_false, wrap_i64, Int.natCast_inj, h1]
theorem itoa_m12 : Lib.itoa (-12) = [45, 49, 50] := by
  simp [Lib.itoa, Lib.decDigits]
theorem atoi_m12 : Lib.atoiAll [45, 49, 50] = .ok (-12) := by decide
theorem run_sane : (W e3 e4).run 12 [] [] = some (bo true, []) := by
  have h1 := run_spend (e3 := e3) (e4 := e4) 5 3 (by decide) (by decide)
  have h2 := run_spend (e3 := e3) (e4 := e4) 5 6 (by decide) (by decide)
  have h3 := run_budget (e3 := e3) (e4 := e4) 100
  have h4 := run_parse (e3 := e3) (e4 := e4) [45, 49, 50] (by decide)
  have h5 := run_number (e3 := e3) (e4 := e4) (-12) (by decide)
  rw [itoa_m12] at h5
  have hp : parseG [45, 49, 50] = (-12, true) := by simp [parseG, atoi_m12, itoa_m12]
  rw [hp] at h4
  have s1 : spendG 5 3 = (2, true) := by decide
  have s2 : spendG 5 6 = (0, false) := by decide
  have s3 : budgetG 100 = 24000 := by decide
  rw [s1] at h1
  rw [s2] at h2
  rw [s3] at h3
  refine run_wp (by rw [W_T]; exact rfl) ?_
  simp -dsimp -implicitDefEqProofs (maxSteps := 1000000) (disch := omega) [condP_pos, condP_neg, optP_pos, decide_eq_true, decide_eq_false, wrap_i64, Int.natCast_inj, h1, h2, h3, h4, h5, cl_crc, cl_digest, cl_unhex, cl_unbase, cl_hex, cl_base, cl_unquote, cl_quote, mk_mkB]
end Go.Vai
