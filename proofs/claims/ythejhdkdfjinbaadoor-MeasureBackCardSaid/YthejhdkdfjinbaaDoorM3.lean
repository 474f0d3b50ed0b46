/-
  What functions of layer 1 and of its reference compute: equations of the abstract run, and plain laws of them.
-/
import Derived.Test.YthejhdkdfjinbaaDoorMp
set_option linter.unusedVariables false
set_option linter.unusedSimpArgs false
set_option linter.unnecessarySimpa false
set_option linter.unusedSectionVars false
namespace Go.Vai
variable {e3 e4 : Value}
/-! The law of budgets and charges. -/
theorem spendG_in (left n : Int) (h1 : inI left) : inI (spendG left n).1 := by
  unfold spendG inI at *
  split
  · simp
  · simp only; omega
theorem budgetG_mono {n m : Int} (h : n ≤ m) : budgetG n ≤ budgetG m := by
  unfold budgetG
  split <;> split <;> (try split) <;> (try split) <;> omega
theorem spend_two (left a b : Int) (ha : 0 ≤ a) (hb : 0 ≤ b) : ((spendG left a).2 && (spendG (spendG left a).1 b).2) = (spendG left (a + b)).2 ∧ ((spendG left (a + b)).2 = true → (spendG (spendG left a).1 b).1 = (spendG left (a + b)).1) := by
  have e1 : max a 0 = a := by omega
  have e2 : max b 0 = b := by omega
  have e3 : max (a + b) 0 = a + b := by omega
  unfold spendG
  rw [e1, e2, e3]
  have h0 : 0 ≤ max left 0 := by omega
  generalize max left 0 = l at *
  by_cases c1 : l < a
  · have c3 : l < a + b := by omega
    simp only [if_pos c1, if_pos c3]
    simp
  · have e4 : max (l - a) 0 = l - a := by omega
    simp only [if_neg c1, e4]
    by_cases c2 : l - a < b
    · have c3 : l < a + b := by omega
      simp only [if_pos c2, if_pos c3]
      simp
    · have c3 : ¬ l < a + b := by omega
      simp only [if_neg c2, if_neg c3]
      refine ⟨rfl, fun _ => ?_⟩
      omega
set_option maxHeartbeats 1000000 in
theorem law_spends (n more left a b : Int) (hn : inI n) (hm : inI more) (hl : inI left) (ha : inI a) (hb : inI b) : (W e3 e4).run 3 [i64 n, i64 more, i64 left, i64 a, i64 b] [] = some (bo true, []) := by
  have c1 := run_spend (e3 := e3) (e4 := e4) left a hl ha
  have c2 := run_rspend (e3 := e3) (e4 := e4) left a hl ha
  have c3 := run_budget (e3 := e3) (e4 := e4) n
  have c4 := run_rbudget (e3 := e3) (e4 := e4) n
  have c5 := run_budget (e3 := e3) (e4 := e4) more
  have hin := spendG_in left a hl
  have c6 := run_spend (e3 := e3) (e4 := e4) (spendG left a).1 b hin hb
  refine run_wp (by rw [W_T]; exact rfl) ?_
  by_cases k1 : a < 0
  · by_cases k0 : n ≤ more
    · have hbm := budgetG_mono k0
      have hnb : ¬ budgetG more < budgetG n := by omega
      simp -dsimp -implicitDefEqProofs (maxSteps := 1000000) (disch := omega) [condP_pos, condP_neg, optP_pos, decide_eq_true, decide_eq_false, wrap_i64, Int.natCast_inj, run_sane, c1, c2, c3, c4, c5, k1, k0, hnb]
    · simp -dsimp -implicitDefEqProofs (maxSteps := 1000000) (disch := omega) [condP_pos, condP_neg, optP_pos, decide_eq_true, decide_eq_false, wrap_i64, Int.natCast_inj, run_sane, c1, c2, c3, c4, c5, k1, k0]
  · by_cases k2 : b < 0
    · by_cases k0 : n ≤ more
      · have hbm := budgetG_mono k0
        have hnb : ¬ budgetG more < budgetG n := by omega
        simp -dsimp -implicitDefEqProofs (maxSteps := 1000000) (disch := omega) [condP_pos, condP_neg, optP_pos, decide_eq_true, decide_eq_false, wrap_i64, Int.natCast_inj, run_sane, c1, c2, c3, c4, c5, k1, k2, k0, hnb]
      · simp -dsimp -implicitDefEqProofs (maxSteps := 1000000) (disch := omega) [condP_pos, condP_neg, optP_pos, decide_eq_true, decide_eq_false, wrap_i64, Int.natCast_inj, run_sane, c1, c2, c3, c4, c5, k1, k2, k0]
    · by_cases k3 : 1152921504606846976 < a
      · by_cases k0 : n ≤ more
        · have hbm := budgetG_mono k0
          have hnb : ¬ budgetG more < budgetG n := by omega
          simp -dsimp -implicitDefEqProofs (maxSteps := 1000000) (disch := omega) [condP_pos, condP_neg, optP_pos, decide_eq_true, decide_eq_false, wrap_i64, Int.natCast_inj, run_sane, c1, c2, c3, c4, c5, k1, k2, k3, k0, hnb]
        · simp -dsimp -implicitDefEqProofs (maxSteps := 1000000) (disch := omega) [condP_pos, condP_neg, optP_pos, decide_eq_true, decide_eq_false, wrap_i64, Int.natCast_inj, run_sane, c1, c2, c3, c4, c5, k1, k2, k3, k0]
      · by_cases k4 : 1152921504606846976 < b
        · by_cases k0 : n ≤ more
          · have hbm := budgetG_mono k0
            have hnb : ¬ budgetG more < budgetG n := by omega
            simp -dsimp -implicitDefEqProofs (maxSteps := 1000000) (disch := omega) [condP_pos, condP_neg, optP_pos, decide_eq_true, decide_eq_false, wrap_i64, Int.natCast_inj, run_sane, c1, c2, c3, c4, c5, k1, k2, k3, k4, k0, hnb]
          · simp -dsimp -implicitDefEqProofs (maxSteps := 1000000) (disch := omega) [condP_pos, condP_neg, optP_pos, decide_eq_true, decide_eq_false, wrap_i64, Int.natCast_inj, run_sane, c1, c2, c3, c4, c5, k1, k2, k3, k4, k0]
        · have c7 := run_spend (e3 := e3) (e4 := e4) left (a + b) hl ⟨by omega, by omega⟩
          obtain ⟨t1, t2⟩ := spend_two left a b (by omega) (by omega)
          generalize spendG left a = s1 at *
          obtain ⟨x1, o1⟩ := s1
          simp only at *
          generalize spendG x1 b = s2 at *
          obtain ⟨x2, o2⟩ := s2
          generalize spendG left (a + b) = s3 at *
          obtain ⟨x3, o3⟩ := s3
          simp only at *
          by_cases k0 : n ≤ more
          · have hbm := budgetG_mono k0
            have hnb : ¬ budgetG more < budgetG n := by omega
            cases o1 <;> cases o2 <;> cases o3 <;> simp at t1 t2 <;> (try subst t2) <;> simp -dsimp -implicitDefEqProofs (maxSteps := 1000000) (disch := omega) [condP_pos, condP_neg, optP_pos, decide_eq_true, decide_eq_false, wrap_i64, Int.natCast_inj, run_sane, c1, c2, c3, c4, c5, c6, c7, k1, k2, k3, k4, k0, hnb]
          · cases o1 <;> cases o2 <;> cases o3 <;> simp at t1 t2 <;> (try subst t2) <;> simp -dsimp -implicitDefEqProofs (maxSteps := 1000000) (disch := omega) [condP_pos, condP_neg, optP_pos, decide_eq_true, decide_eq_false, wrap_i64, Int.natCast_inj, run_sane, c1, c2, c3, c4, c5, c6, c7, k1, k2, k3, k4, k0]
end Go.Vai
