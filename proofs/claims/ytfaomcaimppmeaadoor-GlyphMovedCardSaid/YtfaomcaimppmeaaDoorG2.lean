/-
  What functions of layer 5 and of its reference compute: equations of the abstract run.
-/
import Derived.Test.YtfaomcaimppmeaaDoorG1
set_option linter.unusedVariables false
set_option linter.unusedSimpArgs false
set_option linter.unnecessarySimpa false
set_option linter.unusedSectionVars false
namespace Go.Vai
variable {v : Env} (hv : v.T = Tt)
include hv
/-! The same points, outlines, pieces, fonts. -/
def S63 (a : List Pt × List Pt × List Pt) : St :=
  { sl := [(0, rw_ ((a.1 ++ a.2.1).map ePt)), (1, rw_ ((a.1 ++ a.2.2).map ePt)), (5, i64 a.1.length)], hp := [], nx := 0 }
theorem run_samePts (A B : List Pt) (hA : A.length < 1000000000000) : v.run 63 [rw_ (A.map ePt), rw_ (B.map ePt)] [] = some (bo (decide (A = B)), []) := by
  refine run_wp (by rw [hv]; exact rfl) ?_
  by_cases hl : A.length = B.length
  · simp -dsimp -implicitDefEqProofs (disch := omega) [condP_pos, condP_neg, optP_pos, decide_eq_true, decide_eq_false, wrap_i64, Int.natCast_inj, hl]
    refine wp_inv S63 (fun a => a.1 ++ a.2.1 = A ∧ a.1 ++ a.2.2 = B) (fun a => a.2.1.length) ([], A, B) (by simp) (by simp -dsimp -implicitDefEqProofs (disch := omega) [condP_pos, condP_neg, optP_pos, decide_eq_true, decide_eq_false, wrap_i64, Int.natCast_inj, S63]) ?_
    rintro ⟨pre, ra, rb⟩ ⟨h1, h2⟩
    subst h1; subst h2
    simp at hA hl
    cases ra with
    | nil =>
      obtain rfl : rb = [] := List.eq_nil_of_length_eq_zero (by simpa using hl.symm)
      simp -dsimp -implicitDefEqProofs (disch := omega) [condP_pos, condP_neg, optP_pos, decide_eq_true, decide_eq_false, wrap_i64, Int.natCast_inj, S63]
    | cons p ra =>
      cases rb with
      | nil => simp at hl
      | cons q rb =>
        simp at hl hA
        by_cases e1 : p.1 = q.1 <;> by_cases e2 : p.2 = q.2
        · obtain rfl : p = q := Prod.ext e1 e2
          simp -dsimp -implicitDefEqProofs (disch := omega) [condP_pos, condP_neg, optP_pos, decide_eq_true, decide_eq_false, wrap_i64, Int.natCast_inj, S63]
          refine again (pre ++ [p], ra, rb) ?_ ?_ ?_
          · simp
          · simp
          · simp -dsimp -implicitDefEqProofs (disch := omega) [condP_pos, condP_neg, optP_pos, decide_eq_true, decide_eq_false, wrap_i64, Int.natCast_inj, S63]
        · simp -dsimp -implicitDefEqProofs (disch := omega) [condP_pos, condP_neg, optP_pos, decide_eq_true, decide_eq_false, wrap_i64, Int.natCast_inj, S63, e1, e2, Prod.ext_iff]
        · simp -dsimp -implicitDefEqProofs (disch := omega) [condP_pos, condP_neg, optP_pos, decide_eq_true, decide_eq_false, wrap_i64, Int.natCast_inj, S63, e1, e2, Prod.ext_iff]
        · simp -dsimp -implicitDefEqProofs (disch := omega) [condP_pos, condP_neg, optP_pos, decide_eq_true, decide_eq_false, wrap_i64, Int.natCast_inj, S63, e1, e2, Prod.ext_iff]
  · have : A ≠ B := fun e => hl (by rw [e])
    simp -dsimp -implicitDefEqProofs (disch := omega) [condP_pos, condP_neg, optP_pos, decide_eq_true, decide_eq_false, wrap_i64, Int.natCast_inj, hl, this]
def S26 (a : List Ol × List Ol × List Ol) : St :=
  { sl := [(0, rw_ ((a.1 ++ a.2.1).map eOl)), (1, rw_ ((a.1 ++ a.2.2).map eOl)), (5, i64 a.1.length)], hp := [], nx := 0 }
theorem run_sameOls (A B : List Ol) (hA : A.length < 1000000000000) (hA2 : ∀ o ∈ A, o.length < 1000000000000) : v.run 26 [rw_ (A.map eOl), rw_ (B.map eOl)] [] = some (bo (decide (A = B)), []) := by
  refine run_wp (by rw [hv]; exact rfl) ?_
  by_cases hl : A.length = B.length
  · simp -dsimp -implicitDefEqProofs (disch := omega) [condP_pos, condP_neg, optP_pos, decide_eq_true, decide_eq_false, wrap_i64, Int.natCast_inj, hl]
    refine wp_inv S26 (fun a => a.1 ++ a.2.1 = A ∧ a.1 ++ a.2.2 = B) (fun a => a.2.1.length) ([], A, B) (by simp) (by simp -dsimp -implicitDefEqProofs (disch := omega) [condP_pos, condP_neg, optP_pos, decide_eq_true, decide_eq_false, wrap_i64, Int.natCast_inj, S26]) ?_
    rintro ⟨pre, ra, rb⟩ ⟨h1, h2⟩
    subst h1; subst h2
    simp at hA hl
    cases ra with
    | nil =>
      obtain rfl : rb = [] := List.eq_nil_of_length_eq_zero (by simpa using hl.symm)
      simp -dsimp -implicitDefEqProofs (disch := omega) [condP_pos, condP_neg, optP_pos, decide_eq_true, decide_eq_false, wrap_i64, Int.natCast_inj, S26]
    | cons p ra =>
      cases rb with
      | nil => simp at hl
      | cons q rb =>
        simp at hl hA
        have hp := run_samePts hv p q (hA2 p (by simp))
        by_cases e1 : p = q
        · subst e1
          simp -dsimp -implicitDefEqProofs (disch := omega) [condP_pos, condP_neg, optP_pos, decide_eq_true, decide_eq_false, wrap_i64, Int.natCast_inj, S26, hp]
          refine again (pre ++ [p], ra, rb) ?_ ?_ ?_
          · simp
          · simp
          · simp -dsimp -implicitDefEqProofs (disch := omega) [condP_pos, condP_neg, optP_pos, decide_eq_true, decide_eq_false, wrap_i64, Int.natCast_inj, S26]
        · simp -dsimp -implicitDefEqProofs (disch := omega) [condP_pos, condP_neg, optP_pos, decide_eq_true, decide_eq_false, wrap_i64, Int.natCast_inj, S26, hp, e1]
  · have : A ≠ B := fun e => hl (by rw [e])
    simp -dsimp -implicitDefEqProofs (disch := omega) [condP_pos, condP_neg, optP_pos, decide_eq_true, decide_eq_false, wrap_i64, Int.natCast_inj, hl, this]
def S39 (a : List Pc × List Pc × List Pc) : St :=
  { sl := [(0, rw_ ((a.1 ++ a.2.1).map ePc)), (1, rw_ ((a.1 ++ a.2.2).map ePc)), (5, i64 a.1.length)], hp := [], nx := 0 }
theorem run_samePcs (A B : List Pc) (hA : A.length < 1000000000000) : v.run 39 [rw_ (A.map ePc), rw_ (B.map ePc)] [] = some (bo (decide (A = B)), []) := by
  refine run_wp (by rw [hv]; exact rfl) ?_
  by_cases hl : A.length = B.length
  · simp -dsimp -implicitDefEqProofs (disch := omega) [condP_pos, condP_neg, optP_pos, decide_eq_true, decide_eq_false, wrap_i64, Int.natCast_inj, hl]
    refine wp_inv S39 (fun a => a.1 ++ a.2.1 = A ∧ a.1 ++ a.2.2 = B) (fun a => a.2.1.length) ([], A, B) (by simp) (by simp -dsimp -implicitDefEqProofs (disch := omega) [condP_pos, condP_neg, optP_pos, decide_eq_true, decide_eq_false, wrap_i64, Int.natCast_inj, S39]) ?_
    rintro ⟨pre, ra, rb⟩ ⟨h1, h2⟩
    subst h1; subst h2
    simp at hA hl
    cases ra with
    | nil =>
      obtain rfl : rb = [] := List.eq_nil_of_length_eq_zero (by simpa using hl.symm)
      simp -dsimp -implicitDefEqProofs (disch := omega) [condP_pos, condP_neg, optP_pos, decide_eq_true, decide_eq_false, wrap_i64, Int.natCast_inj, S39]
    | cons p ra =>
      cases rb with
      | nil => simp at hl
      | cons q rb =>
        simp at hl hA
        by_cases e : p = q
        · subst e
          simp -dsimp -implicitDefEqProofs (disch := omega) [condP_pos, condP_neg, optP_pos, decide_eq_true, decide_eq_false, wrap_i64, Int.natCast_inj, S39]
          refine again (pre ++ [p], ra, rb) ?_ ?_ ?_
          · simp
          · simp
          · simp -dsimp -implicitDefEqProofs (disch := omega) [condP_pos, condP_neg, optP_pos, decide_eq_true, decide_eq_false, wrap_i64, Int.natCast_inj, S39]
        · have : ¬ (p.1 = q.1 ∧ p.2.1 = q.2.1 ∧ p.2.2 = q.2.2) := fun h => e (Prod.ext h.1 (Prod.ext h.2.1 h.2.2))
          by_cases e1 : p.1 = q.1 <;> by_cases e2 : p.2.1 = q.2.1 <;> by_cases e3 : p.2.2 = q.2.2 <;> simp [e1, e2, e3] at this <;> simp -dsimp -implicitDefEqProofs (disch := omega) [condP_pos, condP_neg, optP_pos, decide_eq_true, decide_eq_false, wrap_i64, Int.natCast_inj, S39, e1, e2, e3, e]
  · have : A ≠ B := fun e => hl (by rw [e])
    simp -dsimp -implicitDefEqProofs (disch := omega) [condP_pos, condP_neg, optP_pos, decide_eq_true, decide_eq_false, wrap_i64, Int.natCast_inj, hl, this]
end Go.Vai
