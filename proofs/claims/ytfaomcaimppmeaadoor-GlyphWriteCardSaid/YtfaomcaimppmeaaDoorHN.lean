/-
  What functions of layer 5 and of its reference compute: equations of the abstract run.
-/
import Derived.Test.YtfaomcaimppmeaaDoorHs
import Derived.Test.YtfaomcaimppmeaaDoorHq
set_option linter.unusedVariables false
set_option linter.unusedSimpArgs false
set_option linter.unnecessarySimpa false
set_option linter.unusedSectionVars false
namespace Go.Vai
/-! The law of writing. -/
theorem len_ptW : ∀ l : List Pt, (l.flatMap ptW).length = 4 * l.length
  | [] => rfl
  | p :: l => by
    rw [List.flatMap_cons, List.length_append, len_ptW l]
    simp only [ptW, num2, List.length_append, List.length_cons, List.length_nil]; omega
theorem len_olW : ∀ l : List Ol, (l.flatMap olW).length ≤ l.length + 4 * szOls l
  | [] => Nat.zero_le _
  | o :: l => by
    have := len_olW l
    rw [List.flatMap_cons, List.length_append]
    simp only [olW, num1, List.length_append, List.length_cons, List.length_nil, len_ptW, szOls]
    omega
theorem len_pcW : ∀ l : List Pc, (l.flatMap pcW).length = 6 * l.length
  | [] => rfl
  | p :: l => by
    rw [List.flatMap_cons, List.length_append, len_pcW l]
    simp only [pcW, num2, List.length_append, List.length_cons, List.length_nil]; omega
theorem len_glW : ∀ l : List Gl, (l.flatMap glW).length ≤ 5 * l.length + 6 * szGls l
  | [] => Nat.zero_le _
  | g :: l => by
    have h1 := len_glW l
    have h2 := len_olW g.2.1
    rw [List.flatMap_cons, List.length_append]
    simp only [glW, num1, num2, List.length_append, List.length_cons, List.length_nil, len_pcW, szGls]
    omega
theorem len_prW : ∀ l : List Pt, (l.flatMap prW).length = 6 * l.length
  | [] => rfl
  | p :: l => by
    rw [List.flatMap_cons, List.length_append, len_prW l]
    simp only [prW, num2, num3, List.length_append, List.length_cons, List.length_nil]; omega
theorem len_body (f : Font) : (bodyW f).length ≤ 7 + 12 * fontSize f := by
  have h1 := len_glW f.1
  have h2 := len_prW f.2
  unfold bodyW fontSize
  simp only [sgnW, List.length_append, List.length_cons, List.length_nil]
  omega
set_option maxHeartbeats 1000000 in
theorem law_write (f : Font) (hf : roomFont f) : V.run 10 [aFont f] [] = some (bo true, []) := by
  have hw := run_fewR V_T f 3000 (by omega) hf
  refine run_wp (by rw [V_T]; exact rfl) ?_
  by_cases h1 : fontSize f ≤ 3000
  · rw [decide_eq_true (by omega)] at hw
    obtain ⟨s1, s2, s3, s4, s5⟩ := small_font h1 (by omega)
    have hb := len_body f
    have c1 := run_copied V_T f (by omega) (by omega) (fun g hg => by obtain ⟨q1, q2, q3, q4⟩ := s5 g hg; exact ⟨by omega, by omega, fun o ho => by have := q4 o ho; omega⟩)
    have c2 := run_right V_T f s2
    have c3 := run_rright V_T f s2
    have c4 := run_write V_T f s2 (by omega)
    have c5 := run_rwrite V_T f s2 (by omega)
    have c6 := run_sameFont V_T f f s2
    rw [decide_eq_true rfl] at c6
    generalize writeG f = W at *
    generalize rightB f = B at *
    clear s1 s2 s5 hf hb
    cases B <;> simp -dsimp -implicitDefEqProofs (maxSteps := 1000000) (disch := omega) [condP_pos, condP_neg, optP_pos, decide_eq_true, decide_eq_false, wrap_i64, Int.natCast_inj, run_awake, hw, c1, c2, c3, c4, c5, c6]
  · rw [decide_eq_false (by omega)] at hw
    simp -dsimp -implicitDefEqProofs (maxSteps := 1000000) (disch := omega) [condP_pos, condP_neg, optP_pos, decide_eq_true, decide_eq_false, wrap_i64, Int.natCast_inj, run_awake, hw]
end Go.Vai
