/-
  What functions of layer 5 and of its reference compute: equations of the abstract run.
-/
import Derived.Test.YtfaomcaimppmeaaDoorHs
import Derived.Test.YtfaomcaimppmeaaDoorGf
import Derived.Test.YtfaomcaimppmeaaDoorGa
set_option linter.unusedVariables false
set_option linter.unusedSimpArgs false
set_option linter.unnecessarySimpa false
set_option linter.unusedSectionVars false
namespace Go.Vai
theorem szGls_mem {g : Gl} : ∀ {l : List Gl}, g ∈ l → g.2.2.length + g.2.1.length + szOls g.2.1 ≤ szGls l
  | [], h => by cases h
  | x :: l, h => by
    simp only [szGls]
    rcases List.mem_cons.1 h with rfl | h
    · omega
    · have := szGls_mem h; omega
theorem szOls_mem {o : Ol} : ∀ {l : List Ol}, o ∈ l → o.length ≤ szOls l
  | [], h => by cases h
  | x :: l, h => by
    simp only [szOls]
    rcases List.mem_cons.1 h with rfl | h
    · omega
    · have := szOls_mem h; omega
theorem small_ok {f : Font} {m : Nat} (h : fontSize f ≤ m) (hm : m < 100000) : okFont f ∧ f.1.length ≤ m ∧ f.2.length ≤ m := by
  unfold fontSize at h
  refine ⟨⟨by omega, by omega, fun g hg => ?_⟩, by omega, by omega⟩
  have h1 := szGls_mem hg
  exact ⟨⟨by omega, fun o ho => by have := szOls_mem ho; omega⟩, by omega⟩
theorem len_ptW : ∀ l : List Pt, (l.flatMap ptW).length = 4 * l.length
  | [] => rfl
  | p :: l => by
    rw [List.flatMap_cons, List.length_append, len_ptW l]
    simp only [ptW, num2, List.length_append, List.length_cons, List.length_nil]; omega
theorem len_olW : ∀ l : List Ol, (l.flatMap olW).length ≤ l.length + 4 * szOls l
  | [] => Nat.zero_le _
  | o :: l => by
    have := len_olW l
    rw [List.flatMap_cons, List.length_append]
    simp only [olW, num1, List.length_append, List.length_cons, List.length_nil, len_ptW, szOls]
    omega
theorem len_pcW : ∀ l : List Pc, (l.flatMap pcW).length = 6 * l.length
  | [] => rfl
  | p :: l => by
    rw [List.flatMap_cons, List.length_append, len_pcW l]
    simp only [pcW, num2, List.length_append, List.length_cons, List.length_nil]; omega
theorem len_glW : ∀ l : List Gl, (l.flatMap glW).length ≤ 5 * l.length + 6 * szGls l
  | [] => Nat.zero_le _
  | g :: l => by
    have h1 := len_glW l
    have h2 := len_olW g.2.1
    rw [List.flatMap_cons, List.length_append]
    simp only [glW, num1, num2, List.length_append, List.length_cons, List.length_nil, len_pcW, szGls]
    omega
theorem len_prW : ∀ l : List Pt, (l.flatMap prW).length = 6 * l.length
  | [] => rfl
  | p :: l => by
    rw [List.flatMap_cons, List.length_append, len_prW l]
    simp only [prW, num2, num3, List.length_append, List.length_cons, List.length_nil]; omega
theorem len_body (f : Font) : (bodyW f).length ≤ 7 + 12 * fontSize f := by
  have h1 := len_glW f.1
  have h2 := len_prW f.2
  unfold bodyW fontSize
  simp only [sgnW, List.length_append, List.length_cons, List.length_nil]
  omega
section
variable {v : Env} (hv : v.T = Tt)
include hv
set_option maxHeartbeats 1000000 in
theorem run_fewR (f : Font) (most : Int) (hm : most < 1000000000) (hf : roomFont f) : v.run 18 [aFont f, i64 most] [] = some (bo (decide ((fontSize f : Int) ≤ most)), []) := by
  refine run_wp (by rw [hv]; exact rfl) ?_
  obtain ⟨fg, fr⟩ := f
  obtain ⟨h0, h1, h2⟩ := hf
  simp only at h0 h1 h2
  generalize hF : fontSize (fg, fr) = F
  simp -dsimp -implicitDefEqProofs (maxSteps := 1000000) (disch := omega) [condP_pos, condP_neg, optP_pos, decide_eq_true, decide_eq_false, wrap_i64, Int.natCast_inj]
  refine wp_inv (S18 (fg, fr) most) (fun a => a.1 ++ a.2.1 = fg ∧ a.2.2 + szGls a.2.1 ≤ F ∧ ((a.2.2 : Int) ≤ most → a.2.2 + szGls a.2.1 = F) ∧ a.2.2 < 600000000000000) (fun a => a.2.1.length) ([], fg, fg.length + fr.length) (by refine ⟨by simp, by simp [← hF, fontSize], by simp [← hF, fontSize], ?_⟩; simp only; omega) (by simp -dsimp -implicitDefEqProofs (maxSteps := 1000000) (disch := omega) [condP_pos, condP_neg, optP_pos, decide_eq_true, decide_eq_false, wrap_i64, Int.natCast_inj, S18]) ?_
  rintro ⟨pre, rest, n⟩ ⟨e1, e2, e2', e3⟩
  simp only at e1 e2 e2' e3
  cases rest with
  | nil =>
    simp only [szGls] at e2 e2'
    by_cases hn : (n : Int) ≤ most
    · have := e2' hn
      simp -dsimp -implicitDefEqProofs (maxSteps := 1000000) (disch := omega) [condP_pos, condP_neg, optP_pos, decide_eq_true, decide_eq_false, wrap_i64, Int.natCast_inj, S18, hn]
    · simp -dsimp -implicitDefEqProofs (maxSteps := 1000000) (disch := omega) [condP_pos, condP_neg, optP_pos, decide_eq_true, decide_eq_false, wrap_i64, Int.natCast_inj, S18, hn]
  | cons p rest =>
    have hl : pre.length + (rest.length + 1) ≤ 140737488351232 := by rw [← e1] at h0; simpa using h0
    obtain ⟨adv, ols, pcs⟩ := p
    have hp := h2 (adv, ols, pcs) (by rw [← e1]; simp)
    obtain ⟨p1, p2, p3⟩ := hp
    clear h2
    simp only at p1 p2 p3
    simp only [szGls] at e2 e2'
    by_cases hn : (n : Int) ≤ most
    · have e2 := e2' hn
      simp -dsimp -implicitDefEqProofs (maxSteps := 1000000) (disch := omega) [condP_pos, condP_neg, optP_pos, decide_eq_true, decide_eq_false, wrap_i64, Int.natCast_inj, S18, hn]
      refine wp_inv (T18 (fg, fr) most pre (adv, ols, pcs) rest) (fun a => a.1 ++ a.2.1 = ols ∧ a.2.2 + szOls a.2.1 + szGls rest = F ∧ a.2.2 < 600000000000000) (fun a => a.2.1.length) ([], ols, n + (pcs.length + ols.length)) (by refine ⟨by simp, ?_, ?_⟩ <;> simp only <;> omega) (by simp -dsimp -implicitDefEqProofs (maxSteps := 1000000) (disch := omega) [condP_pos, condP_neg, optP_pos, decide_eq_true, decide_eq_false, wrap_i64, Int.natCast_inj, T18]) ?_
      rintro ⟨q, r, k⟩ ⟨d1, d2, d3⟩
      simp only at d1 d2 d3
      subst d1
      cases r with
      | nil =>
        simp only [szOls] at d2
        simp -dsimp -implicitDefEqProofs (maxSteps := 1000000) (disch := omega) [condP_pos, condP_neg, optP_pos, decide_eq_true, decide_eq_false, wrap_i64, Int.natCast_inj, T18]
        refine again (pre ++ [(adv, q ++ [], pcs)], rest, k) ?_ ?_ ?_
        · refine ⟨by simp [← e1], ?_, ?_, ?_⟩ <;> simp only <;> omega
        · simp
        · simp -dsimp -implicitDefEqProofs (maxSteps := 1000000) (disch := omega) [condP_pos, condP_neg, optP_pos, decide_eq_true, decide_eq_false, wrap_i64, Int.natCast_inj, S18]
      | cons o r =>
        have ho := p2 o (by simp)
        have hq : q.length + (r.length + 1) ≤ 140737488351232 := by simpa using p1
        simp only [szOls] at d2
        clear p2 p1
        by_cases hk : (k : Int) ≤ most
        · simp -dsimp -implicitDefEqProofs (maxSteps := 1000000) (disch := omega) [condP_pos, condP_neg, optP_pos, decide_eq_true, decide_eq_false, wrap_i64, Int.natCast_inj, T18, hk]
          refine again (q ++ [o], r, k + o.length) ?_ ?_ ?_
          · refine ⟨by simp, ?_, ?_⟩ <;> simp only <;> omega
          · simp
          · simp -dsimp -implicitDefEqProofs (maxSteps := 1000000) (disch := omega) [condP_pos, condP_neg, optP_pos, decide_eq_true, decide_eq_false, wrap_i64, Int.natCast_inj, T18]
        · simp -dsimp -implicitDefEqProofs (maxSteps := 1000000) (disch := omega) [condP_pos, condP_neg, optP_pos, decide_eq_true, decide_eq_false, wrap_i64, Int.natCast_inj, T18, hk]
          refine again (pre ++ [(adv, q ++ o :: r, pcs)], rest, k) ?_ ?_ ?_
          · refine ⟨by simp [← e1], ?_, ?_, ?_⟩ <;> simp only <;> omega
          · simp
          · simp -dsimp -implicitDefEqProofs (maxSteps := 1000000) (disch := omega) [condP_pos, condP_neg, optP_pos, decide_eq_true, decide_eq_false, wrap_i64, Int.natCast_inj, S18]
    · simp -dsimp -implicitDefEqProofs (maxSteps := 1000000) (disch := omega) [condP_pos, condP_neg, optP_pos, decide_eq_true, decide_eq_false, wrap_i64, Int.natCast_inj, S18, hn]

end
end Go.Vai
