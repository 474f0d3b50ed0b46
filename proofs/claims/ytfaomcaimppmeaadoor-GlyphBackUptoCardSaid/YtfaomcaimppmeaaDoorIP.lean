/-
  Strict reading; the law of reading back.
-/
import Derived.Test.YtfaomcaimppmeaaDoorIl
set_option linter.unusedVariables false
set_option linter.unusedSimpArgs false
set_option linter.unnecessarySimpa false
set_option linter.unusedSectionVars false
namespace Go.Vai
/-! Strict reading; the law of reading back. -/
theorem len_olB : ∀ l : List Ol, l.all olB = true → (l.flatMap olW).length ≤ 1021 * l.length
  | [], _ => by simp
  | o :: l, h => by
    simp only [List.all_cons, Bool.and_eq_true] at h
    have h1 := h.1
    simp only [olB, Bool.and_eq_true, decide_eq_true_eq] at h1
    have := len_olB l h.2
    rw [List.flatMap_cons, List.length_append]
    simp only [olW, num1, List.length_append, List.length_cons, List.length_nil, len_ptW]
    omega
theorem len_glB {many : Nat} : ∀ l : List Gl, l.all (glB many) = true → (l.flatMap glW).length ≤ 65541 * l.length
  | [], _ => by simp
  | g :: l, h => by
    simp only [List.all_cons, Bool.and_eq_true] at h
    have h1 := h.1
    simp only [glB, Bool.and_eq_true, decide_eq_true_eq] at h1
    have h2 := len_olB g.2.1 h1.2.2.2.1
    have := len_glB l h.2
    rw [List.flatMap_cons, List.length_append]
    simp only [glW, num1, num2, List.length_append, List.length_cons, List.length_nil, len_pcW]
    omega
theorem right_small {f : Font} (h : rightB f = true) : okFont f ∧ (bodyW f).length < 800000000 := by
  obtain ⟨h1, h2, h3⟩ := right_parts h
  obtain ⟨q1, q2⟩ := prB_lt f.2 _ h3
  have hk := keys_len (lt_nodup q2) fun p hp => ⟨by have := (q1 p hp).1; omega, (q1 p hp).2.1⟩
  have h4 := len_glB f.1 h2
  refine ⟨⟨by omega, by omega, fun g hg => ?_⟩, ?_⟩
  · have hg2 := List.all_eq_true.1 h2 g hg
    simp only [glB, Bool.and_eq_true, decide_eq_true_eq, List.all_eq_true] at hg2
    refine ⟨⟨by omega, fun o ho => ?_⟩, by omega⟩
    have := hg2.2.2.2.1 o ho
    simp only [olB, Bool.and_eq_true, decide_eq_true_eq] at this
    omega
  · rw [body_len, len_prW]
    omega
def strictG (b : List UInt8) : Font × Bool :=
  if b.length < 7 ∨ b.take 7 ≠ sgn then (([], []), false) else if bodyW (readV b) = b then (readV b, true) else (([], []), false)
theorem run_strict (b : List UInt8) (hb : b.length < 500000000000) : V.run 51 [bs b] [] = some (.tup [aFont (strictG b).1, bo (strictG b).2], []) := by
  have h1 := run_readV b b.length hb (by omega)
  unfold strictG
  by_cases h7 : b.length < 7 ∨ b.take 7 ≠ sgn
  · rw [if_pos h7]
    unfold readG at h1
    rw [if_pos h7] at h1
    simp only at h1
    refine run_wp (by rw [V_T]; exact rfl) ?_
    simp -dsimp -implicitDefEqProofs (maxSteps := 1000000) (disch := omega) [condP_pos, condP_neg, optP_pos, decide_eq_true, decide_eq_false, wrap_i64, Int.natCast_inj, h1]
  · rw [if_neg h7]
    rw [not_or] at h7
    have h8 : b.take 7 = sgn := by
      by_cases h : b.take 7 = sgn
      · exact h
      · exact absurd h h7.2
    rw [readG_of (by omega) h8 (Int.le_refl _)] at h1
    have hr := right_read b (by omega)
    obtain ⟨k1, k2⟩ := right_small hr
    have h2 := run_write V_T (readV b) k1 k2
    simp only [writeG, hr, if_true] at h2
    generalize readV b = f at *
    simp only at h1
    refine run_wp (by rw [V_T]; exact rfl) ?_
    by_cases hw : bodyW f = b
    · rw [if_pos hw]
      rw [hw] at h2
      simp -dsimp -implicitDefEqProofs (maxSteps := 1000000) (disch := omega) [condP_pos, condP_neg, optP_pos, decide_eq_true, decide_eq_false, wrap_i64, Int.natCast_inj, h1, h2]
    · rw [if_neg hw]
      simp -dsimp -implicitDefEqProofs (maxSteps := 1000000) (disch := omega) [condP_pos, condP_neg, optP_pos, decide_eq_true, decide_eq_false, wrap_i64, Int.natCast_inj, h1, h2, hw]
set_option maxHeartbeats 4000000 in
theorem law_back (b : List UInt8) (hb : b.length < 400000000000) : V.run 13 [bs b] [] = some (bo true, []) := by
  have h1 := run_readV b (b.length + 3) (by omega) (by omega)
  refine run_wp (by rw [V_T]; exact rfl) ?_
  by_cases h7 : b.length < 7 ∨ b.take 7 ≠ sgn
  · unfold readG at h1
    rw [if_pos h7] at h1
    have hm : max ((b.length : Int) + 3) 0 = b.length + 3 := by omega
    rw [hm] at h1
    simp only at h1
    simp -dsimp -implicitDefEqProofs (maxSteps := 1000000) (disch := omega) [condP_pos, condP_neg, optP_pos, decide_eq_true, decide_eq_false, wrap_i64, Int.natCast_inj, run_awake, h1]
  · have h3 := run_strict b (by omega)
    unfold strictG at h3
    rw [if_neg h7] at h3
    rw [not_or] at h7
    have h8 : b.take 7 = sgn := by
      by_cases h : b.take 7 = sgn
      · exact h
      · exact absurd h h7.2
    rw [readG_of (by omega) h8 (by omega)] at h1
    have hr := right_read b (by omega)
    obtain ⟨k1, k2⟩ := right_small hr
    have h2 := run_write V_T (readV b) k1 k2
    simp only [writeG, hr, if_true] at h2
    generalize readV b = f at *
    have hL : 7 ≤ (bodyW f).length := by rw [body_len]; omega
    have hS : (bodyW f).take 7 = sgn := by have := body_sgn f []; rwa [List.append_nil] at this
    have h4 := run_readV (bodyW f) (bodyW f).length (by omega) (by omega)
    rw [readG_of hL hS (Int.le_refl _), read_body hr] at h4
    have h5 := run_strict (bodyW f) (by omega)
    unfold strictG at h5
    rw [if_neg (by rw [not_or]; exact ⟨by omega, fun h => h hS⟩), read_body hr, if_pos rfl] at h5
    have h6 := run_right V_T f k1
    rw [hr] at h6
    have h9 := run_sameFont V_T f f k1
    rw [decide_eq_true rfl] at h9
    simp only at h1 h4 h5
    by_cases hw : bodyW f = b
    · rw [if_pos hw] at h3
      simp only at h3
      subst hw
      simp -dsimp -implicitDefEqProofs (maxSteps := 1000000) (disch := omega) [condP_pos, condP_neg, optP_pos, decide_eq_true, decide_eq_false, wrap_i64, Int.natCast_inj, run_awake, h1, h2, h4, h5, h3, h6, h9]
    · rw [if_neg hw] at h3
      simp only at h3
      simp -dsimp -implicitDefEqProofs (maxSteps := 1000000) (disch := omega) [condP_pos, condP_neg, optP_pos, decide_eq_true, decide_eq_false, wrap_i64, Int.natCast_inj, run_awake, h1, h2, h4, h5, h3, h6, h9, hw]
end Go.Vai
