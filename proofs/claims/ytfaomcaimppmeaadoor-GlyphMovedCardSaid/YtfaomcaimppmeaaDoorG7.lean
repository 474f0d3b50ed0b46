/-
  What functions of layer 5 and of its reference compute: equations of the abstract run.
-/
import Derived.Test.YtfaomcaimppmeaaDoorG1
set_option linter.unusedVariables false
set_option linter.unusedSimpArgs false
set_option linter.unnecessarySimpa false
set_option linter.unusedSectionVars false
namespace Go.Vai
variable {v : Env} (hv : v.T = Tt)
/-! Which runes can be seen. -/
def spans : List (Int × Int) := [(0, 31), (127, 159), (173, 173), (847, 847), (1564, 1564), (6158, 6158), (8203, 8207), (8234, 8238), (8288, 8303), (65024, 65039), (65279, 65279), (917504, 921599)]
def inSpan (x : Int) (p : Int × Int) : Bool := decide (p.1 ≤ x) && decide (x ≤ p.2)
def hidG (x : Int) : Bool := spans.any (inSpan x)
include hv
theorem run_within (r a b : Int) : v.run 56 [i64 r, i64 a, i64 b] [] = some (bo (decide (a ≤ r) && decide (r ≤ b)), []) := by
  refine run_wp (by rw [hv]; exact rfl) ?_
  by_cases h1 : a ≤ r <;> by_cases h2 : r ≤ b <;> simp -dsimp -implicitDefEqProofs (disch := omega) [condP_pos, condP_neg, optP_pos, decide_eq_true, decide_eq_false, wrap_i64, Int.natCast_inj, h1, h2]
def S54 (x : Int) (i : Nat) : St := { sl := [(0, i32 x), (17, .agg (spans.flatMap fun p => [i32 p.1, i32 p.2])), (18, i64 i)], hp := [], nx := 0 }
set_option maxHeartbeats 2000000 in
theorem run_hidden (x : Int) : v.run 54 [i32 x] [] = some (bo (hidG x), []) := by
  refine run_wp (by rw [hv]; exact rfl) ?_
  simp -dsimp -implicitDefEqProofs (disch := omega) [condP_pos, condP_neg, optP_pos, decide_eq_true, decide_eq_false, wrap_i64, Int.natCast_inj]
  refine wp_inv (S54 x) (fun i => i ≤ 12 ∧ hidG x = (spans.drop i).any (inSpan x)) (fun i => 12 - i) 0 (by simp [hidG]) (by simp -dsimp -implicitDefEqProofs (disch := omega) [condP_pos, condP_neg, optP_pos, decide_eq_true, decide_eq_false, wrap_i64, Int.natCast_inj, S54, spans]) ?_
  rintro i ⟨hi, hh⟩
  have hc : i = 0 ∨ i = 1 ∨ i = 2 ∨ i = 3 ∨ i = 4 ∨ i = 5 ∨ i = 6 ∨ i = 7 ∨ i = 8 ∨ i = 9 ∨ i = 10 ∨ i = 11 ∨ i = 12 := by omega
  have nxt : ∀ k : Nat, k < 12 → hidG x = (spans.drop k).any (inSpan x) → ∀ p, spans[k]? = some p → (p.1 ≤ x ∧ x ≤ p.2 ∧ hidG x = true) ∨ (p.1 ≤ x ∧ ¬ x ≤ p.2 ∧ hidG x = (spans.drop (k + 1)).any (inSpan x)) ∨ (¬ p.1 ≤ x ∧ hidG x = (spans.drop (k + 1)).any (inSpan x)) := by
    intro k hk he p hp
    obtain ⟨hk', hp'⟩ := List.getElem?_eq_some_iff.1 hp
    rw [List.drop_eq_getElem_cons hk', List.any_cons, hp'] at he
    by_cases a : p.1 ≤ x
    · by_cases b : x ≤ p.2
      · exact .inl ⟨a, b, by rw [he]; simp [inSpan, a, b]⟩
      · exact .inr (.inl ⟨a, b, by rw [he]; simp [inSpan, a, b]⟩)
    · exact .inr (.inr ⟨a, by rw [he]; simp [inSpan, a]⟩)
  rcases hc with rfl | rfl | rfl | rfl | rfl | rfl | rfl | rfl | rfl | rfl | rfl | rfl | rfl
  case inr.inr.inr.inr.inr.inr.inr.inr.inr.inr.inr.inr =>
    have : spans.drop 12 = [] := rfl
    rw [this] at hh
    simp at hh
    simp -dsimp -implicitDefEqProofs (disch := omega) [condP_pos, condP_neg, optP_pos, decide_eq_true, decide_eq_false, wrap_i64, Int.natCast_inj, S54, hh, spans]
  all_goals
    rcases nxt _ (by omega) hh _ rfl with ⟨h1, h2, hn⟩ | ⟨h1, h2, hn⟩ | ⟨h1, hn⟩
    · simp only at h1 h2
      simp -dsimp -implicitDefEqProofs (disch := omega) [condP_pos, condP_neg, optP_pos, decide_eq_true, decide_eq_false, wrap_i64, Int.natCast_inj, S54, spans, h1, h2, hn]
    · simp only at h1 h2
      simp -dsimp -implicitDefEqProofs (disch := omega) [condP_pos, condP_neg, optP_pos, decide_eq_true, decide_eq_false, wrap_i64, Int.natCast_inj, S54, spans, h1, h2]
      refine again _ ⟨?_, hn⟩ ?_ ?_
      · omega
      · first | omega | (simp only; omega) | decide
      · simp -dsimp -implicitDefEqProofs (disch := omega) [condP_pos, condP_neg, optP_pos, decide_eq_true, decide_eq_false, wrap_i64, Int.natCast_inj, S54, spans]
    · simp only at h1
      simp -dsimp -implicitDefEqProofs (disch := omega) [condP_pos, condP_neg, optP_pos, decide_eq_true, decide_eq_false, wrap_i64, Int.natCast_inj, S54, spans, h1]
      refine again _ ⟨?_, hn⟩ ?_ ?_
      · omega
      · first | omega | (simp only; omega) | decide
      · simp -dsimp -implicitDefEqProofs (disch := omega) [condP_pos, condP_neg, optP_pos, decide_eq_true, decide_eq_false, wrap_i64, Int.natCast_inj, S54, spans]
end Go.Vai
