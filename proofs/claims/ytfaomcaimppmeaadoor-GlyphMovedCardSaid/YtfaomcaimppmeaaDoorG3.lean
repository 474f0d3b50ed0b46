/-
  What functions of layer 5 and of its reference compute: equations of the abstract run.
-/
import Derived.Test.YtfaomcaimppmeaaDoorG2
set_option linter.unusedVariables false
set_option linter.unusedSimpArgs false
set_option linter.unnecessarySimpa false
set_option linter.unusedSectionVars false
namespace Go.Vai
variable {v : Env} (hv : v.T = Tt)
instance decGl : DecidableEq Gl := inferInstanceAs (DecidableEq (Int × List (List (Int × Int)) × List (Int × Int × Int)))
instance decFont : DecidableEq Font := inferInstanceAs (DecidableEq (List Gl × List Pt))
/-- No list is longer than a machine bears. -/
def okOls (l : List Ol) : Prop := l.length < 1000000000000 ∧ ∀ o ∈ l, o.length < 1000000000000
def okGl (g : Gl) : Prop := okOls g.2.1 ∧ g.2.2.length < 1000000000000
def okFont (f : Font) : Prop := f.1.length < 1000000000000 ∧ f.2.length < 1000000000000 ∧ ∀ g ∈ f.1, okGl g
include hv
def S27 (R : List Pt × List Pt) (a : List Gl × List Gl × List Gl) : St :=
  { sl := [(2, .bp 0 0), (3, .bp 1 0), (5, i64 a.1.length)],
    hp := [(0, some (.box [rw_ ((a.1 ++ a.2.1).map eGl), rw_ (R.1.map ePt)])), (1, some (.box [rw_ ((a.1 ++ a.2.2).map eGl), rw_ (R.2.map ePt)]))], nx := 2 }
def T27 (G : List Gl × List Gl) (a : List Pt × List Pt × List Pt) : St :=
  { sl := [(2, .bp 0 0), (3, .bp 1 0), (8, i64 a.1.length)],
    hp := [(0, some (.box [rw_ (G.1.map eGl), rw_ ((a.1 ++ a.2.1).map ePt)])), (1, some (.box [rw_ (G.2.map eGl), rw_ ((a.1 ++ a.2.2).map ePt)]))], nx := 2 }
set_option maxHeartbeats 2000000 in
theorem run_sameFont (f g : Font) (hf : okFont f) : v.run 27 [aFont f, aFont g] [] = some (bo (decide (f = g)), []) := by
  refine run_wp (by rw [hv]; exact rfl) ?_
  obtain ⟨h0, h1, h2⟩ := hf
  obtain ⟨fg, fr⟩ := f
  obtain ⟨gg, gr⟩ := g
  simp only at h0 h1 h2
  by_cases hl : fg.length = gg.length
  · by_cases hl2 : fr.length = gr.length
    · simp -dsimp -implicitDefEqProofs (disch := omega) [condP_pos, condP_neg, optP_pos, decide_eq_true, decide_eq_false, wrap_i64, Int.natCast_inj, hl, hl2]
      refine wp_inv (S27 (fr, gr)) (fun a => a.1 ++ a.2.1 = fg ∧ a.1 ++ a.2.2 = gg) (fun a => a.2.1.length) ([], fg, gg) (by simp) (by simp -dsimp -implicitDefEqProofs (disch := omega) [condP_pos, condP_neg, optP_pos, decide_eq_true, decide_eq_false, wrap_i64, Int.natCast_inj, S27]) ?_
      rintro ⟨pre, ra, rb⟩ ⟨e1, e2⟩
      subst e1; subst e2
      simp at h0 hl
      cases ra with
      | nil =>
        obtain rfl : rb = [] := List.eq_nil_of_length_eq_zero (by simpa using hl.symm)
        simp -dsimp -implicitDefEqProofs (disch := omega) [condP_pos, condP_neg, optP_pos, decide_eq_true, decide_eq_false, wrap_i64, Int.natCast_inj, S27]
        refine wp_inv (T27 (pre, pre)) (fun a => a.1 ++ a.2.1 = fr ∧ a.1 ++ a.2.2 = gr) (fun a => a.2.1.length) ([], fr, gr) (by simp) (by simp -dsimp -implicitDefEqProofs (disch := omega) [condP_pos, condP_neg, optP_pos, decide_eq_true, decide_eq_false, wrap_i64, Int.natCast_inj, T27]) ?_
        rintro ⟨pre', ra, rb⟩ ⟨e1, e2⟩
        subst e1; subst e2
        simp at h1 hl2
        cases ra with
        | nil =>
          obtain rfl : rb = [] := List.eq_nil_of_length_eq_zero (by simpa using hl2.symm)
          simp -dsimp -implicitDefEqProofs (disch := omega) [condP_pos, condP_neg, optP_pos, decide_eq_true, decide_eq_false, wrap_i64, Int.natCast_inj, T27]
        | cons p ra =>
          cases rb with
          | nil => simp at hl2
          | cons q rb =>
            simp at hl2 h1
            by_cases e : p = q
            · subst e
              simp -dsimp -implicitDefEqProofs (disch := omega) [condP_pos, condP_neg, optP_pos, decide_eq_true, decide_eq_false, wrap_i64, Int.natCast_inj, T27]
              refine again (pre' ++ [p], ra, rb) ?_ ?_ ?_
              · simp
              · simp
              · simp -dsimp -implicitDefEqProofs (disch := omega) [condP_pos, condP_neg, optP_pos, decide_eq_true, decide_eq_false, wrap_i64, Int.natCast_inj, T27]
            · have : ¬ (p.1 = q.1 ∧ p.2 = q.2) := fun h => e (Prod.ext h.1 h.2)
              by_cases e1 : p.1 = q.1 <;> by_cases e2 : p.2 = q.2 <;> simp [e1, e2] at this <;> simp -dsimp -implicitDefEqProofs (disch := omega) [condP_pos, condP_neg, optP_pos, decide_eq_true, decide_eq_false, wrap_i64, Int.natCast_inj, T27, e1, e2, e]
      | cons p ra =>
        cases rb with
        | nil => simp at hl
        | cons q rb =>
          simp at hl h0
          have hp := h2 p (by simp)
          have hA := run_sameOls hv p.2.1 q.2.1 hp.1.1 hp.1.2
          have hB := run_samePcs hv p.2.2 q.2.2 hp.2
          by_cases e : p = q
          · subst e
            simp -dsimp -implicitDefEqProofs (disch := omega) [condP_pos, condP_neg, optP_pos, decide_eq_true, decide_eq_false, wrap_i64, Int.natCast_inj, S27, hA, hB]
            refine again (pre ++ [p], ra, rb) ?_ ?_ ?_
            · simp
            · simp
            · simp -dsimp -implicitDefEqProofs (disch := omega) [condP_pos, condP_neg, optP_pos, decide_eq_true, decide_eq_false, wrap_i64, Int.natCast_inj, S27]
          · have : ¬ (p.1 = q.1 ∧ p.2.1 = q.2.1 ∧ p.2.2 = q.2.2) := fun h => e (Prod.ext h.1 (Prod.ext h.2.1 h.2.2))
            by_cases e1 : p.1 = q.1
            · by_cases e2 : p.2.1 = q.2.1
              · rw [e2] at hA
                by_cases e3 : p.2.2 = q.2.2
                · exact absurd ⟨e1, e2, e3⟩ this
                · simp -dsimp -implicitDefEqProofs (disch := omega) [condP_pos, condP_neg, optP_pos, decide_eq_true, decide_eq_false, wrap_i64, Int.natCast_inj, S27, hA, hB, e1, e2, e3, e]
              · simp -dsimp -implicitDefEqProofs (disch := omega) [condP_pos, condP_neg, optP_pos, decide_eq_true, decide_eq_false, wrap_i64, Int.natCast_inj, S27, hA, hB, e1, e2, e]
            · simp -dsimp -implicitDefEqProofs (disch := omega) [condP_pos, condP_neg, optP_pos, decide_eq_true, decide_eq_false, wrap_i64, Int.natCast_inj, S27, hA, hB, e1, e]
    · have : fr ≠ gr := fun e => hl2 (by rw [e])
      simp -dsimp -implicitDefEqProofs (disch := omega) [condP_pos, condP_neg, optP_pos, decide_eq_true, decide_eq_false, wrap_i64, Int.natCast_inj, hl, hl2, this]
  · have : fg ≠ gg := fun e => hl (by rw [e])
    simp -dsimp -implicitDefEqProofs (disch := omega) [condP_pos, condP_neg, optP_pos, decide_eq_true, decide_eq_false, wrap_i64, Int.natCast_inj, hl, this]
def S28 (a : List Ol × List Ol) : St :=
  { sl := [(0, rw_ ((a.1 ++ a.2).map eOl)), (3, .osl 0 1 0 a.1.length), (4, i64 a.1.length)], hp := [(0, some (.arr 1 (a.1.map eOl)))], nx := 1 }
theorem run_copiedOls (l : List Ol) (h : l.length < 1000000000) (h2 : ∀ o ∈ l, o.length < 1000000000) : v.run 28 [rw_ (l.map eOl)] [] = some (rw_ (l.map eOl), []) := by
  refine run_wp (by rw [hv]; exact rfl) ?_
  simp -dsimp -implicitDefEqProofs (disch := omega) [condP_pos, condP_neg, optP_pos, decide_eq_true, decide_eq_false, wrap_i64, Int.natCast_inj]
  refine wp_inv S28 (fun a => a.1 ++ a.2 = l) (fun a => a.2.length) ([], l) (by simp) (by simp -dsimp -implicitDefEqProofs (disch := omega) [condP_pos, condP_neg, optP_pos, decide_eq_true, decide_eq_false, wrap_i64, Int.natCast_inj, S28]) ?_
  rintro ⟨pre, rest⟩ rfl
  cases rest with
  | nil => simp -dsimp -implicitDefEqProofs (disch := omega) [condP_pos, condP_neg, optP_pos, decide_eq_true, decide_eq_false, wrap_i64, Int.natCast_inj, S28]
  | cons p rest =>
    simp at h
    have := h2 p (by simp)
    simp -dsimp -implicitDefEqProofs (disch := omega) [condP_pos, condP_neg, optP_pos, decide_eq_true, decide_eq_false, wrap_i64, Int.natCast_inj, S28]
    refine again (pre ++ [p], rest) ?_ ?_ ?_
    · simp
    · simp
    · simp -dsimp -implicitDefEqProofs (disch := omega) [condP_pos, condP_neg, optP_pos, decide_eq_true, decide_eq_false, wrap_i64, Int.natCast_inj, S28, eOl]
end Go.Vai
