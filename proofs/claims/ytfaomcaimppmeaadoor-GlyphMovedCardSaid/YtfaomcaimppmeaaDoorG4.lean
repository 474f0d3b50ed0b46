/-
  What functions of layer 5 and of its reference compute: equations of the abstract run.
-/
import Derived.Test.YtfaomcaimppmeaaDoorG3
set_option linter.unusedVariables false
set_option linter.unusedSimpArgs false
set_option linter.unnecessarySimpa false
set_option linter.unusedSectionVars false
namespace Go.Vai
variable {v : Env} (hv : v.T = Tt)
/-- Few things. -/
def szOls : List Ol → Nat
  | [] => 0
  | o :: r => o.length + szOls r
def szGls : List Gl → Nat
  | [] => 0
  | g :: r => g.2.2.length + g.2.1.length + szOls g.2.1 + szGls r
def fontSize (f : Font) : Nat := f.1.length + f.2.length + szGls f.1
include hv
def S19 (f : Font) (a : List Gl × List Gl) : St :=
  { sl := [(1, .bp 0 0), (2, .bp 1 0), (3, .bp 2 0), (4, i64 a.1.length)],
    hp := [(0, some (.box [rw_ ((a.1 ++ a.2).map eGl), rw_ (f.2.map ePt)])), (1, some (.box [.emp, .emp])), (2, some (.box [.osl 3 3 0 a.1.length, .osl 4 2 0 f.2.length])),
      (3, some (.arr 3 (a.1.map eGl))), (4, some (.arr 2 (f.2.map ePt)))], nx := 5 }
set_option maxHeartbeats 1000000 in
theorem run_copied (f : Font) (h1 : f.1.length < 1000000000) (h2 : f.2.length < 1000000000) (h3 : ∀ g ∈ f.1, g.2.2.length < 1000000000 ∧ g.2.1.length < 1000000000 ∧ ∀ o ∈ g.2.1, o.length < 1000000000) : v.run 19 [aFont f] [] = some (aFont f, []) := by
  refine run_wp (by rw [hv]; exact rfl) ?_
  obtain ⟨fg, fr⟩ := f
  simp only at h1 h2 h3
  simp -dsimp -implicitDefEqProofs (disch := omega) [condP_pos, condP_neg, optP_pos, decide_eq_true, decide_eq_false, wrap_i64, Int.natCast_inj]
  refine wp_inv (S19 (fg, fr)) (fun a => a.1 ++ a.2 = fg) (fun a => a.2.length) ([], fg) (by simp) (by simp -dsimp -implicitDefEqProofs (disch := omega) [condP_pos, condP_neg, optP_pos, decide_eq_true, decide_eq_false, wrap_i64, Int.natCast_inj, S19]) ?_
  rintro ⟨pre, rest⟩ rfl
  cases rest with
  | nil => simp -dsimp -implicitDefEqProofs (disch := omega) [condP_pos, condP_neg, optP_pos, decide_eq_true, decide_eq_false, wrap_i64, Int.natCast_inj, S19]
  | cons p rest =>
    simp at h1
    obtain ⟨g1, g2, g3⟩ := h3 p (by simp)
    have hc := run_copiedOls hv p.2.1 g2 g3
    clear h3 g3
    simp -dsimp -implicitDefEqProofs (disch := omega) [condP_pos, condP_neg, optP_pos, decide_eq_true, decide_eq_false, wrap_i64, Int.natCast_inj, S19, hc]
    refine again (pre ++ [p], rest) ?_ ?_ ?_
    · simp
    · simp
    · simp -dsimp -implicitDefEqProofs (disch := omega) [condP_pos, condP_neg, optP_pos, decide_eq_true, decide_eq_false, wrap_i64, Int.natCast_inj, S19, eGl]
def S18 (f : Font) (most : Int) (a : List Gl × List Gl × Nat) : St :=
  { sl := [(1, i64 most), (2, .bp 0 0), (5, i64 a.2.2), (6, i64 a.1.length)],
    hp := [(0, some (.box [rw_ ((a.1 ++ a.2.1).map eGl), rw_ (f.2.map ePt)]))], nx := 1 }
def T18 (f : Font) (most : Int) (pre : List Gl) (p : Gl) (rest : List Gl) (a : List Ol × List Ol × Nat) : St :=
  { sl := [(1, i64 most), (2, .bp 0 0), (5, i64 a.2.2), (6, i64 pre.length), (7, i64 a.1.length)],
    hp := [(0, some (.box [rw_ ((pre ++ p :: rest).map eGl), rw_ (f.2.map ePt)]))], nx := 1 }
set_option maxHeartbeats 1000000 in
theorem run_few (f : Font) (most : Int) (hm : most < 1000000000000) (hf : okFont f) : v.run 18 [aFont f, i64 most] [] = some (bo (decide ((fontSize f : Int) ≤ most)), []) := by
  refine run_wp (by rw [hv]; exact rfl) ?_
  obtain ⟨fg, fr⟩ := f
  obtain ⟨h0, h1, h2⟩ := hf
  simp only at h0 h1 h2
  generalize hF : fontSize (fg, fr) = F
  simp -dsimp -implicitDefEqProofs (disch := omega) [condP_pos, condP_neg, optP_pos, decide_eq_true, decide_eq_false, wrap_i64, Int.natCast_inj]
  refine wp_inv (S18 (fg, fr) most) (fun a => a.1 ++ a.2.1 = fg ∧ a.2.2 + szGls a.2.1 ≤ F ∧ ((a.2.2 : Int) ≤ most → a.2.2 + szGls a.2.1 = F) ∧ a.2.2 < 4000000000000) (fun a => a.2.1.length) ([], fg, fg.length + fr.length) (by refine ⟨by simp, by simp [← hF, fontSize], by simp [← hF, fontSize], ?_⟩; simp only; omega) (by simp -dsimp -implicitDefEqProofs (disch := omega) [condP_pos, condP_neg, optP_pos, decide_eq_true, decide_eq_false, wrap_i64, Int.natCast_inj, S18]) ?_
  rintro ⟨pre, rest, n⟩ ⟨e1, e2, e2', e3⟩
  simp only at e1 e2 e2' e3
  cases rest with
  | nil =>
    simp only [szGls] at e2 e2'
    by_cases hn : (n : Int) ≤ most
    · have := e2' hn
      simp -dsimp -implicitDefEqProofs (disch := omega) [condP_pos, condP_neg, optP_pos, decide_eq_true, decide_eq_false, wrap_i64, Int.natCast_inj, S18, hn]
    · simp -dsimp -implicitDefEqProofs (disch := omega) [condP_pos, condP_neg, optP_pos, decide_eq_true, decide_eq_false, wrap_i64, Int.natCast_inj, S18, hn]
  | cons p rest =>
    have hl : pre.length + (rest.length + 1) < 1000000000000 := by rw [← e1] at h0; simpa using h0
    obtain ⟨adv, ols, pcs⟩ := p
    have hp := h2 (adv, ols, pcs) (by rw [← e1]; simp)
    obtain ⟨⟨p1, p2⟩, p3⟩ := hp
    clear h2
    simp only at p1 p2 p3
    simp only [szGls] at e2 e2'
    by_cases hn : (n : Int) ≤ most
    · have e2 := e2' hn
      simp -dsimp -implicitDefEqProofs (disch := omega) [condP_pos, condP_neg, optP_pos, decide_eq_true, decide_eq_false, wrap_i64, Int.natCast_inj, S18, hn]
      refine wp_inv (T18 (fg, fr) most pre (adv, ols, pcs) rest) (fun a => a.1 ++ a.2.1 = ols ∧ a.2.2 + szOls a.2.1 + szGls rest = F ∧ a.2.2 < 4000000000000) (fun a => a.2.1.length) ([], ols, n + (pcs.length + ols.length)) (by refine ⟨by simp, ?_, ?_⟩ <;> simp only <;> omega) (by simp -dsimp -implicitDefEqProofs (disch := omega) [condP_pos, condP_neg, optP_pos, decide_eq_true, decide_eq_false, wrap_i64, Int.natCast_inj, T18]) ?_
      rintro ⟨q, r, k⟩ ⟨d1, d2, d3⟩
      simp only at d1 d2 d3
      subst d1
      cases r with
      | nil =>
        simp only [szOls] at d2
        simp -dsimp -implicitDefEqProofs (disch := omega) [condP_pos, condP_neg, optP_pos, decide_eq_true, decide_eq_false, wrap_i64, Int.natCast_inj, T18]
        refine again (pre ++ [(adv, q ++ [], pcs)], rest, k) ?_ ?_ ?_
        · refine ⟨by simp [← e1], ?_, ?_, ?_⟩ <;> simp only <;> omega
        · simp
        · simp -dsimp -implicitDefEqProofs (disch := omega) [condP_pos, condP_neg, optP_pos, decide_eq_true, decide_eq_false, wrap_i64, Int.natCast_inj, S18]
      | cons o r =>
        have ho := p2 o (by simp)
        have hq : q.length + (r.length + 1) < 1000000000000 := by simpa using p1
        simp only [szOls] at d2
        clear p2 p1
        by_cases hk : (k : Int) ≤ most
        · simp -dsimp -implicitDefEqProofs (disch := omega) [condP_pos, condP_neg, optP_pos, decide_eq_true, decide_eq_false, wrap_i64, Int.natCast_inj, T18, hk]
          refine again (q ++ [o], r, k + o.length) ?_ ?_ ?_
          · refine ⟨by simp, ?_, ?_⟩ <;> simp only <;> omega
          · simp
          · simp -dsimp -implicitDefEqProofs (disch := omega) [condP_pos, condP_neg, optP_pos, decide_eq_true, decide_eq_false, wrap_i64, Int.natCast_inj, T18]
        · simp -dsimp -implicitDefEqProofs (disch := omega) [condP_pos, condP_neg, optP_pos, decide_eq_true, decide_eq_false, wrap_i64, Int.natCast_inj, T18, hk]
          refine again (pre ++ [(adv, q ++ o :: r, pcs)], rest, k) ?_ ?_ ?_
          · refine ⟨by simp [← e1], ?_, ?_, ?_⟩ <;> simp only <;> omega
          · simp
          · simp -dsimp -implicitDefEqProofs (disch := omega) [condP_pos, condP_neg, optP_pos, decide_eq_true, decide_eq_false, wrap_i64, Int.natCast_inj, S18]
    · simp -dsimp -implicitDefEqProofs (disch := omega) [condP_pos, condP_neg, optP_pos, decide_eq_true, decide_eq_false, wrap_i64, Int.natCast_inj, S18, hn]
end Go.Vai
