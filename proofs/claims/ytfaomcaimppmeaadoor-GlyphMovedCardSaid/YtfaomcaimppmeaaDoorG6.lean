/-
  What functions of layer 5 and of its reference compute: equations of the abstract run.
-/
import Derived.Test.YtfaomcaimppmeaaDoorG5
set_option linter.unusedVariables false
set_option linter.unusedSimpArgs false
set_option linter.unnecessarySimpa false
set_option linter.unusedSectionVars false
namespace Go.Vai
variable {v : Env} (hv : v.T = Tt)
def denG (d : Int) : Int := max 1 (min d 1048576)
theorem denG_b (d : Int) : 1 ≤ denG d ∧ denG d ≤ 1048576 := by unfold denG; omega
def boxG : Option (Int × Int × Int × Int) → List Pt → Option (Int × Int × Int × Int)
  | b, [] => b
  | none, p :: r => boxG (some (p.1, p.2, p.1, p.2)) r
  | some b, p :: r => boxG (some (min b.1 p.1, min b.2.1 p.2, max b.2.2.1 p.1, max b.2.2.2 p.2)) r
include hv
def S32 (n d : Int) (x : List Ol × List Ol) : St :=
  { sl := [(7, .fn 64 [.bp 0 0, .bp 1 0]), (8, .osl 2 1 0 x.1.length), (20, rw_ ((x.1 ++ x.2).map eOl)), (21, i64 (x.1 ++ x.2).length), (22, i64 x.1.length)],
    hp := [(0, some (.box [i64 n])), (1, some (.box [i64 d])), (2, some (.arr 1 (x.1.map (eOlF (scaledP n d)))))], nx := 3 }
def T32 (n d : Int) (pre : List Ol) (o : Ol) (rest : List Ol) (x : List Pt × List Pt) : St :=
  { sl := [(7, .fn 64 [.bp 0 0, .bp 1 0]), (8, .osl 2 1 0 pre.length), (11, .osl 3 2 0 x.1.length), (20, rw_ ((pre ++ o :: rest).map eOl)), (21, i64 (pre ++ o :: rest).length), (22, i64 pre.length), (29, rw_ ((x.1 ++ x.2).map ePt)), (30, i64 (x.1 ++ x.2).length), (31, i64 x.1.length)],
    hp := [(0, some (.box [i64 n])), (1, some (.box [i64 d])), (2, some (.arr 1 (pre.map (eOlF (scaledP n d))))), (3, some (.arr 2 (x.1.map fun p => ePt (scaledP n d p))))], nx := 4 }
set_option maxHeartbeats 1000000 in
theorem run_scale (a b : Int) (l : List Ol) (h : l.length < 1000000000) (h2 : ∀ o ∈ l, o.length < 1000000000) : v.run 32 [rw_ (l.map eOl), i64 a, i64 b] [] = some (rw_ ((l.map (List.map (scaledP (cut a) (denG b)))).map eOl), []) := by
  rw [← eOlF_eq]
  refine run_wp (by rw [hv]; exact rfl) ?_
  have c1 := cut_b a
  have c2 := denG_b b
  simp -dsimp -implicitDefEqProofs (disch := omega) [condP_pos, condP_neg, optP_pos, decide_eq_true, decide_eq_false, wrap_i64, Int.natCast_inj, run_cut hv]
  refine wp_inv (S32 (cut a) (denG b)) (fun a => a.1 ++ a.2 = l) (fun a => a.2.length) ([], l) (by simp) (by simp -dsimp -implicitDefEqProofs (disch := omega) [condP_pos, condP_neg, optP_pos, decide_eq_true, decide_eq_false, wrap_i64, Int.natCast_inj, S32, denG]) ?_
  rintro ⟨pre, rest⟩ rfl
  cases rest with
  | nil => simp -dsimp -implicitDefEqProofs (disch := omega) [condP_pos, condP_neg, optP_pos, decide_eq_true, decide_eq_false, wrap_i64, Int.natCast_inj, S32]
  | cons o rest =>
    simp at h
    have ho := h2 o (by simp)
    clear h2
    simp -dsimp -implicitDefEqProofs (disch := omega) [condP_pos, condP_neg, optP_pos, decide_eq_true, decide_eq_false, wrap_i64, Int.natCast_inj, S32]
    refine wp_inv (T32 (cut a) (denG b) pre o rest) (fun x => x.1 ++ x.2 = o) (fun x => x.2.length) ([], o) (by simp) (by simp -dsimp -implicitDefEqProofs (disch := omega) [condP_pos, condP_neg, optP_pos, decide_eq_true, decide_eq_false, wrap_i64, Int.natCast_inj, T32]) ?_
    rintro ⟨q, r⟩ rfl
    cases r with
    | nil =>
      simp -dsimp -implicitDefEqProofs (disch := omega) [condP_pos, condP_neg, optP_pos, decide_eq_true, decide_eq_false, wrap_i64, Int.natCast_inj, T32]
      refine again (pre ++ [q], rest) ?_ ?_ ?_
      · simp
      · simp
      · simp -dsimp -implicitDefEqProofs (disch := omega) [condP_pos, condP_neg, optP_pos, decide_eq_true, decide_eq_false, wrap_i64, Int.natCast_inj, S32, eOlF]
    | cons p r =>
      simp at ho
      have t1 := run_times hv (cut a) (denG b) p.1 c1 c2.1
      have t2 := run_times hv (cut a) (denG b) p.2 c1 c2.1
      simp -dsimp -implicitDefEqProofs (disch := omega) [condP_pos, condP_neg, optP_pos, decide_eq_true, decide_eq_false, wrap_i64, Int.natCast_inj, T32, t1, t2]
      refine again (q ++ [p], r) ?_ ?_ ?_
      · simp
      · simp
      · simp -dsimp -implicitDefEqProofs (disch := omega) [condP_pos, condP_neg, optP_pos, decide_eq_true, decide_eq_false, wrap_i64, Int.natCast_inj, T32, ePt, scaledP]
def S34 (n d : Int) (x : List Ol × List Ol) : St :=
  { sl := [(0, rw_ ((x.1 ++ x.2).map eOl)), (7, i64 n), (8, i64 d), (9, .osl 0 1 0 x.1.length), (10, i64 x.1.length)],
    hp := [(0, some (.arr 1 (x.1.map (eOlF (scaledP n d)))))], nx := 1 }
def T34 (n d : Int) (pre : List Ol) (o : Ol) (rest : List Ol) (x : List Pt × List Pt) : St :=
  { sl := [(0, rw_ ((pre ++ o :: rest).map eOl)), (7, i64 n), (8, i64 d), (9, .osl 0 1 0 pre.length), (10, i64 pre.length), (11, .osl 1 2 0 x.1.length), (12, i64 x.1.length)],
    hp := [(0, some (.arr 1 (pre.map (eOlF (scaledP n d))))), (1, some (.arr 2 (x.1.map fun p => ePt (scaledP n d p))))], nx := 2 }
set_option maxHeartbeats 1000000 in
theorem run_rscale (a b : Int) (l : List Ol) (h : l.length < 1000000000) (h2 : ∀ o ∈ l, o.length < 1000000000) : v.run 34 [rw_ (l.map eOl), i64 a, i64 b] [] = some (rw_ ((l.map (List.map (scaledP (cut a) (denG b)))).map eOl), []) := by
  rw [← eOlF_eq]
  refine run_wp (by rw [hv]; exact rfl) ?_
  have c1 := cut_b a
  have c2 := denG_b b
  simp -dsimp -implicitDefEqProofs (disch := omega) [condP_pos, condP_neg, optP_pos, decide_eq_true, decide_eq_false, wrap_i64, Int.natCast_inj, run_rcut hv]
  refine wp_inv (S34 (cut a) (denG b)) (fun a => a.1 ++ a.2 = l) (fun a => a.2.length) ([], l) (by simp) (by simp -dsimp -implicitDefEqProofs (disch := omega) [condP_pos, condP_neg, optP_pos, decide_eq_true, decide_eq_false, wrap_i64, Int.natCast_inj, S34, denG]) ?_
  rintro ⟨pre, rest⟩ rfl
  cases rest with
  | nil => simp -dsimp -implicitDefEqProofs (disch := omega) [condP_pos, condP_neg, optP_pos, decide_eq_true, decide_eq_false, wrap_i64, Int.natCast_inj, S34]
  | cons o rest =>
    simp at h
    have ho := h2 o (by simp)
    clear h2
    simp -dsimp -implicitDefEqProofs (disch := omega) [condP_pos, condP_neg, optP_pos, decide_eq_true, decide_eq_false, wrap_i64, Int.natCast_inj, S34]
    refine wp_inv (T34 (cut a) (denG b) pre o rest) (fun x => x.1 ++ x.2 = o) (fun x => x.2.length) ([], o) (by simp) (by simp -dsimp -implicitDefEqProofs (disch := omega) [condP_pos, condP_neg, optP_pos, decide_eq_true, decide_eq_false, wrap_i64, Int.natCast_inj, T34]) ?_
    rintro ⟨q, r⟩ rfl
    cases r with
    | nil =>
      simp -dsimp -implicitDefEqProofs (disch := omega) [condP_pos, condP_neg, optP_pos, decide_eq_true, decide_eq_false, wrap_i64, Int.natCast_inj, T34]
      refine again (pre ++ [q], rest) ?_ ?_ ?_
      · simp
      · simp
      · simp -dsimp -implicitDefEqProofs (disch := omega) [condP_pos, condP_neg, optP_pos, decide_eq_true, decide_eq_false, wrap_i64, Int.natCast_inj, S34, eOlF]
    | cons p r =>
      simp at ho
      have m1 := mul_b (cut_b p.1) c1
      have m2 := mul_b (cut_b p.2) c1
      have d1 := run_divide hv _ (denG b) m1 c2.1
      have d2 := run_divide hv _ (denG b) m2 c2.1
      simp -dsimp -implicitDefEqProofs (disch := omega) [condP_pos, condP_neg, optP_pos, decide_eq_true, decide_eq_false, wrap_i64, Int.natCast_inj, T34, run_rcut hv, d1, d2]
      refine again (q ++ [p], r) ?_ ?_ ?_
      · simp
      · simp
      · simp -dsimp -implicitDefEqProofs (disch := omega) [condP_pos, condP_neg, optP_pos, decide_eq_true, decide_eq_false, wrap_i64, Int.natCast_inj, T34, ePt, scaledP, timesG]
/-! Bounds. -/
abbrev Bx := Int × Int × Int × Int
def boxOr (b : Option Bx) : Bx := b.getD (0, 0, 0, 0)
def S29 (x : List Ol × List Ol × Option Bx) : St :=
  { sl := [(2, .bp 0 0), (4, .bp 1 0), (5, bo x.2.2.isSome), (10, rw_ ((x.1 ++ x.2.1).map eOl)), (11, i64 (x.1 ++ x.2.1).length), (12, i64 x.1.length)],
    hp := [(0, some (.box [i64 0, i64 0, i64 0, i64 0])), (1, some (.box [i64 (boxOr x.2.2).1, i64 (boxOr x.2.2).2.1, i64 (boxOr x.2.2).2.2.1, i64 (boxOr x.2.2).2.2.2]))], nx := 2 }
def T29 (pre : List Ol) (o : Ol) (rest : List Ol) (x : List Pt × List Pt × Option Bx) : St :=
  { sl := [(2, .bp 0 0), (4, .bp 1 0), (5, bo x.2.2.isSome), (10, rw_ ((pre ++ o :: rest).map eOl)), (11, i64 (pre ++ o :: rest).length), (12, i64 pre.length), (16, rw_ ((x.1 ++ x.2.1).map ePt)), (17, i64 (x.1 ++ x.2.1).length), (18, i64 x.1.length)],
    hp := [(0, some (.box [i64 0, i64 0, i64 0, i64 0])), (1, some (.box [i64 (boxOr x.2.2).1, i64 (boxOr x.2.2).2.1, i64 (boxOr x.2.2).2.2.1, i64 (boxOr x.2.2).2.2.2]))], nx := 2 }
def boundsG (b : Option Bx) : List Ol → Option Bx
  | [] => b
  | o :: r => boundsG (boxG b o) r
def aBx (b : Bx) : AV := .agg [i64 b.1, i64 b.2.1, i64 b.2.2.1, i64 b.2.2.2]
set_option maxHeartbeats 1000000 in
theorem run_bounds29 (l : List Ol) (h : l.length < 1000000000) (h2 : ∀ o ∈ l, o.length < 1000000000) : v.run 29 [rw_ (l.map eOl)] [] = some (.tup [aBx (boxOr (boundsG none l)), bo (boundsG none l).isSome], []) := by
  refine run_wp (by rw [hv]; exact rfl) ?_
  simp -dsimp -implicitDefEqProofs (disch := omega) [condP_pos, condP_neg, optP_pos, decide_eq_true, decide_eq_false, wrap_i64, Int.natCast_inj]
  refine wp_inv S29 (fun a => a.1 ++ a.2.1 = l ∧ boundsG none l = boundsG a.2.2 a.2.1) (fun a => a.2.1.length) ([], l, none) (by simp) (by simp -dsimp -implicitDefEqProofs (disch := omega) [condP_pos, condP_neg, optP_pos, decide_eq_true, decide_eq_false, wrap_i64, Int.natCast_inj, S29, boxOr]) ?_
  rintro ⟨pre, rest, b⟩ ⟨e1, e2⟩
  simp only at e1 e2
  rw [e2]
  subst e1
  cases rest with
  | nil => simp -dsimp -implicitDefEqProofs (disch := omega) [condP_pos, condP_neg, optP_pos, decide_eq_true, decide_eq_false, wrap_i64, Int.natCast_inj, S29, boundsG, aBx]
  | cons o rest =>
    simp at h
    have ho := h2 o (by simp)
    clear h2
    simp -dsimp -implicitDefEqProofs (disch := omega) [condP_pos, condP_neg, optP_pos, decide_eq_true, decide_eq_false, wrap_i64, Int.natCast_inj, S29]
    refine wp_inv (T29 pre o rest) (fun x => x.1 ++ x.2.1 = o ∧ boundsG b (o :: rest) = boundsG (boxG x.2.2 x.2.1) rest) (fun x => x.2.1.length) ([], o, b) (by simp [boundsG]) (by simp -dsimp -implicitDefEqProofs (disch := omega) [condP_pos, condP_neg, optP_pos, decide_eq_true, decide_eq_false, wrap_i64, Int.natCast_inj, T29]) ?_
    rintro ⟨q, r, b'⟩ ⟨d1, d2⟩
    simp only at d1 d2
    subst d1
    cases r with
    | nil =>
      simp -dsimp -implicitDefEqProofs (disch := omega) [condP_pos, condP_neg, optP_pos, decide_eq_true, decide_eq_false, wrap_i64, Int.natCast_inj, T29]
      refine again (pre ++ [q], rest, b') ?_ ?_ ?_
      · exact ⟨by simp, by simp only; rw [d2]; simp [boxG]⟩
      · simp
      · simp -dsimp -implicitDefEqProofs (disch := omega) [condP_pos, condP_neg, optP_pos, decide_eq_true, decide_eq_false, wrap_i64, Int.natCast_inj, S29]
    | cons p r =>
      simp at ho
      cases b' with
      | none =>
        simp -dsimp -implicitDefEqProofs (disch := omega) [condP_pos, condP_neg, optP_pos, decide_eq_true, decide_eq_false, wrap_i64, Int.natCast_inj, T29, boxOr]
        refine again (q ++ [p], r, some (p.1, p.2, p.1, p.2)) ?_ ?_ ?_
        · simp [d2, boxG]
        · simp
        · simp -dsimp -implicitDefEqProofs (disch := omega) [condP_pos, condP_neg, optP_pos, decide_eq_true, decide_eq_false, wrap_i64, Int.natCast_inj, T29, boxOr]
      | some c =>
        simp -dsimp -implicitDefEqProofs (disch := omega) [condP_pos, condP_neg, optP_pos, decide_eq_true, decide_eq_false, wrap_i64, Int.natCast_inj, T29, boxOr]
        refine again (q ++ [p], r, some (min c.1 p.1, min c.2.1 p.2, max c.2.2.1 p.1, max c.2.2.2 p.2)) ?_ ?_ ?_
        · simp [d2, boxG]
        · simp
        · simp -dsimp -implicitDefEqProofs (disch := omega) [condP_pos, condP_neg, optP_pos, decide_eq_true, decide_eq_false, wrap_i64, Int.natCast_inj, T29, boxOr]
def S30 (x : List Ol × List Ol × Option Bx) : St :=
  { sl := [(0, rw_ ((x.1 ++ x.2.1).map eOl)), (2, .bp 0 0), (4, .bp 1 0), (5, bo x.2.2.isSome), (6, i64 x.1.length)],
    hp := [(0, some (.box [i64 0, i64 0, i64 0, i64 0])), (1, some (.box [i64 (boxOr x.2.2).1, i64 (boxOr x.2.2).2.1, i64 (boxOr x.2.2).2.2.1, i64 (boxOr x.2.2).2.2.2]))], nx := 2 }
def T30 (pre : List Ol) (o : Ol) (rest : List Ol) (x : List Pt × List Pt × Option Bx) : St :=
  { sl := [(0, rw_ ((pre ++ (x.1 ++ x.2.1) :: rest).map eOl)), (2, .bp 0 0), (4, .bp 1 0), (5, bo x.2.2.isSome), (6, i64 pre.length), (7, i64 x.1.length)],
    hp := [(0, some (.box [i64 0, i64 0, i64 0, i64 0])), (1, some (.box [i64 (boxOr x.2.2).1, i64 (boxOr x.2.2).2.1, i64 (boxOr x.2.2).2.2.1, i64 (boxOr x.2.2).2.2.2]))], nx := 2 }
set_option maxHeartbeats 1000000 in
theorem run_bounds30 (l : List Ol) (h : l.length < 1000000000) (h2 : ∀ o ∈ l, o.length < 1000000000) : v.run 30 [rw_ (l.map eOl)] [] = some (.tup [aBx (boxOr (boundsG none l)), bo (boundsG none l).isSome], []) := by
  refine run_wp (by rw [hv]; exact rfl) ?_
  simp -dsimp -implicitDefEqProofs (disch := omega) [condP_pos, condP_neg, optP_pos, decide_eq_true, decide_eq_false, wrap_i64, Int.natCast_inj]
  refine wp_inv S30 (fun a => a.1 ++ a.2.1 = l ∧ boundsG none l = boundsG a.2.2 a.2.1) (fun a => a.2.1.length) ([], l, none) (by simp) (by simp -dsimp -implicitDefEqProofs (disch := omega) [condP_pos, condP_neg, optP_pos, decide_eq_true, decide_eq_false, wrap_i64, Int.natCast_inj, S30, boxOr]) ?_
  rintro ⟨pre, rest, b⟩ ⟨e1, e2⟩
  simp only at e1 e2
  rw [e2]
  subst e1
  cases rest with
  | nil => simp -dsimp -implicitDefEqProofs (disch := omega) [condP_pos, condP_neg, optP_pos, decide_eq_true, decide_eq_false, wrap_i64, Int.natCast_inj, S30, boundsG, aBx]
  | cons o rest =>
    simp at h
    have ho := h2 o (by simp)
    clear h2
    simp -dsimp -implicitDefEqProofs (disch := omega) [condP_pos, condP_neg, optP_pos, decide_eq_true, decide_eq_false, wrap_i64, Int.natCast_inj, S30]
    refine wp_inv (T30 pre o rest) (fun x => x.1 ++ x.2.1 = o ∧ boundsG b (o :: rest) = boundsG (boxG x.2.2 x.2.1) rest) (fun x => x.2.1.length) ([], o, b) (by simp [boundsG]) (by simp -dsimp -implicitDefEqProofs (disch := omega) [condP_pos, condP_neg, optP_pos, decide_eq_true, decide_eq_false, wrap_i64, Int.natCast_inj, T30]) ?_
    rintro ⟨q, r, b'⟩ ⟨d1, d2⟩
    simp only at d1 d2
    subst d1
    cases r with
    | nil =>
      simp -dsimp -implicitDefEqProofs (disch := omega) [condP_pos, condP_neg, optP_pos, decide_eq_true, decide_eq_false, wrap_i64, Int.natCast_inj, T30]
      refine again (pre ++ [q], rest, b') ?_ ?_ ?_
      · exact ⟨by simp, by simp only; rw [d2]; simp [boxG]⟩
      · simp
      · simp -dsimp -implicitDefEqProofs (disch := omega) [condP_pos, condP_neg, optP_pos, decide_eq_true, decide_eq_false, wrap_i64, Int.natCast_inj, S30]
    | cons p r =>
      simp at ho
      cases b' with
      | none =>
        simp -dsimp -implicitDefEqProofs (disch := omega) [condP_pos, condP_neg, optP_pos, decide_eq_true, decide_eq_false, wrap_i64, Int.natCast_inj, T30, boxOr]
        refine again (q ++ [p], r, some (p.1, p.2, p.1, p.2)) ?_ ?_ ?_
        · simp [d2, boxG]
        · simp
        · simp -dsimp -implicitDefEqProofs (disch := omega) [condP_pos, condP_neg, optP_pos, decide_eq_true, decide_eq_false, wrap_i64, Int.natCast_inj, T30, boxOr]
      | some c =>
        simp -dsimp -implicitDefEqProofs (disch := omega) [condP_pos, condP_neg, optP_pos, decide_eq_true, decide_eq_false, wrap_i64, Int.natCast_inj, T30, boxOr]
        refine again (q ++ [p], r, some (min c.1 p.1, min c.2.1 p.2, max c.2.2.1 p.1, max c.2.2.2 p.2)) ?_ ?_ ?_
        · simp [d2, boxG]
        · simp
        · simp -dsimp -implicitDefEqProofs (disch := omega) [condP_pos, condP_neg, optP_pos, decide_eq_true, decide_eq_false, wrap_i64, Int.natCast_inj, T30, boxOr]
end Go.Vai
