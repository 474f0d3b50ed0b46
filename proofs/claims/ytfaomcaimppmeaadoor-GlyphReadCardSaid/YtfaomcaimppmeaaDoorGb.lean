/-
  What functions of layer 5 and of its reference compute: equations of the abstract run.
-/
import Derived.Test.YtfaomcaimppmeaaDoorGa
set_option linter.unusedVariables false
set_option linter.unusedSimpArgs false
set_option linter.unnecessarySimpa false
set_option linter.unusedSectionVars false
namespace Go.Vai
variable {v : Env} (hv : v.T = Tt)
def movedP (dx dy : Int) (p : Pt) : Pt := (cut (cut p.1 + dx), cut (cut p.2 + dy))
def eOlF (f : Pt → Pt) (o : Ol) : List FV := [.sl (o.map fun p => ePt (f p))]
@[simp] theorem eOlF_len (f : Pt → Pt) (o : Ol) : (eOlF f o).length = 1 := rfl
@[simp] theorem eOlF_map {β : Type} (g : FV → β) (f : Pt → Pt) (o : Ol) : (eOlF f o).map g = [g (.sl (o.map fun p => ePt (f p)))] := rfl
theorem eOlF_eq (f : Pt → Pt) (l : List Ol) : l.map (eOlF f) = (l.map (List.map f)).map eOl := by
  simp [eOlF, eOl, Function.comp_def]
def floorD (n d : Int) : Int := if n.tmod d < 0 then n.tdiv d - 1 else n.tdiv d
def timesG (num den n : Int) : Int := cut (floorD (cut n * num) den)
def scaledP (num den : Int) (p : Pt) : Pt := (timesG num den p.1, timesG num den p.2)
theorem mul_b {a b : Int} (h1 : -1048576 ≤ a ∧ a ≤ 1048576) (h2 : -1048576 ≤ b ∧ b ≤ 1048576) : -1099511627776 ≤ a * b ∧ a * b ≤ 1099511627776 := by
  have hn : (a * b).natAbs ≤ 1048576 * 1048576 := by
    rw [Int.natAbs_mul]
    exact Nat.mul_le_mul (by omega) (by omega)
  omega
theorem tdiv_b {a d : Int} (h1 : -1099511627776 ≤ a ∧ a ≤ 1099511627776) (hd : 1 ≤ d) : -1099511627776 ≤ a.tdiv d ∧ a.tdiv d ≤ 1099511627776 := by
  have hn : (a.tdiv d).natAbs ≤ a.natAbs := by
    rw [Int.natAbs_tdiv]
    exact Nat.div_le_self _ _
  omega
include hv
def S58 (dx dy : Int) (a : List Pt × List Pt) : St :=
  { sl := [(1, i64 dx), (2, i64 dy), (7, .osl 0 2 0 a.1.length), (13, rw_ ((a.1 ++ a.2).map ePt)), (14, i64 (a.1 ++ a.2).length), (15, i64 a.1.length)],
    hp := [(0, some (.arr 2 (a.1.map fun p => ePt (movedP dx dy p))))], nx := 1 }
theorem run_moved (dx dy : Int) (h1 : -1048576 ≤ dx ∧ dx ≤ 1048576) (h2 : -1048576 ≤ dy ∧ dy ≤ 1048576) (o : List Pt) (hl : o.length < 1000000000) : v.run 58 [rw_ (o.map ePt), i64 dx, i64 dy] [] = some (rw_ (o.map fun p => ePt (movedP dx dy p)), []) := by
  refine run_wp (by rw [hv]; exact rfl) ?_
  simp -dsimp -implicitDefEqProofs (maxSteps := 1000000) (disch := omega) [condP_pos, condP_neg, optP_pos, decide_eq_true, decide_eq_false, wrap_i64, Int.natCast_inj]
  refine wp_inv (S58 dx dy) (fun a => a.1 ++ a.2 = o) (fun a => a.2.length) ([], o) (by simp) (by simp -dsimp -implicitDefEqProofs (maxSteps := 1000000) (disch := omega) [condP_pos, condP_neg, optP_pos, decide_eq_true, decide_eq_false, wrap_i64, Int.natCast_inj, S58]) ?_
  rintro ⟨acc, rest⟩ rfl
  cases rest with
  | nil => simp -dsimp -implicitDefEqProofs (maxSteps := 1000000) (disch := omega) [condP_pos, condP_neg, optP_pos, decide_eq_true, decide_eq_false, wrap_i64, Int.natCast_inj, S58]
  | cons p rest =>
    simp at hl
    have c1 := cut_b p.1
    have c2 := cut_b p.2
    simp -dsimp -implicitDefEqProofs (maxSteps := 1000000) (disch := omega) [condP_pos, condP_neg, optP_pos, decide_eq_true, decide_eq_false, wrap_i64, Int.natCast_inj, S58, run_cut hv]
    refine again (acc ++ [p], rest) ?_ ?_ ?_
    · simp
    · simp
    · simp -dsimp -implicitDefEqProofs (maxSteps := 1000000) (disch := omega) [condP_pos, condP_neg, optP_pos, decide_eq_true, decide_eq_false, wrap_i64, Int.natCast_inj, S58, ePt, movedP]
def S31 (a b : Int) (x : List Ol × List Ol) : St :=
  { sl := [(1, i64 a), (2, i64 b), (7, .osl 0 1 0 x.1.length), (10, rw_ ((x.1 ++ x.2).map eOl)), (11, i64 (x.1 ++ x.2).length), (12, i64 x.1.length)],
    hp := [(0, some (.arr 1 (x.1.map (eOlF (movedP (cut a) (cut b))))))], nx := 1 }
theorem run_move (a b : Int) (l : List Ol) (h : l.length < 1000000000) (h2 : ∀ o ∈ l, o.length < 1000000000) : v.run 31 [rw_ (l.map eOl), i64 a, i64 b] [] = some (rw_ ((l.map (List.map (movedP (cut a) (cut b)))).map eOl), []) := by
  rw [← eOlF_eq]
  refine run_wp (by rw [hv]; exact rfl) ?_
  simp -dsimp -implicitDefEqProofs (maxSteps := 1000000) (disch := omega) [condP_pos, condP_neg, optP_pos, decide_eq_true, decide_eq_false, wrap_i64, Int.natCast_inj]
  refine wp_inv (S31 a b) (fun a => a.1 ++ a.2 = l) (fun a => a.2.length) ([], l) (by simp) (by simp -dsimp -implicitDefEqProofs (maxSteps := 1000000) (disch := omega) [condP_pos, condP_neg, optP_pos, decide_eq_true, decide_eq_false, wrap_i64, Int.natCast_inj, S31]) ?_
  rintro ⟨pre, rest⟩ rfl
  cases rest with
  | nil => simp -dsimp -implicitDefEqProofs (maxSteps := 1000000) (disch := omega) [condP_pos, condP_neg, optP_pos, decide_eq_true, decide_eq_false, wrap_i64, Int.natCast_inj, S31]
  | cons o rest =>
    simp at h
    have hm := run_moved hv (cut a) (cut b) (cut_b a) (cut_b b) o (h2 o (by simp))
    clear h2
    simp -dsimp -implicitDefEqProofs (maxSteps := 1000000) (disch := omega) [condP_pos, condP_neg, optP_pos, decide_eq_true, decide_eq_false, wrap_i64, Int.natCast_inj, S31, run_cut hv, hm]
    refine again (pre ++ [o], rest) ?_ ?_ ?_
    · simp
    · simp
    · simp -dsimp -implicitDefEqProofs (maxSteps := 1000000) (disch := omega) [condP_pos, condP_neg, optP_pos, decide_eq_true, decide_eq_false, wrap_i64, Int.natCast_inj, S31, eOlF]
def S33 (a b : Int) (x : List Ol × List Ol) : St :=
  { sl := [(0, rw_ ((x.1 ++ x.2).map eOl)), (1, i64 a), (2, i64 b), (7, .osl 0 1 0 x.1.length), (8, i64 x.1.length)],
    hp := [(0, some (.arr 1 (x.1.map (eOlF (movedP (cut a) (cut b))))))], nx := 1 }
def T33 (a b : Int) (pre : List Ol) (o : Ol) (rest : List Ol) (x : List Pt × List Pt) : St :=
  { sl := [(0, rw_ ((pre ++ o :: rest).map eOl)), (1, i64 a), (2, i64 b), (7, .osl 0 1 0 pre.length), (8, i64 pre.length), (9, .osl 1 2 0 x.1.length), (10, i64 x.1.length)],
    hp := [(0, some (.arr 1 (pre.map (eOlF (movedP (cut a) (cut b)))))), (1, some (.arr 2 (x.1.map fun p => ePt (movedP (cut a) (cut b) p))))], nx := 2 }
set_option maxHeartbeats 1000000 in
theorem run_rmove (a b : Int) (l : List Ol) (h : l.length < 1000000000) (h2 : ∀ o ∈ l, o.length < 1000000000) : v.run 33 [rw_ (l.map eOl), i64 a, i64 b] [] = some (rw_ ((l.map (List.map (movedP (cut a) (cut b)))).map eOl), []) := by
  rw [← eOlF_eq]
  refine run_wp (by rw [hv]; exact rfl) ?_
  have c1 := cut_b a
  have c2 := cut_b b
  simp -dsimp -implicitDefEqProofs (maxSteps := 1000000) (disch := omega) [condP_pos, condP_neg, optP_pos, decide_eq_true, decide_eq_false, wrap_i64, Int.natCast_inj]
  refine wp_inv (S33 a b) (fun a => a.1 ++ a.2 = l) (fun a => a.2.length) ([], l) (by simp) (by simp -dsimp -implicitDefEqProofs (maxSteps := 1000000) (disch := omega) [condP_pos, condP_neg, optP_pos, decide_eq_true, decide_eq_false, wrap_i64, Int.natCast_inj, S33]) ?_
  rintro ⟨pre, rest⟩ rfl
  cases rest with
  | nil => simp -dsimp -implicitDefEqProofs (maxSteps := 1000000) (disch := omega) [condP_pos, condP_neg, optP_pos, decide_eq_true, decide_eq_false, wrap_i64, Int.natCast_inj, S33]
  | cons o rest =>
    simp at h
    have ho := h2 o (by simp)
    clear h2
    simp -dsimp -implicitDefEqProofs (maxSteps := 1000000) (disch := omega) [condP_pos, condP_neg, optP_pos, decide_eq_true, decide_eq_false, wrap_i64, Int.natCast_inj, S33]
    refine wp_inv (T33 a b pre o rest) (fun x => x.1 ++ x.2 = o) (fun x => x.2.length) ([], o) (by simp) (by simp -dsimp -implicitDefEqProofs (maxSteps := 1000000) (disch := omega) [condP_pos, condP_neg, optP_pos, decide_eq_true, decide_eq_false, wrap_i64, Int.natCast_inj, T33]) ?_
    rintro ⟨q, r⟩ rfl
    cases r with
    | nil =>
      simp -dsimp -implicitDefEqProofs (maxSteps := 1000000) (disch := omega) [condP_pos, condP_neg, optP_pos, decide_eq_true, decide_eq_false, wrap_i64, Int.natCast_inj, T33]
      refine again (pre ++ [q], rest) ?_ ?_ ?_
      · simp
      · simp
      · simp -dsimp -implicitDefEqProofs (maxSteps := 1000000) (disch := omega) [condP_pos, condP_neg, optP_pos, decide_eq_true, decide_eq_false, wrap_i64, Int.natCast_inj, S33, eOlF]
    | cons p r =>
      have c3 := cut_b p.1
      have c4 := cut_b p.2
      simp at ho
      simp -dsimp -implicitDefEqProofs (maxSteps := 1000000) (disch := omega) [condP_pos, condP_neg, optP_pos, decide_eq_true, decide_eq_false, wrap_i64, Int.natCast_inj, T33, run_rcut hv]
      refine again (q ++ [p], r) ?_ ?_ ?_
      · simp
      · simp
      · simp -dsimp -implicitDefEqProofs (maxSteps := 1000000) (disch := omega) [condP_pos, condP_neg, optP_pos, decide_eq_true, decide_eq_false, wrap_i64, Int.natCast_inj, T33, ePt, movedP]
theorem run_divide (n d : Int) (h : -1099511627776 ≤ n ∧ n ≤ 1099511627776) (hd : 1 ≤ d) : v.run 65 [i64 n, i64 d] [] = some (i64 (floorD n d), []) := by
  refine run_wp (by rw [hv]; exact rfl) ?_
  have hq := tdiv_b h hd
  have h0 : ¬ d = 0 := by omega
  by_cases hc : n.tmod d < 0 <;> simp -dsimp -implicitDefEqProofs (maxSteps := 1000000) (disch := omega) [condP_pos, condP_neg, optP_pos, decide_eq_true, decide_eq_false, wrap_i64, Int.natCast_inj, h0, hc, floorD]
theorem run_times (num den n : Int) (h : -1048576 ≤ num ∧ num ≤ 1048576) (hd : 1 ≤ den) : v.run 64 [i64 n, .bp 0 0, .bp 1 0] [some (.box [i64 num]), some (.box [i64 den])] = some (i64 (timesG num den n), [some (.box [i64 num]), some (.box [i64 den])]) := by
  refine run_wp (by rw [hv]; exact rfl) ?_
  have hm := mul_b (cut_b n) h
  have hq := tdiv_b hm hd
  have h0 : ¬ den = 0 := by omega
  by_cases hc : (cut n * num).tmod den < 0 <;> simp -dsimp -implicitDefEqProofs (maxSteps := 1000000) (disch := omega) [condP_pos, condP_neg, optP_pos, decide_eq_true, decide_eq_false, wrap_i64, Int.natCast_inj, h0, hc, floorD, timesG, run_cut hv]
end Go.Vai

set_option linter.unusedVariables false
set_option linter.unusedSimpArgs false
set_option linter.unnecessarySimpa false
set_option linter.unusedSectionVars false
namespace Go.Vai
variable {v : Env} (hv : v.T = Tt)
def denG (d : Int) : Int := max 1 (min d 1048576)
theorem denG_b (d : Int) : 1 ≤ denG d ∧ denG d ≤ 1048576 := by unfold denG; omega
def boxG : Option (Int × Int × Int × Int) → List Pt → Option (Int × Int × Int × Int)
  | b, [] => b
  | none, p :: r => boxG (some (p.1, p.2, p.1, p.2)) r
  | some b, p :: r => boxG (some (min b.1 p.1, min b.2.1 p.2, max b.2.2.1 p.1, max b.2.2.2 p.2)) r
include hv
def S32 (n d : Int) (x : List Ol × List Ol) : St :=
  { sl := [(7, .fn 64 [.bp 0 0, .bp 1 0]), (8, .osl 2 1 0 x.1.length), (20, rw_ ((x.1 ++ x.2).map eOl)), (21, i64 (x.1 ++ x.2).length), (22, i64 x.1.length)],
    hp := [(0, some (.box [i64 n])), (1, some (.box [i64 d])), (2, some (.arr 1 (x.1.map (eOlF (scaledP n d)))))], nx := 3 }
def T32 (n d : Int) (pre : List Ol) (o : Ol) (rest : List Ol) (x : List Pt × List Pt) : St :=
  { sl := [(7, .fn 64 [.bp 0 0, .bp 1 0]), (8, .osl 2 1 0 pre.length), (11, .osl 3 2 0 x.1.length), (20, rw_ ((pre ++ o :: rest).map eOl)), (21, i64 (pre ++ o :: rest).length), (22, i64 pre.length), (29, rw_ ((x.1 ++ x.2).map ePt)), (30, i64 (x.1 ++ x.2).length), (31, i64 x.1.length)],
    hp := [(0, some (.box [i64 n])), (1, some (.box [i64 d])), (2, some (.arr 1 (pre.map (eOlF (scaledP n d))))), (3, some (.arr 2 (x.1.map fun p => ePt (scaledP n d p))))], nx := 4 }
set_option maxHeartbeats 1000000 in
theorem run_scale (a b : Int) (l : List Ol) (h : l.length < 1000000000) (h2 : ∀ o ∈ l, o.length < 1000000000) : v.run 32 [rw_ (l.map eOl), i64 a, i64 b] [] = some (rw_ ((l.map (List.map (scaledP (cut a) (denG b)))).map eOl), []) := by
  rw [← eOlF_eq]
  refine run_wp (by rw [hv]; exact rfl) ?_
  have c1 := cut_b a
  have c2 := denG_b b
  simp -dsimp -implicitDefEqProofs (maxSteps := 1000000) (disch := omega) [condP_pos, condP_neg, optP_pos, decide_eq_true, decide_eq_false, wrap_i64, Int.natCast_inj, run_cut hv]
  refine wp_inv (S32 (cut a) (denG b)) (fun a => a.1 ++ a.2 = l) (fun a => a.2.length) ([], l) (by simp) (by simp -dsimp -implicitDefEqProofs (maxSteps := 1000000) (disch := omega) [condP_pos, condP_neg, optP_pos, decide_eq_true, decide_eq_false, wrap_i64, Int.natCast_inj, S32, denG]) ?_
  rintro ⟨pre, rest⟩ rfl
  cases rest with
  | nil => simp -dsimp -implicitDefEqProofs (maxSteps := 1000000) (disch := omega) [condP_pos, condP_neg, optP_pos, decide_eq_true, decide_eq_false, wrap_i64, Int.natCast_inj, S32]
  | cons o rest =>
    simp at h
    have ho := h2 o (by simp)
    clear h2
    simp -dsimp -implicitDefEqProofs (maxSteps := 1000000) (disch := omega) [condP_pos, condP_neg, optP_pos, decide_eq_true, decide_eq_false, wrap_i64, Int.natCast_inj, S32]
    refine wp_inv (T32 (cut a) (denG b) pre o rest) (fun x => x.1 ++ x.2 = o) (fun x => x.2.length) ([], o) (by simp) (by simp -dsimp -implicitDefEqProofs (maxSteps := 1000000) (disch := omega) [condP_pos, condP_neg, optP_pos, decide_eq_true, decide_eq_false, wrap_i64, Int.natCast_inj, T32]) ?_
    rintro ⟨q, r⟩ rfl
    cases r with
    | nil =>
      simp -dsimp -implicitDefEqProofs (maxSteps := 1000000) (disch := omega) [condP_pos, condP_neg, optP_pos, decide_eq_true, decide_eq_false, wrap_i64, Int.natCast_inj, T32]
      refine again (pre ++ [q], rest) ?_ ?_ ?_
      · simp
      · simp
      · simp -dsimp -implicitDefEqProofs (maxSteps := 1000000) (disch := omega) [condP_pos, condP_neg, optP_pos, decide_eq_true, decide_eq_false, wrap_i64, Int.natCast_inj, S32, eOlF]
    | cons p r =>
      simp at ho
      have t1 := run_times hv (cut a) (denG b) p.1 c1 c2.1
      have t2 := run_times hv (cut a) (denG b) p.2 c1 c2.1
      simp -dsimp -implicitDefEqProofs (maxSteps := 1000000) (disch := omega) [condP_pos, condP_neg, optP_pos, decide_eq_true, decide_eq_false, wrap_i64, Int.natCast_inj, T32, t1, t2]
      refine again (q ++ [p], r) ?_ ?_ ?_
      · simp
      · simp
      · simp -dsimp -implicitDefEqProofs (maxSteps := 1000000) (disch := omega) [condP_pos, condP_neg, optP_pos, decide_eq_true, decide_eq_false, wrap_i64, Int.natCast_inj, T32, ePt, scaledP]
def S34 (n d : Int) (x : List Ol × List Ol) : St :=
  { sl := [(0, rw_ ((x.1 ++ x.2).map eOl)), (7, i64 n), (8, i64 d), (9, .osl 0 1 0 x.1.length), (10, i64 x.1.length)],
    hp := [(0, some (.arr 1 (x.1.map (eOlF (scaledP n d)))))], nx := 1 }
def T34 (n d : Int) (pre : List Ol) (o : Ol) (rest : List Ol) (x : List Pt × List Pt) : St :=
  { sl := [(0, rw_ ((pre ++ o :: rest).map eOl)), (7, i64 n), (8, i64 d), (9, .osl 0 1 0 pre.length), (10, i64 pre.length), (11, .osl 1 2 0 x.1.length), (12, i64 x.1.length)],
    hp := [(0, some (.arr 1 (pre.map (eOlF (scaledP n d))))), (1, some (.arr 2 (x.1.map fun p => ePt (scaledP n d p))))], nx := 2 }
set_option maxHeartbeats 1000000 in
theorem run_rscale (a b : Int) (l : List Ol) (h : l.length < 1000000000) (h2 : ∀ o ∈ l, o.length < 1000000000) : v.run 34 [rw_ (l.map eOl), i64 a, i64 b] [] = some (rw_ ((l.map (List.map (scaledP (cut a) (denG b)))).map eOl), []) := by
  rw [← eOlF_eq]
  refine run_wp (by rw [hv]; exact rfl) ?_
  have c1 := cut_b a
  have c2 := denG_b b
  simp -dsimp -implicitDefEqProofs (maxSteps := 1000000) (disch := omega) [condP_pos, condP_neg, optP_pos, decide_eq_true, decide_eq_false, wrap_i64, Int.natCast_inj, run_rcut hv]
  refine wp_inv (S34 (cut a) (denG b)) (fun a => a.1 ++ a.2 = l) (fun a => a.2.length) ([], l) (by simp) (by simp -dsimp -implicitDefEqProofs (maxSteps := 1000000) (disch := omega) [condP_pos, condP_neg, optP_pos, decide_eq_true, decide_eq_false, wrap_i64, Int.natCast_inj, S34, denG]) ?_
  rintro ⟨pre, rest⟩ rfl
  cases rest with
  | nil => simp -dsimp -implicitDefEqProofs (maxSteps := 1000000) (disch := omega) [condP_pos, condP_neg, optP_pos, decide_eq_true, decide_eq_false, wrap_i64, Int.natCast_inj, S34]
  | cons o rest =>
    simp at h
    have ho := h2 o (by simp)
    clear h2
    simp -dsimp -implicitDefEqProofs (maxSteps := 1000000) (disch := omega) [condP_pos, condP_neg, optP_pos, decide_eq_true, decide_eq_false, wrap_i64, Int.natCast_inj, S34]
    refine wp_inv (T34 (cut a) (denG b) pre o rest) (fun x => x.1 ++ x.2 = o) (fun x => x.2.length) ([], o) (by simp) (by simp -dsimp -implicitDefEqProofs (maxSteps := 1000000) (disch := omega) [condP_pos, condP_neg, optP_pos, decide_eq_true, decide_eq_false, wrap_i64, Int.natCast_inj, T34]) ?_
    rintro ⟨q, r⟩ rfl
    cases r with
    | nil =>
      simp -dsimp -implicitDefEqProofs (maxSteps := 1000000) (disch := omega) [condP_pos, condP_neg, optP_pos, decide_eq_true, decide_eq_false, wrap_i64, Int.natCast_inj, T34]
      refine again (pre ++ [q], rest) ?_ ?_ ?_
      · simp
      · simp
      · simp -dsimp -implicitDefEqProofs (maxSteps := 1000000) (disch := omega) [condP_pos, condP_neg, optP_pos, decide_eq_true, decide_eq_false, wrap_i64, Int.natCast_inj, S34, eOlF]
    | cons p r =>
      simp at ho
      have m1 := mul_b (cut_b p.1) c1
      have m2 := mul_b (cut_b p.2) c1
      have d1 := run_divide hv _ (denG b) m1 c2.1
      have d2 := run_divide hv _ (denG b) m2 c2.1
      simp -dsimp -implicitDefEqProofs (maxSteps := 1000000) (disch := omega) [condP_pos, condP_neg, optP_pos, decide_eq_true, decide_eq_false, wrap_i64, Int.natCast_inj, T34, run_rcut hv, d1, d2]
      refine again (q ++ [p], r) ?_ ?_ ?_
      · simp
      · simp
      · simp -dsimp -implicitDefEqProofs (maxSteps := 1000000) (disch := omega) [condP_pos, condP_neg, optP_pos, decide_eq_true, decide_eq_false, wrap_i64, Int.natCast_inj, T34, ePt, scaledP, timesG]
abbrev Bx := Int × Int × Int × Int
def boxOr (b : Option Bx) : Bx := b.getD (0, 0, 0, 0)
def S29 (x : List Ol × List Ol × Option Bx) : St :=
  { sl := [(2, .bp 0 0), (4, .bp 1 0), (5, bo x.2.2.isSome), (10, rw_ ((x.1 ++ x.2.1).map eOl)), (11, i64 (x.1 ++ x.2.1).length), (12, i64 x.1.length)],
    hp := [(0, some (.box [i64 0, i64 0, i64 0, i64 0])), (1, some (.box [i64 (boxOr x.2.2).1, i64 (boxOr x.2.2).2.1, i64 (boxOr x.2.2).2.2.1, i64 (boxOr x.2.2).2.2.2]))], nx := 2 }
def T29 (pre : List Ol) (o : Ol) (rest : List Ol) (x : List Pt × List Pt × Option Bx) : St :=
  { sl := [(2, .bp 0 0), (4, .bp 1 0), (5, bo x.2.2.isSome), (10, rw_ ((pre ++ o :: rest).map eOl)), (11, i64 (pre ++ o :: rest).length), (12, i64 pre.length), (16, rw_ ((x.1 ++ x.2.1).map ePt)), (17, i64 (x.1 ++ x.2.1).length), (18, i64 x.1.length)],
    hp := [(0, some (.box [i64 0, i64 0, i64 0, i64 0])), (1, some (.box [i64 (boxOr x.2.2).1, i64 (boxOr x.2.2).2.1, i64 (boxOr x.2.2).2.2.1, i64 (boxOr x.2.2).2.2.2]))], nx := 2 }
def boundsG (b : Option Bx) : List Ol → Option Bx
  | [] => b
  | o :: r => boundsG (boxG b o) r
def aBx (b : Bx) : AV := .agg [i64 b.1, i64 b.2.1, i64 b.2.2.1, i64 b.2.2.2]
set_option maxHeartbeats 1000000 in
theorem run_bounds29 (l : List Ol) (h : l.length < 1000000000) (h2 : ∀ o ∈ l, o.length < 1000000000) : v.run 29 [rw_ (l.map eOl)] [] = some (.tup [aBx (boxOr (boundsG none l)), bo (boundsG none l).isSome], []) := by
  refine run_wp (by rw [hv]; exact rfl) ?_
  simp -dsimp -implicitDefEqProofs (maxSteps := 1000000) (disch := omega) [condP_pos, condP_neg, optP_pos, decide_eq_true, decide_eq_false, wrap_i64, Int.natCast_inj]
  refine wp_inv S29 (fun a => a.1 ++ a.2.1 = l ∧ boundsG none l = boundsG a.2.2 a.2.1) (fun a => a.2.1.length) ([], l, none) (by simp) (by simp -dsimp -implicitDefEqProofs (maxSteps := 1000000) (disch := omega) [condP_pos, condP_neg, optP_pos, decide_eq_true, decide_eq_false, wrap_i64, Int.natCast_inj, S29, boxOr]) ?_
  rintro ⟨pre, rest, b⟩ ⟨e1, e2⟩
  simp only at e1 e2
  rw [e2]
  subst e1
  cases rest with
  | nil => simp -dsimp -implicitDefEqProofs (maxSteps := 1000000) (disch := omega) [condP_pos, condP_neg, optP_pos, decide_eq_true, decide_eq_false, wrap_i64, Int.natCast_inj, S29, boundsG, aBx]
  | cons o rest =>
    simp at h
    have ho := h2 o (by simp)
    clear h2
    simp -dsimp -implicitDefEqProofs (maxSteps := 1000000) (disch := omega) [condP_pos, condP_neg, optP_pos, decide_eq_true, decide_eq_false, wrap_i64, Int.natCast_inj, S29]
    refine wp_inv (T29 pre o rest) (fun x => x.1 ++ x.2.1 = o ∧ boundsG b (o :: rest) = boundsG (boxG x.2.2 x.2.1) rest) (fun x => x.2.1.length) ([], o, b) (by simp [boundsG]) (by simp -dsimp -implicitDefEqProofs (maxSteps := 1000000) (disch := omega) [condP_pos, condP_neg, optP_pos, decide_eq_true, decide_eq_false, wrap_i64, Int.natCast_inj, T29]) ?_
    rintro ⟨q, r, b'⟩ ⟨d1, d2⟩
    simp only at d1 d2
    subst d1
    cases r with
    | nil =>
      simp -dsimp -implicitDefEqProofs (maxSteps := 1000000) (disch := omega) [condP_pos, condP_neg, optP_pos, decide_eq_true, decide_eq_false, wrap_i64, Int.natCast_inj, T29]
      refine again (pre ++ [q], rest, b') ?_ ?_ ?_
      · exact ⟨by simp, by simp only; rw [d2]; simp [boxG]⟩
      · simp
      · simp -dsimp -implicitDefEqProofs (maxSteps := 1000000) (disch := omega) [condP_pos, condP_neg, optP_pos, decide_eq_true, decide_eq_false, wrap_i64, Int.natCast_inj, S29]
    | cons p r =>
      simp at ho
      cases b' with
      | none =>
        simp -dsimp -implicitDefEqProofs (maxSteps := 1000000) (disch := omega) [condP_pos, condP_neg, optP_pos, decide_eq_true, decide_eq_false, wrap_i64, Int.natCast_inj, T29, boxOr]
        refine again (q ++ [p], r, some (p.1, p.2, p.1, p.2)) ?_ ?_ ?_
        · simp [d2, boxG]
        · simp
        · simp -dsimp -implicitDefEqProofs (maxSteps := 1000000) (disch := omega) [condP_pos, condP_neg, optP_pos, decide_eq_true, decide_eq_false, wrap_i64, Int.natCast_inj, T29, boxOr]
      | some c =>
        simp -dsimp -implicitDefEqProofs (maxSteps := 1000000) (disch := omega) [condP_pos, condP_neg, optP_pos, decide_eq_true, decide_eq_false, wrap_i64, Int.natCast_inj, T29, boxOr]
        refine again (q ++ [p], r, some (min c.1 p.1, min c.2.1 p.2, max c.2.2.1 p.1, max c.2.2.2 p.2)) ?_ ?_ ?_
        · simp [d2, boxG]
        · simp
        · simp -dsimp -implicitDefEqProofs (maxSteps := 1000000) (disch := omega) [condP_pos, condP_neg, optP_pos, decide_eq_true, decide_eq_false, wrap_i64, Int.natCast_inj, T29, boxOr]
def S30 (x : List Ol × List Ol × Option Bx) : St :=
  { sl := [(0, rw_ ((x.1 ++ x.2.1).map eOl)), (2, .bp 0 0), (4, .bp 1 0), (5, bo x.2.2.isSome), (6, i64 x.1.length)],
    hp := [(0, some (.box [i64 0, i64 0, i64 0, i64 0])), (1, some (.box [i64 (boxOr x.2.2).1, i64 (boxOr x.2.2).2.1, i64 (boxOr x.2.2).2.2.1, i64 (boxOr x.2.2).2.2.2]))], nx := 2 }
def T30 (pre : List Ol) (o : Ol) (rest : List Ol) (x : List Pt × List Pt × Option Bx) : St :=
  { sl := [(0, rw_ ((pre ++ (x.1 ++ x.2.1) :: rest).map eOl)), (2, .bp 0 0), (4, .bp 1 0), (5, bo x.2.2.isSome), (6, i64 pre.length), (7, i64 x.1.length)],
    hp := [(0, some (.box [i64 0, i64 0, i64 0, i64 0])), (1, some (.box [i64 (boxOr x.2.2).1, i64 (boxOr x.2.2).2.1, i64 (boxOr x.2.2).2.2.1, i64 (boxOr x.2.2).2.2.2]))], nx := 2 }
set_option maxHeartbeats 1000000 in
theorem run_bounds30 (l : List Ol) (h : l.length < 1000000000) (h2 : ∀ o ∈ l, o.length < 1000000000) : v.run 30 [rw_ (l.map eOl)] [] = some (.tup [aBx (boxOr (boundsG none l)), bo (boundsG none l).isSome], []) := by
  refine run_wp (by rw [hv]; exact rfl) ?_
  simp -dsimp -implicitDefEqProofs (maxSteps := 1000000) (disch := omega) [condP_pos, condP_neg, optP_pos, decide_eq_true, decide_eq_false, wrap_i64, Int.natCast_inj]
  refine wp_inv S30 (fun a => a.1 ++ a.2.1 = l ∧ boundsG none l = boundsG a.2.2 a.2.1) (fun a => a.2.1.length) ([], l, none) (by simp) (by simp -dsimp -implicitDefEqProofs (maxSteps := 1000000) (disch := omega) [condP_pos, condP_neg, optP_pos, decide_eq_true, decide_eq_false, wrap_i64, Int.natCast_inj, S30, boxOr]) ?_
  rintro ⟨pre, rest, b⟩ ⟨e1, e2⟩
  simp only at e1 e2
  rw [e2]
  subst e1
  cases rest with
  | nil => simp -dsimp -implicitDefEqProofs (maxSteps := 1000000) (disch := omega) [condP_pos, condP_neg, optP_pos, decide_eq_true, decide_eq_false, wrap_i64, Int.natCast_inj, S30, boundsG, aBx]
  | cons o rest =>
    simp at h
    have ho := h2 o (by simp)
    clear h2
    simp -dsimp -implicitDefEqProofs (maxSteps := 1000000) (disch := omega) [condP_pos, condP_neg, optP_pos, decide_eq_true, decide_eq_false, wrap_i64, Int.natCast_inj, S30]
    refine wp_inv (T30 pre o rest) (fun x => x.1 ++ x.2.1 = o ∧ boundsG b (o :: rest) = boundsG (boxG x.2.2 x.2.1) rest) (fun x => x.2.1.length) ([], o, b) (by simp [boundsG]) (by simp -dsimp -implicitDefEqProofs (maxSteps := 1000000) (disch := omega) [condP_pos, condP_neg, optP_pos, decide_eq_true, decide_eq_false, wrap_i64, Int.natCast_inj, T30]) ?_
    rintro ⟨q, r, b'⟩ ⟨d1, d2⟩
    simp only at d1 d2
    subst d1
    cases r with
    | nil =>
      simp -dsimp -implicitDefEqProofs (maxSteps := 1000000) (disch := omega) [condP_pos, condP_neg, optP_pos, decide_eq_true, decide_eq_false, wrap_i64, Int.natCast_inj, T30]
      refine again (pre ++ [q], rest, b') ?_ ?_ ?_
      · exact ⟨by simp, by simp only; rw [d2]; simp [boxG]⟩
      · simp
      · simp -dsimp -implicitDefEqProofs (maxSteps := 1000000) (disch := omega) [condP_pos, condP_neg, optP_pos, decide_eq_true, decide_eq_false, wrap_i64, Int.natCast_inj, S30]
    | cons p r =>
      simp at ho
      cases b' with
      | none =>
        simp -dsimp -implicitDefEqProofs (maxSteps := 1000000) (disch := omega) [condP_pos, condP_neg, optP_pos, decide_eq_true, decide_eq_false, wrap_i64, Int.natCast_inj, T30, boxOr]
        refine again (q ++ [p], r, some (p.1, p.2, p.1, p.2)) ?_ ?_ ?_
        · simp [d2, boxG]
        · simp
        · simp -dsimp -implicitDefEqProofs (maxSteps := 1000000) (disch := omega) [condP_pos, condP_neg, optP_pos, decide_eq_true, decide_eq_false, wrap_i64, Int.natCast_inj, T30, boxOr]
      | some c =>
        simp -dsimp -implicitDefEqProofs (maxSteps := 1000000) (disch := omega) [condP_pos, condP_neg, optP_pos, decide_eq_true, decide_eq_false, wrap_i64, Int.natCast_inj, T30, boxOr]
        refine again (q ++ [p], r, some (min c.1 p.1, min c.2.1 p.2, max c.2.2.1 p.1, max c.2.2.2 p.2)) ?_ ?_ ?_
        · simp [d2, boxG]
        · simp
        · simp -dsimp -implicitDefEqProofs (maxSteps := 1000000) (disch := omega) [condP_pos, condP_neg, optP_pos, decide_eq_true, decide_eq_false, wrap_i64, Int.natCast_inj, T30, boxOr]
end Go.Vai
