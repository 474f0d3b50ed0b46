/-
  What functions of layer 5 and of its reference compute: equations of the abstract run.
-/
import Derived.Test.YtfaomcaimppmeaaDoorG4
set_option linter.unusedVariables false
set_option linter.unusedSimpArgs false
set_option linter.unnecessarySimpa false
set_option linter.unusedSectionVars false
namespace Go.Vai
variable {v : Env} (hv : v.T = Tt)
/-! Moved and scaled. -/
def movedP (dx dy : Int) (p : Pt) : Pt := (cut (cut p.1 + dx), cut (cut p.2 + dy))
def eOlF (f : Pt → Pt) (o : Ol) : List FV := [.sl (o.map fun p => ePt (f p))]
@[simp] theorem eOlF_len (f : Pt → Pt) (o : Ol) : (eOlF f o).length = 1 := rfl
@[simp] theorem eOlF_map {β : Type} (g : FV → β) (f : Pt → Pt) (o : Ol) : (eOlF f o).map g = [g (.sl (o.map fun p => ePt (f p)))] := rfl
theorem eOlF_eq (f : Pt → Pt) (l : List Ol) : l.map (eOlF f) = (l.map (List.map f)).map eOl := by
  simp [eOlF, eOl, Function.comp_def]
def floorD (n d : Int) : Int := if n.tmod d < 0 then n.tdiv d - 1 else n.tdiv d
def timesG (num den n : Int) : Int := cut (floorD (cut n * num) den)
def scaledP (num den : Int) (p : Pt) : Pt := (timesG num den p.1, timesG num den p.2)
theorem mul_b {a b : Int} (h1 : -1048576 ≤ a ∧ a ≤ 1048576) (h2 : -1048576 ≤ b ∧ b ≤ 1048576) : -1099511627776 ≤ a * b ∧ a * b ≤ 1099511627776 := by
  have hn : (a * b).natAbs ≤ 1048576 * 1048576 := by
    rw [Int.natAbs_mul]
    exact Nat.mul_le_mul (by omega) (by omega)
  omega
theorem tdiv_b {a d : Int} (h1 : -1099511627776 ≤ a ∧ a ≤ 1099511627776) (hd : 1 ≤ d) : -1099511627776 ≤ a.tdiv d ∧ a.tdiv d ≤ 1099511627776 := by
  have hn : (a.tdiv d).natAbs ≤ a.natAbs := by
    rw [Int.natAbs_tdiv]
    exact Nat.div_le_self _ _
  omega
include hv
def S58 (dx dy : Int) (a : List Pt × List Pt) : St :=
  { sl := [(1, i64 dx), (2, i64 dy), (7, .osl 0 2 0 a.1.length), (13, rw_ ((a.1 ++ a.2).map ePt)), (14, i64 (a.1 ++ a.2).length), (15, i64 a.1.length)],
    hp := [(0, some (.arr 2 (a.1.map fun p => ePt (movedP dx dy p))))], nx := 1 }
theorem run_moved (dx dy : Int) (h1 : -1048576 ≤ dx ∧ dx ≤ 1048576) (h2 : -1048576 ≤ dy ∧ dy ≤ 1048576) (o : List Pt) (hl : o.length < 1000000000) : v.run 58 [rw_ (o.map ePt), i64 dx, i64 dy] [] = some (rw_ (o.map fun p => ePt (movedP dx dy p)), []) := by
  refine run_wp (by rw [hv]; exact rfl) ?_
  simp -dsimp -implicitDefEqProofs (disch := omega) [condP_pos, condP_neg, optP_pos, decide_eq_true, decide_eq_false, wrap_i64, Int.natCast_inj]
  refine wp_inv (S58 dx dy) (fun a => a.1 ++ a.2 = o) (fun a => a.2.length) ([], o) (by simp) (by simp -dsimp -implicitDefEqProofs (disch := omega) [condP_pos, condP_neg, optP_pos, decide_eq_true, decide_eq_false, wrap_i64, Int.natCast_inj, S58]) ?_
  rintro ⟨acc, rest⟩ rfl
  cases rest with
  | nil => simp -dsimp -implicitDefEqProofs (disch := omega) [condP_pos, condP_neg, optP_pos, decide_eq_true, decide_eq_false, wrap_i64, Int.natCast_inj, S58]
  | cons p rest =>
    simp at hl
    have c1 := cut_b p.1
    have c2 := cut_b p.2
    simp -dsimp -implicitDefEqProofs (disch := omega) [condP_pos, condP_neg, optP_pos, decide_eq_true, decide_eq_false, wrap_i64, Int.natCast_inj, S58, run_cut hv]
    refine again (acc ++ [p], rest) ?_ ?_ ?_
    · simp
    · simp
    · simp -dsimp -implicitDefEqProofs (disch := omega) [condP_pos, condP_neg, optP_pos, decide_eq_true, decide_eq_false, wrap_i64, Int.natCast_inj, S58, ePt, movedP]
def S31 (a b : Int) (x : List Ol × List Ol) : St :=
  { sl := [(1, i64 a), (2, i64 b), (7, .osl 0 1 0 x.1.length), (10, rw_ ((x.1 ++ x.2).map eOl)), (11, i64 (x.1 ++ x.2).length), (12, i64 x.1.length)],
    hp := [(0, some (.arr 1 (x.1.map (eOlF (movedP (cut a) (cut b))))))], nx := 1 }
theorem run_move (a b : Int) (l : List Ol) (h : l.length < 1000000000) (h2 : ∀ o ∈ l, o.length < 1000000000) : v.run 31 [rw_ (l.map eOl), i64 a, i64 b] [] = some (rw_ ((l.map (List.map (movedP (cut a) (cut b)))).map eOl), []) := by
  rw [← eOlF_eq]
  refine run_wp (by rw [hv]; exact rfl) ?_
  simp -dsimp -implicitDefEqProofs (disch := omega) [condP_pos, condP_neg, optP_pos, decide_eq_true, decide_eq_false, wrap_i64, Int.natCast_inj]
  refine wp_inv (S31 a b) (fun a => a.1 ++ a.2 = l) (fun a => a.2.length) ([], l) (by simp) (by simp -dsimp -implicitDefEqProofs (disch := omega) [condP_pos, condP_neg, optP_pos, decide_eq_true, decide_eq_false, wrap_i64, Int.natCast_inj, S31]) ?_
  rintro ⟨pre, rest⟩ rfl
  cases rest with
  | nil => simp -dsimp -implicitDefEqProofs (disch := omega) [condP_pos, condP_neg, optP_pos, decide_eq_true, decide_eq_false, wrap_i64, Int.natCast_inj, S31]
  | cons o rest =>
    simp at h
    have hm := run_moved hv (cut a) (cut b) (cut_b a) (cut_b b) o (h2 o (by simp))
    clear h2
    simp -dsimp -implicitDefEqProofs (disch := omega) [condP_pos, condP_neg, optP_pos, decide_eq_true, decide_eq_false, wrap_i64, Int.natCast_inj, S31, run_cut hv, hm]
    refine again (pre ++ [o], rest) ?_ ?_ ?_
    · simp
    · simp
    · simp -dsimp -implicitDefEqProofs (disch := omega) [condP_pos, condP_neg, optP_pos, decide_eq_true, decide_eq_false, wrap_i64, Int.natCast_inj, S31, eOlF]
def S33 (a b : Int) (x : List Ol × List Ol) : St :=
  { sl := [(0, rw_ ((x.1 ++ x.2).map eOl)), (1, i64 a), (2, i64 b), (7, .osl 0 1 0 x.1.length), (8, i64 x.1.length)],
    hp := [(0, some (.arr 1 (x.1.map (eOlF (movedP (cut a) (cut b))))))], nx := 1 }
def T33 (a b : Int) (pre : List Ol) (o : Ol) (rest : List Ol) (x : List Pt × List Pt) : St :=
  { sl := [(0, rw_ ((pre ++ o :: rest).map eOl)), (1, i64 a), (2, i64 b), (7, .osl 0 1 0 pre.length), (8, i64 pre.length), (9, .osl 1 2 0 x.1.length), (10, i64 x.1.length)],
    hp := [(0, some (.arr 1 (pre.map (eOlF (movedP (cut a) (cut b)))))), (1, some (.arr 2 (x.1.map fun p => ePt (movedP (cut a) (cut b) p))))], nx := 2 }
set_option maxHeartbeats 1000000 in
theorem run_rmove (a b : Int) (l : List Ol) (h : l.length < 1000000000) (h2 : ∀ o ∈ l, o.length < 1000000000) : v.run 33 [rw_ (l.map eOl), i64 a, i64 b] [] = some (rw_ ((l.map (List.map (movedP (cut a) (cut b)))).map eOl), []) := by
  rw [← eOlF_eq]
  refine run_wp (by rw [hv]; exact rfl) ?_
  have c1 := cut_b a
  have c2 := cut_b b
  simp -dsimp -implicitDefEqProofs (disch := omega) [condP_pos, condP_neg, optP_pos, decide_eq_true, decide_eq_false, wrap_i64, Int.natCast_inj]
  refine wp_inv (S33 a b) (fun a => a.1 ++ a.2 = l) (fun a => a.2.length) ([], l) (by simp) (by simp -dsimp -implicitDefEqProofs (disch := omega) [condP_pos, condP_neg, optP_pos, decide_eq_true, decide_eq_false, wrap_i64, Int.natCast_inj, S33]) ?_
  rintro ⟨pre, rest⟩ rfl
  cases rest with
  | nil => simp -dsimp -implicitDefEqProofs (disch := omega) [condP_pos, condP_neg, optP_pos, decide_eq_true, decide_eq_false, wrap_i64, Int.natCast_inj, S33]
  | cons o rest =>
    simp at h
    have ho := h2 o (by simp)
    clear h2
    simp -dsimp -implicitDefEqProofs (disch := omega) [condP_pos, condP_neg, optP_pos, decide_eq_true, decide_eq_false, wrap_i64, Int.natCast_inj, S33]
    refine wp_inv (T33 a b pre o rest) (fun x => x.1 ++ x.2 = o) (fun x => x.2.length) ([], o) (by simp) (by simp -dsimp -implicitDefEqProofs (disch := omega) [condP_pos, condP_neg, optP_pos, decide_eq_true, decide_eq_false, wrap_i64, Int.natCast_inj, T33]) ?_
    rintro ⟨q, r⟩ rfl
    cases r with
    | nil =>
      simp -dsimp -implicitDefEqProofs (disch := omega) [condP_pos, condP_neg, optP_pos, decide_eq_true, decide_eq_false, wrap_i64, Int.natCast_inj, T33]
      refine again (pre ++ [q], rest) ?_ ?_ ?_
      · simp
      · simp
      · simp -dsimp -implicitDefEqProofs (disch := omega) [condP_pos, condP_neg, optP_pos, decide_eq_true, decide_eq_false, wrap_i64, Int.natCast_inj, S33, eOlF]
    | cons p r =>
      have c3 := cut_b p.1
      have c4 := cut_b p.2
      simp at ho
      simp -dsimp -implicitDefEqProofs (disch := omega) [condP_pos, condP_neg, optP_pos, decide_eq_true, decide_eq_false, wrap_i64, Int.natCast_inj, T33, run_rcut hv]
      refine again (q ++ [p], r) ?_ ?_ ?_
      · simp
      · simp
      · simp -dsimp -implicitDefEqProofs (disch := omega) [condP_pos, condP_neg, optP_pos, decide_eq_true, decide_eq_false, wrap_i64, Int.natCast_inj, T33, ePt, movedP]
theorem run_divide (n d : Int) (h : -1099511627776 ≤ n ∧ n ≤ 1099511627776) (hd : 1 ≤ d) : v.run 65 [i64 n, i64 d] [] = some (i64 (floorD n d), []) := by
  refine run_wp (by rw [hv]; exact rfl) ?_
  have hq := tdiv_b h hd
  have h0 : ¬ d = 0 := by omega
  by_cases hc : n.tmod d < 0 <;> simp -dsimp -implicitDefEqProofs (disch := omega) [condP_pos, condP_neg, optP_pos, decide_eq_true, decide_eq_false, wrap_i64, Int.natCast_inj, h0, hc, floorD]
theorem run_times (num den n : Int) (h : -1048576 ≤ num ∧ num ≤ 1048576) (hd : 1 ≤ den) : v.run 64 [i64 n, .bp 0 0, .bp 1 0] [some (.box [i64 num]), some (.box [i64 den])] = some (i64 (timesG num den n), [some (.box [i64 num]), some (.box [i64 den])]) := by
  refine run_wp (by rw [hv]; exact rfl) ?_
  have hm := mul_b (cut_b n) h
  have hq := tdiv_b hm hd
  have h0 : ¬ den = 0 := by omega
  by_cases hc : (cut n * num).tmod den < 0 <;> simp -dsimp -implicitDefEqProofs (disch := omega) [condP_pos, condP_neg, optP_pos, decide_eq_true, decide_eq_false, wrap_i64, Int.natCast_inj, h0, hc, floorD, timesG, run_cut hv]
end Go.Vai
