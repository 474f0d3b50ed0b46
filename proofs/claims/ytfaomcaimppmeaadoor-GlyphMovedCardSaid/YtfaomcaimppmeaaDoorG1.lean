/-
  What functions of layer 5 and of its reference compute: equations of the abstract run.
-/
import Derived.Test.YtfaomcaimppmeaaDoorVaZ
import Derived.Test.YtfaomcaimppmeaaDoorVaX
set_option linter.unusedVariables false
set_option linter.unusedSimpArgs false
set_option linter.unnecessarySimpa false
set_option linter.unusedSectionVars false
namespace Go.Vai
/-! Data of layer 5. -/
abbrev Pt := Int × Int
abbrev Pc := Int × Int × Int
abbrev Ol := List Pt
abbrev Gl := Int × List Ol × List Pc
abbrev Font := List Gl × List Pt
def ePt (p : Pt) : List FV := [.sc (.int .i64 p.1), .sc (.int .i64 p.2)]
def ePc (p : Pc) : List FV := [.sc (.int .i64 p.1), .sc (.int .i64 p.2.1), .sc (.int .i64 p.2.2)]
def eOl (o : Ol) : List FV := [.sl (o.map ePt)]
def eGl (g : Gl) : List FV := [.sc (.int .i64 g.1), .sl (g.2.1.map eOl), .sl (g.2.2.map ePc)]
abbrev aFont (f : Font) : AV := .agg [rw_ (f.1.map eGl), rw_ (f.2.map ePt)]
@[simp] theorem ePt_len (p : Pt) : (ePt p).length = 2 := rfl
@[simp] theorem ePc_len (p : Pc) : (ePc p).length = 3 := rfl
@[simp] theorem eOl_len (p : Ol) : (eOl p).length = 1 := rfl
@[simp] theorem eGl_len (p : Gl) : (eGl p).length = 3 := rfl
@[simp] theorem ePt_map {β : Type} (f : FV → β) (p : Pt) : (ePt p).map f = [f (.sc (.int .i64 p.1)), f (.sc (.int .i64 p.2))] := rfl
@[simp] theorem ePc_map {β : Type} (f : FV → β) (p : Pc) : (ePc p).map f = [f (.sc (.int .i64 p.1)), f (.sc (.int .i64 p.2.1)), f (.sc (.int .i64 p.2.2))] := rfl
@[simp] theorem eOl_map {β : Type} (f : FV → β) (o : Ol) : (eOl o).map f = [f (.sl (o.map ePt))] := rfl
@[simp] theorem eGl_map {β : Type} (f : FV → β) (g : Gl) : (eGl g).map f = [f (.sc (.int .i64 g.1)), f (.sl (g.2.1.map eOl)), f (.sl (g.2.2.map ePc))] := rfl

def cut (n : Int) : Int := max (-1048576) (min n 1048576)
theorem cut_b (n : Int) : -1048576 ≤ cut n ∧ cut n ≤ 1048576 := by unfold cut; omega
variable {v : Env} (hv : v.T = Tt)
include hv
theorem run_cut (n : Int) : v.run 60 [i64 n] [] = some (i64 (cut n), []) := by
  refine run_wp (by rw [hv]; exact rfl) ?_
  simp -dsimp -implicitDefEqProofs (disch := omega) [condP_pos, condP_neg, optP_pos, decide_eq_true, decide_eq_false, wrap_i64, Int.natCast_inj, cut]
theorem run_rcut (n : Int) : v.run 62 [i64 n] [] = some (i64 (cut n), []) := by
  refine run_wp (by rw [hv]; exact rfl) ?_
  simp -dsimp -implicitDefEqProofs (disch := omega) [condP_pos, condP_neg, optP_pos, decide_eq_true, decide_eq_false, wrap_i64, Int.natCast_inj, cut]

/-! Lookup, Advance. -/
def lookupG (many : Nat) (r : Int) : List Pt → Int
  | [] => if many = 0 then -1 else 0
  | p :: rest => if p.1 = r then (if 0 ≤ p.2 ∧ p.2 < many then p.2 else if many = 0 then -1 else 0) else lookupG many r rest
def S22 (f : Font) (r : Int) (a : List Pt × List Pt) : St :=
  { sl := [(1, i64 r), (2, .bp 0 0), (8, rw_ ((a.1 ++ a.2).map ePt)), (9, i64 (a.1 ++ a.2).length), (10, i64 a.1.length)],
    hp := [(0, some (.box [rw_ (f.1.map eGl), rw_ (f.2.map ePt)]))], nx := 1 }
theorem run_lookup (f : Font) (r : Int) (h1 : f.1.length < 1000000000000) (h2 : f.2.length < 1000000000000) : v.run 22 [aFont f, i64 r] [] = some (i64 (lookupG f.1.length r f.2), []) := by
  refine run_wp (by rw [hv]; exact rfl) ?_
  simp -dsimp -implicitDefEqProofs (disch := omega) [condP_pos, condP_neg, optP_pos, decide_eq_true, decide_eq_false, wrap_i64, Int.natCast_inj]
  refine wp_inv (S22 f r) (fun a => a.1 ++ a.2 = f.2 ∧ lookupG f.1.length r f.2 = lookupG f.1.length r a.2) (fun a => a.2.length) ([], f.2) (by simp) (by simp -dsimp -implicitDefEqProofs (disch := omega) [condP_pos, condP_neg, optP_pos, decide_eq_true, decide_eq_false, wrap_i64, Int.natCast_inj, S22]) ?_
  rintro ⟨pre, rest⟩ ⟨ha, hb⟩
  simp only at ha hb
  cases rest with
  | nil =>
    rw [hb]
    by_cases hm : f.1.length = 0 <;> simp -dsimp -implicitDefEqProofs (disch := omega) [condP_pos, condP_neg, optP_pos, decide_eq_true, decide_eq_false, wrap_i64, Int.natCast_inj, S22, lookupG, hm]
  | cons p rest =>
    rw [hb]
    have hl : pre.length + (rest.length + 1) < 1000000000000 := by rw [← ha] at h2; simpa using h2
    by_cases h : p.1 = r
    · by_cases h3 : 0 ≤ p.2 <;> by_cases h4 : p.2 < f.1.length <;> by_cases hm : f.1.length = 0 <;> first | (exfalso; omega) | (simp -dsimp -implicitDefEqProofs (disch := omega) [condP_pos, condP_neg, optP_pos, decide_eq_true, decide_eq_false, wrap_i64, Int.natCast_inj, S22, lookupG, h, h3, h4, hm] <;> omega)
    · simp -dsimp -implicitDefEqProofs (disch := omega) [condP_pos, condP_neg, optP_pos, decide_eq_true, decide_eq_false, wrap_i64, Int.natCast_inj, S22, h]
      refine again (pre ++ [p], rest) ?_ ?_ ?_
      · simp [ha, hb, lookupG, h]
      · simp
      · simp -dsimp -implicitDefEqProofs (disch := omega) [condP_pos, condP_neg, optP_pos, decide_eq_true, decide_eq_false, wrap_i64, Int.natCast_inj, S22]
def S23 (f : Font) (r : Int) (a : List Pt × List Pt) : St :=
  { sl := [(1, i64 r), (2, .bp 0 0), (5, i64 a.1.length)],
    hp := [(0, some (.box [rw_ (f.1.map eGl), rw_ ((a.1 ++ a.2).map ePt)]))], nx := 1 }
theorem run_rlookup (f : Font) (r : Int) (h1 : f.1.length < 1000000000000) (h2 : f.2.length < 1000000000000) : v.run 23 [aFont f, i64 r] [] = some (i64 (lookupG f.1.length r f.2), []) := by
  refine run_wp (by rw [hv]; exact rfl) ?_
  simp -dsimp -implicitDefEqProofs (disch := omega) [condP_pos, condP_neg, optP_pos, decide_eq_true, decide_eq_false, wrap_i64, Int.natCast_inj]
  refine wp_inv (S23 f r) (fun a => a.1 ++ a.2 = f.2 ∧ lookupG f.1.length r f.2 = lookupG f.1.length r a.2) (fun a => a.2.length) ([], f.2) (by simp) (by simp -dsimp -implicitDefEqProofs (disch := omega) [condP_pos, condP_neg, optP_pos, decide_eq_true, decide_eq_false, wrap_i64, Int.natCast_inj, S23]) ?_
  rintro ⟨pre, rest⟩ ⟨ha, hb⟩
  simp only at ha hb
  cases rest with
  | nil =>
    rw [hb]
    by_cases hm : f.1.length = 0 <;> simp -dsimp -implicitDefEqProofs (disch := omega) [condP_pos, condP_neg, optP_pos, decide_eq_true, decide_eq_false, wrap_i64, Int.natCast_inj, S23, lookupG, hm]
  | cons p rest =>
    rw [hb]
    have hl : pre.length + (rest.length + 1) < 1000000000000 := by rw [← ha] at h2; simpa using h2
    by_cases h : p.1 = r
    · by_cases h3 : 0 ≤ p.2 <;> by_cases h4 : p.2 < f.1.length <;> by_cases hm : f.1.length = 0 <;> first | (exfalso; omega) | (simp -dsimp -implicitDefEqProofs (disch := omega) [condP_pos, condP_neg, optP_pos, decide_eq_true, decide_eq_false, wrap_i64, Int.natCast_inj, S23, lookupG, h, h3, h4, hm] <;> omega)
    · simp -dsimp -implicitDefEqProofs (disch := omega) [condP_pos, condP_neg, optP_pos, decide_eq_true, decide_eq_false, wrap_i64, Int.natCast_inj, S23, h]
      refine again (pre ++ [p], rest) ?_ ?_ ?_
      · simp [ha, hb, lookupG, h]
      · simp
      · simp -dsimp -implicitDefEqProofs (disch := omega) [condP_pos, condP_neg, optP_pos, decide_eq_true, decide_eq_false, wrap_i64, Int.natCast_inj, S23]

def advance (f : Font) (k : Int) : Int := if 0 ≤ k then match f.1[k.toNat]? with
  | some g => cut g.1
  | none => 0
  else 0
theorem run_advance (f : Font) (k : Int) : v.run 24 [aFont f, i64 k] [] = some (i64 (advance f k), []) := by
  refine run_wp (by rw [hv]; exact rfl) ?_
  by_cases h : k < 0
  · simp -dsimp -implicitDefEqProofs (disch := omega) [condP_pos, condP_neg, optP_pos, decide_eq_true, decide_eq_false, wrap_i64, Int.natCast_inj, if_pos, if_neg, h, advance]
  · by_cases h2 : k < f.1.length
    · have h3 : f.1[k.toNat]? = some (f.1[k.toNat]'(by omega)) := List.getElem?_eq_getElem (by omega)
      simp -dsimp -implicitDefEqProofs (disch := omega) [condP_pos, condP_neg, optP_pos, decide_eq_true, decide_eq_false, wrap_i64, Int.natCast_inj, if_pos, if_neg, h, h2, h3, run_cut hv, advance]
    · have h3 : f.1[k.toNat]? = none := List.getElem?_eq_none (by omega)
      simp -dsimp -implicitDefEqProofs (disch := omega) [condP_pos, condP_neg, optP_pos, decide_eq_true, decide_eq_false, wrap_i64, Int.natCast_inj, if_pos, if_neg, h, h2, h3, advance]
theorem run_radvance (f : Font) (k : Int) : v.run 25 [aFont f, i64 k] [] = some (i64 (advance f k), []) := by
  refine run_wp (by rw [hv]; exact rfl) ?_
  by_cases h : k < 0
  · simp -dsimp -implicitDefEqProofs (disch := omega) [condP_pos, condP_neg, optP_pos, decide_eq_true, decide_eq_false, wrap_i64, Int.natCast_inj, if_pos, if_neg, h, advance]
  · by_cases h2 : k < f.1.length
    · have h3 : f.1[k.toNat]? = some (f.1[k.toNat]'(by omega)) := List.getElem?_eq_getElem (by omega)
      simp -dsimp -implicitDefEqProofs (disch := omega) [condP_pos, condP_neg, optP_pos, decide_eq_true, decide_eq_false, wrap_i64, Int.natCast_inj, if_pos, if_neg, h, h2, h3, run_rcut hv, advance]
    · have h3 : f.1[k.toNat]? = none := List.getElem?_eq_none (by omega)
      simp -dsimp -implicitDefEqProofs (disch := omega) [condP_pos, condP_neg, optP_pos, decide_eq_true, decide_eq_false, wrap_i64, Int.natCast_inj, if_pos, if_neg, h, h2, h3, advance]
end Go.Vai
