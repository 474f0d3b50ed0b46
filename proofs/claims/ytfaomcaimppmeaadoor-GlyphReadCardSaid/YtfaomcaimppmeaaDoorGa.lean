/-
  What functions of layer 5 and of its reference compute: equations of the abstract run.
-/
import Derived.Test.YtfaomcaimppmeaaDoorVaZ
import Derived.Test.YtfaomcaimppmeaaDoorVaX
set_option linter.unusedVariables false
set_option linter.unusedSimpArgs false
set_option linter.unnecessarySimpa false
set_option linter.unusedSectionVars false
namespace Go.Vai
open Go.Proofs
theorem mixed : Tryd.prog.follows .mixedOrders = true := by kernel_rfl
def T66 : FuncId → Option LFunc := fun f => if f = 66 then some L66 else none
theorem tok66 : TOk Tryd.prog T66 := by
  intro f L h
  unfold T66 at h
  split at h
  · rename_i hf
    subst hf
    injection h with h; subst h; exact ⟨Tryd.f66, _, Tryd.func66, by kernel_rfl, comp66⟩
  · cases h
theorem take_all {α : Type} (l : List α) : l.take l.length = l := List.take_length
theorem run66a {v : Env} (hv : v.T = T66) (es : List (List FV)) (h1 : es ≠ []) (h2 : okSz 2 es = true) (h3 : es.length < 1000000000) : v.run 66 [.fz (.sl es)] [] = some (.fz (.sl es), []) := by
  have h4 : es.isEmpty = false := by cases es with
    | nil => exact absurd rfl h1
    | cons a b => rfl
  refine run_wp (by rw [hv]; exact rfl) ?_
  simp -dsimp -implicitDefEqProofs (maxSteps := 1000000) (disch := omega) [condP_pos, condP_neg, optP_pos, decide_eq_true, decide_eq_false, wrap_i64, Int.natCast_inj, h2, h4]
theorem run66b {v : Env} (hv : v.T = T66) (A : Option Addr) (c : Nat) : v.run 66 [.fz (.sc (.slice A 0 c))] [] = some (.fz (.sl []), []) := by
  refine run_wp (by rw [hv]; exact rfl) ?_
  cases A with
  | none => simp -dsimp -implicitDefEqProofs (maxSteps := 1000000) (disch := omega) [condP_pos, condP_neg, optP_pos, decide_eq_true, decide_eq_false, wrap_i64, Int.natCast_inj]
  | some a => simp -dsimp -implicitDefEqProofs (maxSteps := 1000000) (disch := omega) [condP_pos, condP_neg, optP_pos, decide_eq_true, decide_eq_false, wrap_i64, Int.natCast_inj]
def E66 : RF := fun f xs bl => if f = 66 then (match xs, bl with
  | [.fz (.sl es)], [] => if okSz 2 es = true ∧ es.length < 1000000000 then some (.fz (.sl es), []) else none
  | _, _ => none) else none
theorem E66_sound (G : Nat → Option (List FV)) : RFSound Tryd.prog G E66 := by
  intro f xs bl r bl' e
  unfold E66 at e
  split at e
  · rename_i hf
    subst hf
    split at e
    · rename_i es
      split at e
      · rename_i hc
        injection e with e
        injection e with e1 e2
        subst e1; subst e2
        have hS : ∀ n, RFSound Tryd.prog G (runN G T66 (fun _ _ _ => none) n) := runN_sound mixed tok66 noE_sound
        by_cases he : es = []
        · subst he
          refine ⟨Nat.le_refl _, fun C σ w vs hC hw hown hfr HR hl hv K hK => ?_⟩
          match vs, hl with
          | [u], _ =>
            have hu := hv 0 _ u rfl rfl
            obtain ⟨A, cap, rfl, _, _⟩ := hu.slc_slice
            have h := run66b (v := { G := G, T := T66, E := fun _ _ _ => none }) rfl A cap
            rw [Env.run_some] at h
            obtain ⟨n, hn⟩ := h
            refine (hS n _ _ _ _ _ hn).2 C σ w [.slice A 0 cap] hC hw hown hfr HR rfl (fun i x y e1 e2 => ?_) K hK
            match i with
            | 0 =>
              simp at e1 e2
              subst e1; subst e2
              exact .fz _ _ (.sc _ rfl)
            | n + 1 => simp at e1
        · have h := run66a (v := { G := G, T := T66, E := fun _ _ _ => none }) rfl es he hc.1 hc.2
          rw [Env.run_some] at h
          obtain ⟨n, hn⟩ := h
          exact hS n _ _ _ _ _ hn
      · cases e
    · cases e
  · cases e
end Go.Vai

set_option linter.unusedVariables false
set_option linter.unusedSimpArgs false
set_option linter.unnecessarySimpa false
set_option linter.unusedSectionVars false
namespace Go.Vai
abbrev Pt := Int × Int
abbrev Pc := Int × Int × Int
abbrev Ol := List Pt
abbrev Gl := Int × List Ol × List Pc
abbrev Font := List Gl × List Pt
def ePt (p : Pt) : List FV := [.sc (.int .i64 p.1), .sc (.int .i64 p.2)]
def ePc (p : Pc) : List FV := [.sc (.int .i64 p.1), .sc (.int .i64 p.2.1), .sc (.int .i64 p.2.2)]
def eOl (o : Ol) : List FV := [.sl (o.map ePt)]
def eGl (g : Gl) : List FV := [.sc (.int .i64 g.1), .sl (g.2.1.map eOl), .sl (g.2.2.map ePc)]
abbrev aFont (f : Font) : AV := .agg [rw_ (f.1.map eGl), rw_ (f.2.map ePt)]
@[simp] theorem ePt_len (p : Pt) : (ePt p).length = 2 := rfl
@[simp] theorem ePc_len (p : Pc) : (ePc p).length = 3 := rfl
@[simp] theorem eOl_len (p : Ol) : (eOl p).length = 1 := rfl
@[simp] theorem eGl_len (p : Gl) : (eGl p).length = 3 := rfl
@[simp] theorem ePt_map {β : Type} (f : FV → β) (p : Pt) : (ePt p).map f = [f (.sc (.int .i64 p.1)), f (.sc (.int .i64 p.2))] := rfl
@[simp] theorem ePc_map {β : Type} (f : FV → β) (p : Pc) : (ePc p).map f = [f (.sc (.int .i64 p.1)), f (.sc (.int .i64 p.2.1)), f (.sc (.int .i64 p.2.2))] := rfl
@[simp] theorem eOl_map {β : Type} (f : FV → β) (o : Ol) : (eOl o).map f = [f (.sl (o.map ePt))] := rfl
@[simp] theorem eGl_map {β : Type} (f : FV → β) (g : Gl) : (eGl g).map f = [f (.sc (.int .i64 g.1)), f (.sl (g.2.1.map eOl)), f (.sl (g.2.2.map ePc))] := rfl

def cut (n : Int) : Int := max (-1048576) (min n 1048576)
theorem cut_b (n : Int) : -1048576 ≤ cut n ∧ cut n ≤ 1048576 := by unfold cut; omega
variable {v : Env} (hv : v.T = Tt)
include hv
theorem run_cut (n : Int) : v.run 60 [i64 n] [] = some (i64 (cut n), []) := by
  refine run_wp (by rw [hv]; exact rfl) ?_
  simp -dsimp -implicitDefEqProofs (maxSteps := 1000000) (disch := omega) [condP_pos, condP_neg, optP_pos, decide_eq_true, decide_eq_false, wrap_i64, Int.natCast_inj, cut]
theorem run_rcut (n : Int) : v.run 62 [i64 n] [] = some (i64 (cut n), []) := by
  refine run_wp (by rw [hv]; exact rfl) ?_
  simp -dsimp -implicitDefEqProofs (maxSteps := 1000000) (disch := omega) [condP_pos, condP_neg, optP_pos, decide_eq_true, decide_eq_false, wrap_i64, Int.natCast_inj, cut]

def lookupG (many : Nat) (r : Int) : List Pt → Int
  | [] => if many = 0 then -1 else 0
  | p :: rest => if p.1 = r then (if 0 ≤ p.2 ∧ p.2 < many then p.2 else if many = 0 then -1 else 0) else lookupG many r rest
def S22 (f : Font) (r : Int) (a : List Pt × List Pt) : St :=
  { sl := [(1, i64 r), (2, .bp 0 0), (8, rw_ ((a.1 ++ a.2).map ePt)), (9, i64 (a.1 ++ a.2).length), (10, i64 a.1.length)],
    hp := [(0, some (.box [rw_ (f.1.map eGl), rw_ (f.2.map ePt)]))], nx := 1 }
theorem run_lookup (f : Font) (r : Int) (h1 : f.1.length < 1000000000000) (h2 : f.2.length < 1000000000000) : v.run 22 [aFont f, i64 r] [] = some (i64 (lookupG f.1.length r f.2), []) := by
  refine run_wp (by rw [hv]; exact rfl) ?_
  simp -dsimp -implicitDefEqProofs (maxSteps := 1000000) (disch := omega) [condP_pos, condP_neg, optP_pos, decide_eq_true, decide_eq_false, wrap_i64, Int.natCast_inj]
  refine wp_inv (S22 f r) (fun a => a.1 ++ a.2 = f.2 ∧ lookupG f.1.length r f.2 = lookupG f.1.length r a.2) (fun a => a.2.length) ([], f.2) (by simp) (by simp -dsimp -implicitDefEqProofs (maxSteps := 1000000) (disch := omega) [condP_pos, condP_neg, optP_pos, decide_eq_true, decide_eq_false, wrap_i64, Int.natCast_inj, S22]) ?_
  rintro ⟨pre, rest⟩ ⟨ha, hb⟩
  simp only at ha hb
  cases rest with
  | nil =>
    rw [hb]
    by_cases hm : f.1.length = 0 <;> simp -dsimp -implicitDefEqProofs (maxSteps := 1000000) (disch := omega) [condP_pos, condP_neg, optP_pos, decide_eq_true, decide_eq_false, wrap_i64, Int.natCast_inj, S22, lookupG, hm]
  | cons p rest =>
    rw [hb]
    have hl : pre.length + (rest.length + 1) < 1000000000000 := by rw [← ha] at h2; simpa using h2
    by_cases h : p.1 = r
    · by_cases h3 : 0 ≤ p.2 <;> by_cases h4 : p.2 < f.1.length <;> by_cases hm : f.1.length = 0 <;> first | (exfalso; omega) | (simp -dsimp -implicitDefEqProofs (maxSteps := 1000000) (disch := omega) [condP_pos, condP_neg, optP_pos, decide_eq_true, decide_eq_false, wrap_i64, Int.natCast_inj, S22, lookupG, h, h3, h4, hm] <;> omega)
    · simp -dsimp -implicitDefEqProofs (maxSteps := 1000000) (disch := omega) [condP_pos, condP_neg, optP_pos, decide_eq_true, decide_eq_false, wrap_i64, Int.natCast_inj, S22, h]
      refine again (pre ++ [p], rest) ?_ ?_ ?_
      · simp [ha, hb, lookupG, h]
      · simp
      · simp -dsimp -implicitDefEqProofs (maxSteps := 1000000) (disch := omega) [condP_pos, condP_neg, optP_pos, decide_eq_true, decide_eq_false, wrap_i64, Int.natCast_inj, S22]
def S23 (f : Font) (r : Int) (a : List Pt × List Pt) : St :=
  { sl := [(1, i64 r), (2, .bp 0 0), (5, i64 a.1.length)],
    hp := [(0, some (.box [rw_ (f.1.map eGl), rw_ ((a.1 ++ a.2).map ePt)]))], nx := 1 }
theorem run_rlookup (f : Font) (r : Int) (h1 : f.1.length < 1000000000000) (h2 : f.2.length < 1000000000000) : v.run 23 [aFont f, i64 r] [] = some (i64 (lookupG f.1.length r f.2), []) := by
  refine run_wp (by rw [hv]; exact rfl) ?_
  simp -dsimp -implicitDefEqProofs (maxSteps := 1000000) (disch := omega) [condP_pos, condP_neg, optP_pos, decide_eq_true, decide_eq_false, wrap_i64, Int.natCast_inj]
  refine wp_inv (S23 f r) (fun a => a.1 ++ a.2 = f.2 ∧ lookupG f.1.length r f.2 = lookupG f.1.length r a.2) (fun a => a.2.length) ([], f.2) (by simp) (by simp -dsimp -implicitDefEqProofs (maxSteps := 1000000) (disch := omega) [condP_pos, condP_neg, optP_pos, decide_eq_true, decide_eq_false, wrap_i64, Int.natCast_inj, S23]) ?_
  rintro ⟨pre, rest⟩ ⟨ha, hb⟩
  simp only at ha hb
  cases rest with
  | nil =>
    rw [hb]
    by_cases hm : f.1.length = 0 <;> simp -dsimp -implicitDefEqProofs (maxSteps := 1000000) (disch := omega) [condP_pos, condP_neg, optP_pos, decide_eq_true, decide_eq_false, wrap_i64, Int.natCast_inj, S23, lookupG, hm]
  | cons p rest =>
    rw [hb]
    have hl : pre.length + (rest.length + 1) < 1000000000000 := by rw [← ha] at h2; simpa using h2
    by_cases h : p.1 = r
    · by_cases h3 : 0 ≤ p.2 <;> by_cases h4 : p.2 < f.1.length <;> by_cases hm : f.1.length = 0 <;> first | (exfalso; omega) | (simp -dsimp -implicitDefEqProofs (maxSteps := 1000000) (disch := omega) [condP_pos, condP_neg, optP_pos, decide_eq_true, decide_eq_false, wrap_i64, Int.natCast_inj, S23, lookupG, h, h3, h4, hm] <;> omega)
    · simp -dsimp -implicitDefEqProofs (maxSteps := 1000000) (disch := omega) [condP_pos, condP_neg, optP_pos, decide_eq_true, decide_eq_false, wrap_i64, Int.natCast_inj, S23, h]
      refine again (pre ++ [p], rest) ?_ ?_ ?_
      · simp [ha, hb, lookupG, h]
      · simp
      · simp -dsimp -implicitDefEqProofs (maxSteps := 1000000) (disch := omega) [condP_pos, condP_neg, optP_pos, decide_eq_true, decide_eq_false, wrap_i64, Int.natCast_inj, S23]

def advance (f : Font) (k : Int) : Int := if 0 ≤ k then match f.1[k.toNat]? with
  | some g => cut g.1
  | none => 0
  else 0
theorem run_advance (f : Font) (k : Int) : v.run 24 [aFont f, i64 k] [] = some (i64 (advance f k), []) := by
  refine run_wp (by rw [hv]; exact rfl) ?_
  by_cases h : k < 0
  · simp -dsimp -implicitDefEqProofs (maxSteps := 1000000) (disch := omega) [condP_pos, condP_neg, optP_pos, decide_eq_true, decide_eq_false, wrap_i64, Int.natCast_inj, if_pos, if_neg, h, advance]
  · by_cases h2 : k < f.1.length
    · have h3 : f.1[k.toNat]? = some (f.1[k.toNat]'(by omega)) := List.getElem?_eq_getElem (by omega)
      simp -dsimp -implicitDefEqProofs (maxSteps := 1000000) (disch := omega) [condP_pos, condP_neg, optP_pos, decide_eq_true, decide_eq_false, wrap_i64, Int.natCast_inj, if_pos, if_neg, h, h2, h3, run_cut hv, advance]
    · have h3 : f.1[k.toNat]? = none := List.getElem?_eq_none (by omega)
      simp -dsimp -implicitDefEqProofs (maxSteps := 1000000) (disch := omega) [condP_pos, condP_neg, optP_pos, decide_eq_true, decide_eq_false, wrap_i64, Int.natCast_inj, if_pos, if_neg, h, h2, h3, advance]
theorem run_radvance (f : Font) (k : Int) : v.run 25 [aFont f, i64 k] [] = some (i64 (advance f k), []) := by
  refine run_wp (by rw [hv]; exact rfl) ?_
  by_cases h : k < 0
  · simp -dsimp -implicitDefEqProofs (maxSteps := 1000000) (disch := omega) [condP_pos, condP_neg, optP_pos, decide_eq_true, decide_eq_false, wrap_i64, Int.natCast_inj, if_pos, if_neg, h, advance]
  · by_cases h2 : k < f.1.length
    · have h3 : f.1[k.toNat]? = some (f.1[k.toNat]'(by omega)) := List.getElem?_eq_getElem (by omega)
      simp -dsimp -implicitDefEqProofs (maxSteps := 1000000) (disch := omega) [condP_pos, condP_neg, optP_pos, decide_eq_true, decide_eq_false, wrap_i64, Int.natCast_inj, if_pos, if_neg, h, h2, h3, run_rcut hv, advance]
    · have h3 : f.1[k.toNat]? = none := List.getElem?_eq_none (by omega)
      simp -dsimp -implicitDefEqProofs (maxSteps := 1000000) (disch := omega) [condP_pos, condP_neg, optP_pos, decide_eq_true, decide_eq_false, wrap_i64, Int.natCast_inj, if_pos, if_neg, h, h2, h3, advance]
end Go.Vai

set_option linter.unusedVariables false
set_option linter.unusedSimpArgs false
set_option linter.unnecessarySimpa false
set_option linter.unusedSectionVars false
namespace Go.Vai
variable {v : Env} (hv : v.T = Tt)
include hv
def S63 (a : List Pt × List Pt × List Pt) : St :=
  { sl := [(0, rw_ ((a.1 ++ a.2.1).map ePt)), (1, rw_ ((a.1 ++ a.2.2).map ePt)), (5, i64 a.1.length)], hp := [], nx := 0 }
theorem run_samePts (A B : List Pt) (hA : A.length < 1000000000000) : v.run 63 [rw_ (A.map ePt), rw_ (B.map ePt)] [] = some (bo (decide (A = B)), []) := by
  refine run_wp (by rw [hv]; exact rfl) ?_
  by_cases hl : A.length = B.length
  · simp -dsimp -implicitDefEqProofs (maxSteps := 1000000) (disch := omega) [condP_pos, condP_neg, optP_pos, decide_eq_true, decide_eq_false, wrap_i64, Int.natCast_inj, hl]
    refine wp_inv S63 (fun a => a.1 ++ a.2.1 = A ∧ a.1 ++ a.2.2 = B) (fun a => a.2.1.length) ([], A, B) (by simp) (by simp -dsimp -implicitDefEqProofs (maxSteps := 1000000) (disch := omega) [condP_pos, condP_neg, optP_pos, decide_eq_true, decide_eq_false, wrap_i64, Int.natCast_inj, S63]) ?_
    rintro ⟨pre, ra, rb⟩ ⟨h1, h2⟩
    subst h1; subst h2
    simp at hA hl
    cases ra with
    | nil =>
      obtain rfl : rb = [] := List.eq_nil_of_length_eq_zero (by simpa using hl.symm)
      simp -dsimp -implicitDefEqProofs (maxSteps := 1000000) (disch := omega) [condP_pos, condP_neg, optP_pos, decide_eq_true, decide_eq_false, wrap_i64, Int.natCast_inj, S63]
    | cons p ra =>
      cases rb with
      | nil => simp at hl
      | cons q rb =>
        simp at hl hA
        by_cases e1 : p.1 = q.1 <;> by_cases e2 : p.2 = q.2
        · obtain rfl : p = q := Prod.ext e1 e2
          simp -dsimp -implicitDefEqProofs (maxSteps := 1000000) (disch := omega) [condP_pos, condP_neg, optP_pos, decide_eq_true, decide_eq_false, wrap_i64, Int.natCast_inj, S63]
          refine again (pre ++ [p], ra, rb) ?_ ?_ ?_
          · simp
          · simp
          · simp -dsimp -implicitDefEqProofs (maxSteps := 1000000) (disch := omega) [condP_pos, condP_neg, optP_pos, decide_eq_true, decide_eq_false, wrap_i64, Int.natCast_inj, S63]
        · simp -dsimp -implicitDefEqProofs (maxSteps := 1000000) (disch := omega) [condP_pos, condP_neg, optP_pos, decide_eq_true, decide_eq_false, wrap_i64, Int.natCast_inj, S63, e1, e2, Prod.ext_iff]
        · simp -dsimp -implicitDefEqProofs (maxSteps := 1000000) (disch := omega) [condP_pos, condP_neg, optP_pos, decide_eq_true, decide_eq_false, wrap_i64, Int.natCast_inj, S63, e1, e2, Prod.ext_iff]
        · simp -dsimp -implicitDefEqProofs (maxSteps := 1000000) (disch := omega) [condP_pos, condP_neg, optP_pos, decide_eq_true, decide_eq_false, wrap_i64, Int.natCast_inj, S63, e1, e2, Prod.ext_iff]
  · have : A ≠ B := fun e => hl (by rw [e])
    simp -dsimp -implicitDefEqProofs (maxSteps := 1000000) (disch := omega) [condP_pos, condP_neg, optP_pos, decide_eq_true, decide_eq_false, wrap_i64, Int.natCast_inj, hl, this]
def S26 (a : List Ol × List Ol × List Ol) : St :=
  { sl := [(0, rw_ ((a.1 ++ a.2.1).map eOl)), (1, rw_ ((a.1 ++ a.2.2).map eOl)), (5, i64 a.1.length)], hp := [], nx := 0 }
theorem run_sameOls (A B : List Ol) (hA : A.length < 1000000000000) (hA2 : ∀ o ∈ A, o.length < 1000000000000) : v.run 26 [rw_ (A.map eOl), rw_ (B.map eOl)] [] = some (bo (decide (A = B)), []) := by
  refine run_wp (by rw [hv]; exact rfl) ?_
  by_cases hl : A.length = B.length
  · simp -dsimp -implicitDefEqProofs (maxSteps := 1000000) (disch := omega) [condP_pos, condP_neg, optP_pos, decide_eq_true, decide_eq_false, wrap_i64, Int.natCast_inj, hl]
    refine wp_inv S26 (fun a => a.1 ++ a.2.1 = A ∧ a.1 ++ a.2.2 = B) (fun a => a.2.1.length) ([], A, B) (by simp) (by simp -dsimp -implicitDefEqProofs (maxSteps := 1000000) (disch := omega) [condP_pos, condP_neg, optP_pos, decide_eq_true, decide_eq_false, wrap_i64, Int.natCast_inj, S26]) ?_
    rintro ⟨pre, ra, rb⟩ ⟨h1, h2⟩
    subst h1; subst h2
    simp at hA hl
    cases ra with
    | nil =>
      obtain rfl : rb = [] := List.eq_nil_of_length_eq_zero (by simpa using hl.symm)
      simp -dsimp -implicitDefEqProofs (maxSteps := 1000000) (disch := omega) [condP_pos, condP_neg, optP_pos, decide_eq_true, decide_eq_false, wrap_i64, Int.natCast_inj, S26]
    | cons p ra =>
      cases rb with
      | nil => simp at hl
      | cons q rb =>
        simp at hl hA
        have hp := run_samePts hv p q (hA2 p (by simp))
        by_cases e1 : p = q
        · subst e1
          simp -dsimp -implicitDefEqProofs (maxSteps := 1000000) (disch := omega) [condP_pos, condP_neg, optP_pos, decide_eq_true, decide_eq_false, wrap_i64, Int.natCast_inj, S26, hp]
          refine again (pre ++ [p], ra, rb) ?_ ?_ ?_
          · simp
          · simp
          · simp -dsimp -implicitDefEqProofs (maxSteps := 1000000) (disch := omega) [condP_pos, condP_neg, optP_pos, decide_eq_true, decide_eq_false, wrap_i64, Int.natCast_inj, S26]
        · simp -dsimp -implicitDefEqProofs (maxSteps := 1000000) (disch := omega) [condP_pos, condP_neg, optP_pos, decide_eq_true, decide_eq_false, wrap_i64, Int.natCast_inj, S26, hp, e1]
  · have : A ≠ B := fun e => hl (by rw [e])
    simp -dsimp -implicitDefEqProofs (maxSteps := 1000000) (disch := omega) [condP_pos, condP_neg, optP_pos, decide_eq_true, decide_eq_false, wrap_i64, Int.natCast_inj, hl, this]
def S39 (a : List Pc × List Pc × List Pc) : St :=
  { sl := [(0, rw_ ((a.1 ++ a.2.1).map ePc)), (1, rw_ ((a.1 ++ a.2.2).map ePc)), (5, i64 a.1.length)], hp := [], nx := 0 }
theorem run_samePcs (A B : List Pc) (hA : A.length < 1000000000000) : v.run 39 [rw_ (A.map ePc), rw_ (B.map ePc)] [] = some (bo (decide (A = B)), []) := by
  refine run_wp (by rw [hv]; exact rfl) ?_
  by_cases hl : A.length = B.length
  · simp -dsimp -implicitDefEqProofs (maxSteps := 1000000) (disch := omega) [condP_pos, condP_neg, optP_pos, decide_eq_true, decide_eq_false, wrap_i64, Int.natCast_inj, hl]
    refine wp_inv S39 (fun a => a.1 ++ a.2.1 = A ∧ a.1 ++ a.2.2 = B) (fun a => a.2.1.length) ([], A, B) (by simp) (by simp -dsimp -implicitDefEqProofs (maxSteps := 1000000) (disch := omega) [condP_pos, condP_neg, optP_pos, decide_eq_true, decide_eq_false, wrap_i64, Int.natCast_inj, S39]) ?_
    rintro ⟨pre, ra, rb⟩ ⟨h1, h2⟩
    subst h1; subst h2
    simp at hA hl
    cases ra with
    | nil =>
      obtain rfl : rb = [] := List.eq_nil_of_length_eq_zero (by simpa using hl.symm)
      simp -dsimp -implicitDefEqProofs (maxSteps := 1000000) (disch := omega) [condP_pos, condP_neg, optP_pos, decide_eq_true, decide_eq_false, wrap_i64, Int.natCast_inj, S39]
    | cons p ra =>
      cases rb with
      | nil => simp at hl
      | cons q rb =>
        simp at hl hA
        by_cases e : p = q
        · subst e
          simp -dsimp -implicitDefEqProofs (maxSteps := 1000000) (disch := omega) [condP_pos, condP_neg, optP_pos, decide_eq_true, decide_eq_false, wrap_i64, Int.natCast_inj, S39]
          refine again (pre ++ [p], ra, rb) ?_ ?_ ?_
          · simp
          · simp
          · simp -dsimp -implicitDefEqProofs (maxSteps := 1000000) (disch := omega) [condP_pos, condP_neg, optP_pos, decide_eq_true, decide_eq_false, wrap_i64, Int.natCast_inj, S39]
        · have : ¬ (p.1 = q.1 ∧ p.2.1 = q.2.1 ∧ p.2.2 = q.2.2) := fun h => e (Prod.ext h.1 (Prod.ext h.2.1 h.2.2))
          by_cases e1 : p.1 = q.1 <;> by_cases e2 : p.2.1 = q.2.1 <;> by_cases e3 : p.2.2 = q.2.2 <;> simp [e1, e2, e3] at this <;> simp -dsimp -implicitDefEqProofs (maxSteps := 1000000) (disch := omega) [condP_pos, condP_neg, optP_pos, decide_eq_true, decide_eq_false, wrap_i64, Int.natCast_inj, S39, e1, e2, e3, e]
  · have : A ≠ B := fun e => hl (by rw [e])
    simp -dsimp -implicitDefEqProofs (maxSteps := 1000000) (disch := omega) [condP_pos, condP_neg, optP_pos, decide_eq_true, decide_eq_false, wrap_i64, Int.natCast_inj, hl, this]
end Go.Vai

set_option linter.unusedVariables false
set_option linter.unusedSimpArgs false
set_option linter.unnecessarySimpa false
set_option linter.unusedSectionVars false
namespace Go.Vai
variable {v : Env} (hv : v.T = Tt)
instance decGl : DecidableEq Gl := inferInstanceAs (DecidableEq (Int × List (List (Int × Int)) × List (Int × Int × Int)))
instance decFont : DecidableEq Font := inferInstanceAs (DecidableEq (List Gl × List Pt))
def okOls (l : List Ol) : Prop := l.length < 1000000000000 ∧ ∀ o ∈ l, o.length < 1000000000000
def okGl (g : Gl) : Prop := okOls g.2.1 ∧ g.2.2.length < 1000000000000
def okFont (f : Font) : Prop := f.1.length < 1000000000000 ∧ f.2.length < 1000000000000 ∧ ∀ g ∈ f.1, okGl g
include hv
def S27 (R : List Pt × List Pt) (a : List Gl × List Gl × List Gl) : St :=
  { sl := [(2, .bp 0 0), (3, .bp 1 0), (5, i64 a.1.length)],
    hp := [(0, some (.box [rw_ ((a.1 ++ a.2.1).map eGl), rw_ (R.1.map ePt)])), (1, some (.box [rw_ ((a.1 ++ a.2.2).map eGl), rw_ (R.2.map ePt)]))], nx := 2 }
def T27 (G : List Gl × List Gl) (a : List Pt × List Pt × List Pt) : St :=
  { sl := [(2, .bp 0 0), (3, .bp 1 0), (8, i64 a.1.length)],
    hp := [(0, some (.box [rw_ (G.1.map eGl), rw_ ((a.1 ++ a.2.1).map ePt)])), (1, some (.box [rw_ (G.2.map eGl), rw_ ((a.1 ++ a.2.2).map ePt)]))], nx := 2 }
set_option maxHeartbeats 2000000 in
theorem run_sameFont (f g : Font) (hf : okFont f) : v.run 27 [aFont f, aFont g] [] = some (bo (decide (f = g)), []) := by
  refine run_wp (by rw [hv]; exact rfl) ?_
  obtain ⟨h0, h1, h2⟩ := hf
  obtain ⟨fg, fr⟩ := f
  obtain ⟨gg, gr⟩ := g
  simp only at h0 h1 h2
  by_cases hl : fg.length = gg.length
  · by_cases hl2 : fr.length = gr.length
    · simp -dsimp -implicitDefEqProofs (maxSteps := 1000000) (disch := omega) [condP_pos, condP_neg, optP_pos, decide_eq_true, decide_eq_false, wrap_i64, Int.natCast_inj, hl, hl2]
      refine wp_inv (S27 (fr, gr)) (fun a => a.1 ++ a.2.1 = fg ∧ a.1 ++ a.2.2 = gg) (fun a => a.2.1.length) ([], fg, gg) (by simp) (by simp -dsimp -implicitDefEqProofs (maxSteps := 1000000) (disch := omega) [condP_pos, condP_neg, optP_pos, decide_eq_true, decide_eq_false, wrap_i64, Int.natCast_inj, S27]) ?_
      rintro ⟨pre, ra, rb⟩ ⟨e1, e2⟩
      subst e1; subst e2
      simp at h0 hl
      cases ra with
      | nil =>
        obtain rfl : rb = [] := List.eq_nil_of_length_eq_zero (by simpa using hl.symm)
        simp -dsimp -implicitDefEqProofs (maxSteps := 1000000) (disch := omega) [condP_pos, condP_neg, optP_pos, decide_eq_true, decide_eq_false, wrap_i64, Int.natCast_inj, S27]
        refine wp_inv (T27 (pre, pre)) (fun a => a.1 ++ a.2.1 = fr ∧ a.1 ++ a.2.2 = gr) (fun a => a.2.1.length) ([], fr, gr) (by simp) (by simp -dsimp -implicitDefEqProofs (maxSteps := 1000000) (disch := omega) [condP_pos, condP_neg, optP_pos, decide_eq_true, decide_eq_false, wrap_i64, Int.natCast_inj, T27]) ?_
        rintro ⟨pre', ra, rb⟩ ⟨e1, e2⟩
        subst e1; subst e2
        simp at h1 hl2
        cases ra with
        | nil =>
          obtain rfl : rb = [] := List.eq_nil_of_length_eq_zero (by simpa using hl2.symm)
          simp -dsimp -implicitDefEqProofs (maxSteps := 1000000) (disch := omega) [condP_pos, condP_neg, optP_pos, decide_eq_true, decide_eq_false, wrap_i64, Int.natCast_inj, T27]
        | cons p ra =>
          cases rb with
          | nil => simp at hl2
          | cons q rb =>
            simp at hl2 h1
            by_cases e : p = q
            · subst e
              simp -dsimp -implicitDefEqProofs (maxSteps := 1000000) (disch := omega) [condP_pos, condP_neg, optP_pos, decide_eq_true, decide_eq_false, wrap_i64, Int.natCast_inj, T27]
              refine again (pre' ++ [p], ra, rb) ?_ ?_ ?_
              · simp
              · simp
              · simp -dsimp -implicitDefEqProofs (maxSteps := 1000000) (disch := omega) [condP_pos, condP_neg, optP_pos, decide_eq_true, decide_eq_false, wrap_i64, Int.natCast_inj, T27]
            · have : ¬ (p.1 = q.1 ∧ p.2 = q.2) := fun h => e (Prod.ext h.1 h.2)
              by_cases e1 : p.1 = q.1 <;> by_cases e2 : p.2 = q.2 <;> simp [e1, e2] at this <;> simp -dsimp -implicitDefEqProofs (maxSteps := 1000000) (disch := omega) [condP_pos, condP_neg, optP_pos, decide_eq_true, decide_eq_false, wrap_i64, Int.natCast_inj, T27, e1, e2, e]
      | cons p ra =>
        cases rb with
        | nil => simp at hl
        | cons q rb =>
          simp at hl h0
          have hp := h2 p (by simp)
          have hA := run_sameOls hv p.2.1 q.2.1 hp.1.1 hp.1.2
          have hB := run_samePcs hv p.2.2 q.2.2 hp.2
          by_cases e : p = q
          · subst e
            simp -dsimp -implicitDefEqProofs (maxSteps := 1000000) (disch := omega) [condP_pos, condP_neg, optP_pos, decide_eq_true, decide_eq_false, wrap_i64, Int.natCast_inj, S27, hA, hB]
            refine again (pre ++ [p], ra, rb) ?_ ?_ ?_
            · simp
            · simp
            · simp -dsimp -implicitDefEqProofs (maxSteps := 1000000) (disch := omega) [condP_pos, condP_neg, optP_pos, decide_eq_true, decide_eq_false, wrap_i64, Int.natCast_inj, S27]
          · have : ¬ (p.1 = q.1 ∧ p.2.1 = q.2.1 ∧ p.2.2 = q.2.2) := fun h => e (Prod.ext h.1 (Prod.ext h.2.1 h.2.2))
            by_cases e1 : p.1 = q.1
            · by_cases e2 : p.2.1 = q.2.1
              · rw [e2] at hA
                by_cases e3 : p.2.2 = q.2.2
                · exact absurd ⟨e1, e2, e3⟩ this
                · simp -dsimp -implicitDefEqProofs (maxSteps := 1000000) (disch := omega) [condP_pos, condP_neg, optP_pos, decide_eq_true, decide_eq_false, wrap_i64, Int.natCast_inj, S27, hA, hB, e1, e2, e3, e]
              · simp -dsimp -implicitDefEqProofs (maxSteps := 1000000) (disch := omega) [condP_pos, condP_neg, optP_pos, decide_eq_true, decide_eq_false, wrap_i64, Int.natCast_inj, S27, hA, hB, e1, e2, e]
            · simp -dsimp -implicitDefEqProofs (maxSteps := 1000000) (disch := omega) [condP_pos, condP_neg, optP_pos, decide_eq_true, decide_eq_false, wrap_i64, Int.natCast_inj, S27, hA, hB, e1, e]
    · have : fr ≠ gr := fun e => hl2 (by rw [e])
      simp -dsimp -implicitDefEqProofs (maxSteps := 1000000) (disch := omega) [condP_pos, condP_neg, optP_pos, decide_eq_true, decide_eq_false, wrap_i64, Int.natCast_inj, hl, hl2, this]
  · have : fg ≠ gg := fun e => hl (by rw [e])
    simp -dsimp -implicitDefEqProofs (maxSteps := 1000000) (disch := omega) [condP_pos, condP_neg, optP_pos, decide_eq_true, decide_eq_false, wrap_i64, Int.natCast_inj, hl, this]
def S28 (a : List Ol × List Ol) : St :=
  { sl := [(0, rw_ ((a.1 ++ a.2).map eOl)), (3, .osl 0 1 0 a.1.length), (4, i64 a.1.length)], hp := [(0, some (.arr 1 (a.1.map eOl)))], nx := 1 }
theorem run_copiedOls (l : List Ol) (h : l.length < 1000000000) (h2 : ∀ o ∈ l, o.length < 1000000000) : v.run 28 [rw_ (l.map eOl)] [] = some (rw_ (l.map eOl), []) := by
  refine run_wp (by rw [hv]; exact rfl) ?_
  simp -dsimp -implicitDefEqProofs (maxSteps := 1000000) (disch := omega) [condP_pos, condP_neg, optP_pos, decide_eq_true, decide_eq_false, wrap_i64, Int.natCast_inj]
  refine wp_inv S28 (fun a => a.1 ++ a.2 = l) (fun a => a.2.length) ([], l) (by simp) (by simp -dsimp -implicitDefEqProofs (maxSteps := 1000000) (disch := omega) [condP_pos, condP_neg, optP_pos, decide_eq_true, decide_eq_false, wrap_i64, Int.natCast_inj, S28]) ?_
  rintro ⟨pre, rest⟩ rfl
  cases rest with
  | nil => simp -dsimp -implicitDefEqProofs (maxSteps := 1000000) (disch := omega) [condP_pos, condP_neg, optP_pos, decide_eq_true, decide_eq_false, wrap_i64, Int.natCast_inj, S28]
  | cons p rest =>
    simp at h
    have := h2 p (by simp)
    simp -dsimp -implicitDefEqProofs (maxSteps := 1000000) (disch := omega) [condP_pos, condP_neg, optP_pos, decide_eq_true, decide_eq_false, wrap_i64, Int.natCast_inj, S28]
    refine again (pre ++ [p], rest) ?_ ?_ ?_
    · simp
    · simp
    · simp -dsimp -implicitDefEqProofs (maxSteps := 1000000) (disch := omega) [condP_pos, condP_neg, optP_pos, decide_eq_true, decide_eq_false, wrap_i64, Int.natCast_inj, S28, eOl]
end Go.Vai

set_option linter.unusedVariables false
set_option linter.unusedSimpArgs false
set_option linter.unnecessarySimpa false
set_option linter.unusedSectionVars false
namespace Go.Vai
variable {v : Env} (hv : v.T = Tt)
def szOls : List Ol → Nat
  | [] => 0
  | o :: r => o.length + szOls r
def szGls : List Gl → Nat
  | [] => 0
  | g :: r => g.2.2.length + g.2.1.length + szOls g.2.1 + szGls r
def fontSize (f : Font) : Nat := f.1.length + f.2.length + szGls f.1
include hv
def S19 (f : Font) (a : List Gl × List Gl) : St :=
  { sl := [(1, .bp 0 0), (2, .bp 1 0), (3, .bp 2 0), (4, i64 a.1.length)],
    hp := [(0, some (.box [rw_ ((a.1 ++ a.2).map eGl), rw_ (f.2.map ePt)])), (1, some (.box [.emp, .emp])), (2, some (.box [.osl 3 3 0 a.1.length, .osl 4 2 0 f.2.length])),
      (3, some (.arr 3 (a.1.map eGl))), (4, some (.arr 2 (f.2.map ePt)))], nx := 5 }
set_option maxHeartbeats 1000000 in
theorem run_copied (f : Font) (h1 : f.1.length < 1000000000) (h2 : f.2.length < 1000000000) (h3 : ∀ g ∈ f.1, g.2.2.length < 1000000000 ∧ g.2.1.length < 1000000000 ∧ ∀ o ∈ g.2.1, o.length < 1000000000) : v.run 19 [aFont f] [] = some (aFont f, []) := by
  refine run_wp (by rw [hv]; exact rfl) ?_
  obtain ⟨fg, fr⟩ := f
  simp only at h1 h2 h3
  simp -dsimp -implicitDefEqProofs (maxSteps := 1000000) (disch := omega) [condP_pos, condP_neg, optP_pos, decide_eq_true, decide_eq_false, wrap_i64, Int.natCast_inj]
  refine wp_inv (S19 (fg, fr)) (fun a => a.1 ++ a.2 = fg) (fun a => a.2.length) ([], fg) (by simp) (by simp -dsimp -implicitDefEqProofs (maxSteps := 1000000) (disch := omega) [condP_pos, condP_neg, optP_pos, decide_eq_true, decide_eq_false, wrap_i64, Int.natCast_inj, S19]) ?_
  rintro ⟨pre, rest⟩ rfl
  cases rest with
  | nil => simp -dsimp -implicitDefEqProofs (maxSteps := 1000000) (disch := omega) [condP_pos, condP_neg, optP_pos, decide_eq_true, decide_eq_false, wrap_i64, Int.natCast_inj, S19]
  | cons p rest =>
    simp at h1
    obtain ⟨g1, g2, g3⟩ := h3 p (by simp)
    have hc := run_copiedOls hv p.2.1 g2 g3
    clear h3 g3
    simp -dsimp -implicitDefEqProofs (maxSteps := 1000000) (disch := omega) [condP_pos, condP_neg, optP_pos, decide_eq_true, decide_eq_false, wrap_i64, Int.natCast_inj, S19, hc]
    refine again (pre ++ [p], rest) ?_ ?_ ?_
    · simp
    · simp
    · simp -dsimp -implicitDefEqProofs (maxSteps := 1000000) (disch := omega) [condP_pos, condP_neg, optP_pos, decide_eq_true, decide_eq_false, wrap_i64, Int.natCast_inj, S19, eGl]
def S18 (f : Font) (most : Int) (a : List Gl × List Gl × Nat) : St :=
  { sl := [(1, i64 most), (2, .bp 0 0), (5, i64 a.2.2), (6, i64 a.1.length)],
    hp := [(0, some (.box [rw_ ((a.1 ++ a.2.1).map eGl), rw_ (f.2.map ePt)]))], nx := 1 }
def T18 (f : Font) (most : Int) (pre : List Gl) (p : Gl) (rest : List Gl) (a : List Ol × List Ol × Nat) : St :=
  { sl := [(1, i64 most), (2, .bp 0 0), (5, i64 a.2.2), (6, i64 pre.length), (7, i64 a.1.length)],
    hp := [(0, some (.box [rw_ ((pre ++ p :: rest).map eGl), rw_ (f.2.map ePt)]))], nx := 1 }
set_option maxHeartbeats 1000000 in
theorem run_few (f : Font) (most : Int) (hm : most < 1000000000000) (hf : okFont f) : v.run 18 [aFont f, i64 most] [] = some (bo (decide ((fontSize f : Int) ≤ most)), []) := by
  refine run_wp (by rw [hv]; exact rfl) ?_
  obtain ⟨fg, fr⟩ := f
  obtain ⟨h0, h1, h2⟩ := hf
  simp only at h0 h1 h2
  generalize hF : fontSize (fg, fr) = F
  simp -dsimp -implicitDefEqProofs (maxSteps := 1000000) (disch := omega) [condP_pos, condP_neg, optP_pos, decide_eq_true, decide_eq_false, wrap_i64, Int.natCast_inj]
  refine wp_inv (S18 (fg, fr) most) (fun a => a.1 ++ a.2.1 = fg ∧ a.2.2 + szGls a.2.1 ≤ F ∧ ((a.2.2 : Int) ≤ most → a.2.2 + szGls a.2.1 = F) ∧ a.2.2 < 4000000000000) (fun a => a.2.1.length) ([], fg, fg.length + fr.length) (by refine ⟨by simp, by simp [← hF, fontSize], by simp [← hF, fontSize], ?_⟩; simp only; omega) (by simp -dsimp -implicitDefEqProofs (maxSteps := 1000000) (disch := omega) [condP_pos, condP_neg, optP_pos, decide_eq_true, decide_eq_false, wrap_i64, Int.natCast_inj, S18]) ?_
  rintro ⟨pre, rest, n⟩ ⟨e1, e2, e2', e3⟩
  simp only at e1 e2 e2' e3
  cases rest with
  | nil =>
    simp only [szGls] at e2 e2'
    by_cases hn : (n : Int) ≤ most
    · have := e2' hn
      simp -dsimp -implicitDefEqProofs (maxSteps := 1000000) (disch := omega) [condP_pos, condP_neg, optP_pos, decide_eq_true, decide_eq_false, wrap_i64, Int.natCast_inj, S18, hn]
    · simp -dsimp -implicitDefEqProofs (maxSteps := 1000000) (disch := omega) [condP_pos, condP_neg, optP_pos, decide_eq_true, decide_eq_false, wrap_i64, Int.natCast_inj, S18, hn]
  | cons p rest =>
    have hl : pre.length + (rest.length + 1) < 1000000000000 := by rw [← e1] at h0; simpa using h0
    obtain ⟨adv, ols, pcs⟩ := p
    have hp := h2 (adv, ols, pcs) (by rw [← e1]; simp)
    obtain ⟨⟨p1, p2⟩, p3⟩ := hp
    clear h2
    simp only at p1 p2 p3
    simp only [szGls] at e2 e2'
    by_cases hn : (n : Int) ≤ most
    · have e2 := e2' hn
      simp -dsimp -implicitDefEqProofs (maxSteps := 1000000) (disch := omega) [condP_pos, condP_neg, optP_pos, decide_eq_true, decide_eq_false, wrap_i64, Int.natCast_inj, S18, hn]
      refine wp_inv (T18 (fg, fr) most pre (adv, ols, pcs) rest) (fun a => a.1 ++ a.2.1 = ols ∧ a.2.2 + szOls a.2.1 + szGls rest = F ∧ a.2.2 < 4000000000000) (fun a => a.2.1.length) ([], ols, n + (pcs.length + ols.length)) (by refine ⟨by simp, ?_, ?_⟩ <;> simp only <;> omega) (by simp -dsimp -implicitDefEqProofs (maxSteps := 1000000) (disch := omega) [condP_pos, condP_neg, optP_pos, decide_eq_true, decide_eq_false, wrap_i64, Int.natCast_inj, T18]) ?_
      rintro ⟨q, r, k⟩ ⟨d1, d2, d3⟩
      simp only at d1 d2 d3
      subst d1
      cases r with
      | nil =>
        simp only [szOls] at d2
        simp -dsimp -implicitDefEqProofs (maxSteps := 1000000) (disch := omega) [condP_pos, condP_neg, optP_pos, decide_eq_true, decide_eq_false, wrap_i64, Int.natCast_inj, T18]
        refine again (pre ++ [(adv, q ++ [], pcs)], rest, k) ?_ ?_ ?_
        · refine ⟨by simp [← e1], ?_, ?_, ?_⟩ <;> simp only <;> omega
        · simp
        · simp -dsimp -implicitDefEqProofs (maxSteps := 1000000) (disch := omega) [condP_pos, condP_neg, optP_pos, decide_eq_true, decide_eq_false, wrap_i64, Int.natCast_inj, S18]
      | cons o r =>
        have ho := p2 o (by simp)
        have hq : q.length + (r.length + 1) < 1000000000000 := by simpa using p1
        simp only [szOls] at d2
        clear p2 p1
        by_cases hk : (k : Int) ≤ most
        · simp -dsimp -implicitDefEqProofs (maxSteps := 1000000) (disch := omega) [condP_pos, condP_neg, optP_pos, decide_eq_true, decide_eq_false, wrap_i64, Int.natCast_inj, T18, hk]
          refine again (q ++ [o], r, k + o.length) ?_ ?_ ?_
          · refine ⟨by simp, ?_, ?_⟩ <;> simp only <;> omega
          · simp
          · simp -dsimp -implicitDefEqProofs (maxSteps := 1000000) (disch := omega) [condP_pos, condP_neg, optP_pos, decide_eq_true, decide_eq_false, wrap_i64, Int.natCast_inj, T18]
        · simp -dsimp -implicitDefEqProofs (maxSteps := 1000000) (disch := omega) [condP_pos, condP_neg, optP_pos, decide_eq_true, decide_eq_false, wrap_i64, Int.natCast_inj, T18, hk]
          refine again (pre ++ [(adv, q ++ o :: r, pcs)], rest, k) ?_ ?_ ?_
          · refine ⟨by simp [← e1], ?_, ?_, ?_⟩ <;> simp only <;> omega
          · simp
          · simp -dsimp -implicitDefEqProofs (maxSteps := 1000000) (disch := omega) [condP_pos, condP_neg, optP_pos, decide_eq_true, decide_eq_false, wrap_i64, Int.natCast_inj, S18]
    · simp -dsimp -implicitDefEqProofs (maxSteps := 1000000) (disch := omega) [condP_pos, condP_neg, optP_pos, decide_eq_true, decide_eq_false, wrap_i64, Int.natCast_inj, S18, hn]
end Go.Vai
