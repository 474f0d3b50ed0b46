/-
  What functions of layer 5 and of its reference compute: equations of the abstract run.
-/
import Derived.Test.YtfaomcaimppmeaaDoorGa
set_option linter.unusedVariables false
set_option linter.unusedSimpArgs false
set_option linter.unnecessarySimpa false
set_option linter.unusedSectionVars false
namespace Go.Vai
variable {v : Env} (hv : v.T = Tt)
def coordB (n : Int) : Bool := decide (-32768 ≤ n) && decide (n ≤ 32767)
def ptB (p : Pt) : Bool := coordB p.1 && coordB p.2
def pcB (many : Nat) (p : Pc) : Bool := decide (0 ≤ p.1) && (decide (p.1 < many) && (coordB p.2.1 && coordB p.2.2))
def olB (o : Ol) : Bool := decide (o.length ≤ 255) && o.all ptB
def glB (many : Nat) (g : Gl) : Bool := coordB g.1 && (decide (g.2.1.length ≤ 64) && (decide (g.2.2.length ≤ 32) && (g.2.1.all olB && g.2.2.all (pcB many))))
def prB (many : Nat) : Int → List Pt → Bool
  | _, [] => true
  | last, p :: r => decide (last < p.1) && (decide (p.1 ≤ 1114111) && (decide (0 ≤ p.2) && (decide (p.2 < many) && prB many p.1 r)))
def rightB (f : Font) : Bool := decide (f.1.length ≤ 1000) && (f.1.all (glB f.1.length) && prB f.1.length (-1) f.2)
def idxF {α : Type} (P : α → Bool) : List α → Int → Int
  | [], _ => -1
  | x :: r, i => if P x = true then i else idxF P r (i + 1)
theorem idxF_any {α : Type} (P : α → Bool) : ∀ (l : List α) (i : Int), 0 ≤ i → decide (0 ≤ idxF P l i) = l.any P
  | [], i, h => by simp [idxF]
  | x :: r, i, h => by
    unfold idxF
    cases hx : P x with
    | true => simp [hx, h]
    | false =>
      simp only [Bool.false_eq_true, if_false]
      rw [idxF_any P r (i + 1) (by omega)]
      simp [hx]
theorem any_not {α : Type} (P : α → Bool) (l : List α) : (l.any fun x => !P x) = !l.all P := by
  rw [List.not_all_eq_any_not]
include hv
theorem run_coord (n : Int) : v.run 84 [i64 n] [] = some (bo (coordB n), []) := by
  refine run_wp (by rw [hv]; exact rfl) ?_
  by_cases h1 : -32768 ≤ n <;> by_cases h2 : n ≤ 32767 <;> simp -dsimp -implicitDefEqProofs (maxSteps := 1000000) (disch := omega) [condP_pos, condP_neg, optP_pos, decide_eq_true, decide_eq_false, wrap_i64, Int.natCast_inj, coordB, h1, h2]
theorem run_rcoord (n : Int) : v.run 89 [i64 n] [] = some (bo (coordB n), []) := by
  refine run_wp (by rw [hv]; exact rfl) ?_
  by_cases h1 : -32768 ≤ n <;> by_cases h2 : n ≤ 32767 <;> simp -dsimp -implicitDefEqProofs (maxSteps := 1000000) (disch := omega) [condP_pos, condP_neg, optP_pos, decide_eq_true, decide_eq_false, wrap_i64, Int.natCast_inj, coordB, h1, h2]
theorem run_86 (p : Pt) : v.run 86 [.agg [i64 p.1, i64 p.2]] [] = some (bo (!ptB p), []) := by
  have h1 := run_coord hv p.1
  have h2 := run_coord hv p.2
  refine run_wp (by rw [hv]; exact rfl) ?_
  unfold ptB
  generalize coordB p.1 = a at *
  generalize coordB p.2 = b at *
  cases a <;> cases b <;> simp -dsimp -implicitDefEqProofs (maxSteps := 1000000) (disch := omega) [condP_pos, condP_neg, optP_pos, decide_eq_true, decide_eq_false, wrap_i64, Int.natCast_inj, h1, h2]
theorem run_88 (many : Nat) (p : Pc) : v.run 88 [.agg [i64 p.1, i64 p.2.1, i64 p.2.2], .bp 0 0] [some (.box [i64 many])] = some (bo (!pcB many p), [some (.box [i64 many])]) := by
  have h1 := run_coord hv p.2.1
  have h2 := run_coord hv p.2.2
  refine run_wp (by rw [hv]; exact rfl) ?_
  unfold pcB
  generalize coordB p.2.1 = a at *
  generalize coordB p.2.2 = b at *
  by_cases c1 : 0 ≤ p.1
  · by_cases c2 : p.1 < many
    · cases a <;> cases b <;> simp -dsimp -implicitDefEqProofs (maxSteps := 1000000) (disch := omega) [condP_pos, condP_neg, optP_pos, decide_eq_true, decide_eq_false, wrap_i64, Int.natCast_inj, h1, h2, c1, c2]
    · simp -dsimp -implicitDefEqProofs (maxSteps := 1000000) (disch := omega) [condP_pos, condP_neg, optP_pos, decide_eq_true, decide_eq_false, wrap_i64, Int.natCast_inj, c1, c2]
  · simp -dsimp -implicitDefEqProofs (maxSteps := 1000000) (disch := omega) [condP_pos, condP_neg, optP_pos, decide_eq_true, decide_eq_false, wrap_i64, Int.natCast_inj, c1]
def S101 (a : List Pt × List Pt) : St :=
  { sl := [(0, rw_ ((a.1 ++ a.2).map ePt)), (1, .fn 86 []), (7, i64 (a.1 ++ a.2).length), (8, i64 a.1.length)], hp := [], nx := 0 }
theorem run_101 (l : List Pt) (h : l.length < 1000000000000) : v.run 101 [rw_ (l.map ePt), .fn 86 []] [] = some (i64 (idxF (fun p => !ptB p) l 0), []) := by
  refine run_wp (by rw [hv]; exact rfl) ?_
  simp -dsimp -implicitDefEqProofs (maxSteps := 1000000) (disch := omega) [condP_pos, condP_neg, optP_pos, decide_eq_true, decide_eq_false, wrap_i64, Int.natCast_inj]
  refine wp_inv S101 (fun a => a.1 ++ a.2 = l ∧ idxF (fun p => !ptB p) l 0 = idxF (fun p => !ptB p) a.2 a.1.length) (fun a => a.2.length) ([], l) (by simp) (by simp -dsimp -implicitDefEqProofs (maxSteps := 1000000) (disch := omega) [condP_pos, condP_neg, optP_pos, decide_eq_true, decide_eq_false, wrap_i64, Int.natCast_inj, S101]) ?_
  rintro ⟨pre, rest⟩ ⟨rfl, e⟩
  simp only at e
  rw [e]
  cases rest with
  | nil => simp -dsimp -implicitDefEqProofs (maxSteps := 1000000) (disch := omega) [condP_pos, condP_neg, optP_pos, decide_eq_true, decide_eq_false, wrap_i64, Int.natCast_inj, S101, idxF]
  | cons p rest =>
    simp at h
    have h1 := run_86 hv p
    cases hp : ptB p with
    | false =>
      rw [hp] at h1
      simp -dsimp -implicitDefEqProofs (maxSteps := 1000000) (disch := omega) [condP_pos, condP_neg, optP_pos, decide_eq_true, decide_eq_false, wrap_i64, Int.natCast_inj, S101, idxF, hp, h1]
    | true =>
      rw [hp] at h1
      simp -dsimp -implicitDefEqProofs (maxSteps := 1000000) (disch := omega) [condP_pos, condP_neg, optP_pos, decide_eq_true, decide_eq_false, wrap_i64, Int.natCast_inj, S101, idxF, hp, h1]
      refine again (pre ++ [p], rest) ⟨by simp, by simp [idxF, hp]⟩ (by simp) ?_
      simp -dsimp -implicitDefEqProofs (maxSteps := 1000000) (disch := omega) [condP_pos, condP_neg, optP_pos, decide_eq_true, decide_eq_false, wrap_i64, Int.natCast_inj, S101]
theorem run_85 (l : List Pt) (h : l.length < 1000000000000) : v.run 85 [rw_ (l.map ePt), .fn 86 []] [] = some (bo (!l.all ptB), []) := by
  have hd : (!l.all ptB) = decide (0 ≤ idxF (fun p => !ptB p) l 0) := by rw [idxF_any _ _ _ (by omega), any_not]
  have h1 := run_101 hv l h
  rw [hd]
  refine run_wp (by rw [hv]; exact rfl) ?_
  simp -dsimp -implicitDefEqProofs (maxSteps := 1000000) (disch := omega) [condP_pos, condP_neg, optP_pos, decide_eq_true, decide_eq_false, wrap_i64, Int.natCast_inj, h1]
def S102 (many : Nat) (a : List Pc × List Pc) : St :=
  { sl := [(0, rw_ ((a.1 ++ a.2).map ePc)), (1, .fn 88 [.bp 0 0]), (7, i64 (a.1 ++ a.2).length), (8, i64 a.1.length)], hp := [(0, some (.box [i64 many]))], nx := 1 }
theorem run_102 (many : Nat) (l : List Pc) (h : l.length < 1000000000000) : v.run 102 [rw_ (l.map ePc), .fn 88 [.bp 0 0]] [some (.box [i64 many])] = some (i64 (idxF (fun p => !pcB many p) l 0), [some (.box [i64 many])]) := by
  refine run_wp (by rw [hv]; exact rfl) ?_
  simp -dsimp -implicitDefEqProofs (maxSteps := 1000000) (disch := omega) [condP_pos, condP_neg, optP_pos, decide_eq_true, decide_eq_false, wrap_i64, Int.natCast_inj]
  refine wp_inv (S102 many) (fun a => a.1 ++ a.2 = l ∧ idxF (fun p => !pcB many p) l 0 = idxF (fun p => !pcB many p) a.2 a.1.length) (fun a => a.2.length) ([], l) (by simp) (by simp -dsimp -implicitDefEqProofs (maxSteps := 1000000) (disch := omega) [condP_pos, condP_neg, optP_pos, decide_eq_true, decide_eq_false, wrap_i64, Int.natCast_inj, S102]) ?_
  rintro ⟨pre, rest⟩ ⟨rfl, e⟩
  simp only at e
  rw [e]
  cases rest with
  | nil => simp -dsimp -implicitDefEqProofs (maxSteps := 1000000) (disch := omega) [condP_pos, condP_neg, optP_pos, decide_eq_true, decide_eq_false, wrap_i64, Int.natCast_inj, S102, idxF]
  | cons p rest =>
    simp at h
    have h1 := run_88 hv many p
    cases hp : pcB many p with
    | false =>
      rw [hp] at h1
      simp -dsimp -implicitDefEqProofs (maxSteps := 1000000) (disch := omega) [condP_pos, condP_neg, optP_pos, decide_eq_true, decide_eq_false, wrap_i64, Int.natCast_inj, S102, idxF, hp, h1]
    | true =>
      rw [hp] at h1
      simp -dsimp -implicitDefEqProofs (maxSteps := 1000000) (disch := omega) [condP_pos, condP_neg, optP_pos, decide_eq_true, decide_eq_false, wrap_i64, Int.natCast_inj, S102, idxF, hp, h1]
      refine again (pre ++ [p], rest) ⟨by simp, by simp [idxF, hp]⟩ (by simp) ?_
      simp -dsimp -implicitDefEqProofs (maxSteps := 1000000) (disch := omega) [condP_pos, condP_neg, optP_pos, decide_eq_true, decide_eq_false, wrap_i64, Int.natCast_inj, S102]
theorem run_87 (many : Nat) (l : List Pc) (h : l.length < 1000000000000) : v.run 87 [rw_ (l.map ePc), .fn 88 [.bp 0 0]] [some (.box [i64 many])] = some (bo (!l.all (pcB many)), [some (.box [i64 many])]) := by
  have hd : (!l.all (pcB many)) = decide (0 ≤ idxF (fun p => !pcB many p) l 0) := by rw [idxF_any _ _ _ (by omega), any_not]
  have h1 := run_102 hv many l h
  rw [hd]
  refine run_wp (by rw [hv]; exact rfl) ?_
  simp -dsimp -implicitDefEqProofs (maxSteps := 1000000) (disch := omega) [condP_pos, condP_neg, optP_pos, decide_eq_true, decide_eq_false, wrap_i64, Int.natCast_inj, h1]
def S69 (adv : Int) (pcs : List Pc) (many : Nat) (a : List Ol × List Ol) : St :=
  { sl := [(2, .bp 0 0), (3, .bp 1 0), (24, rw_ ((a.1 ++ a.2).map eOl)), (25, i64 (a.1 ++ a.2).length), (26, i64 a.1.length)],
    hp := [(0, some (.box [i64 adv, rw_ ((a.1 ++ a.2).map eOl), rw_ (pcs.map ePc)])), (1, some (.box [i64 many]))], nx := 2 }
abbrev aGl (g : Gl) : AV := .agg [i64 g.1, rw_ (g.2.1.map eOl), rw_ (g.2.2.map ePc)]
theorem run_rightGl (g : Gl) (many : Nat) (hg : okGl g) : v.run 69 [aGl g, i64 many] [] = some (bo (glB many g), []) := by
  obtain ⟨adv, ols, pcs⟩ := g
  obtain ⟨⟨g1, g2⟩, g3⟩ := hg
  simp only at g1 g2 g3
  have h1 := run_coord hv adv
  have h2 := run_87 hv many pcs g3
  refine run_wp (by rw [hv]; exact rfl) ?_
  unfold glB
  simp only
  generalize coordB adv = ca at *
  cases ca with
  | false => simp -dsimp -implicitDefEqProofs (maxSteps := 1000000) (disch := omega) [condP_pos, condP_neg, optP_pos, decide_eq_true, decide_eq_false, wrap_i64, Int.natCast_inj, h1]
  | true =>
    by_cases c1 : ols.length ≤ 64
    · by_cases c2 : pcs.length ≤ 32
      · generalize hA : ols.all olB = A
        generalize hB : pcs.all (pcB many) = B at *
        simp -dsimp -implicitDefEqProofs (maxSteps := 1000000) (disch := omega) [condP_pos, condP_neg, optP_pos, decide_eq_true, decide_eq_false, wrap_i64, Int.natCast_inj, h1, c1, c2]
        refine wp_inv (S69 adv pcs many) (fun a => a.1 ++ a.2 = ols ∧ A = a.2.all olB) (fun a => a.2.length) ([], ols) ⟨rfl, hA.symm⟩ (by simp -dsimp -implicitDefEqProofs (maxSteps := 1000000) (disch := omega) [condP_pos, condP_neg, optP_pos, decide_eq_true, decide_eq_false, wrap_i64, Int.natCast_inj, S69]) ?_
        rintro ⟨pre, rest⟩ ⟨e1, e2⟩
        simp only at e1 e2
        subst e2
        cases rest with
        | nil => simp -dsimp -implicitDefEqProofs (maxSteps := 1000000) (disch := omega) [condP_pos, condP_neg, optP_pos, decide_eq_true, decide_eq_false, wrap_i64, Int.natCast_inj, S69, h2]
        | cons o rest =>
          have ho := g2 o (by rw [← e1]; simp)
          have h3 := run_85 hv o ho
          have e3 : pre.length + (rest.length + 1) ≤ 64 := by rw [← e1] at c1; simpa using c1
          clear g2
          by_cases c3 : o.length ≤ 255
          · cases c4 : o.all ptB with
            | false =>
              have hol : olB o = false := by simp [olB, c4]
              rw [c4] at h3
              simp -dsimp -implicitDefEqProofs (maxSteps := 1000000) (disch := omega) [condP_pos, condP_neg, optP_pos, decide_eq_true, decide_eq_false, wrap_i64, Int.natCast_inj, S69, c3, h3, hol]
            | true =>
              have hol : olB o = true := by simp only [olB, c4, decide_eq_true c3]; rfl
              rw [c4] at h3
              simp -dsimp -implicitDefEqProofs (maxSteps := 1000000) (disch := omega) [condP_pos, condP_neg, optP_pos, decide_eq_true, decide_eq_false, wrap_i64, Int.natCast_inj, S69, c3, h3, hol]
              refine again (pre ++ [o], rest) ⟨by simpa using e1, by simp [hol]⟩ (by simp) ?_
              simp -dsimp -implicitDefEqProofs (maxSteps := 1000000) (disch := omega) [condP_pos, condP_neg, optP_pos, decide_eq_true, decide_eq_false, wrap_i64, Int.natCast_inj, S69]
          · have hol : olB o = false := by simp [olB, c3]
            simp -dsimp -implicitDefEqProofs (maxSteps := 1000000) (disch := omega) [condP_pos, condP_neg, optP_pos, decide_eq_true, decide_eq_false, wrap_i64, Int.natCast_inj, S69, c3, hol]
      · simp -dsimp -implicitDefEqProofs (maxSteps := 1000000) (disch := omega) [condP_pos, condP_neg, optP_pos, decide_eq_true, decide_eq_false, wrap_i64, Int.natCast_inj, h1, c1, c2]
    · simp -dsimp -implicitDefEqProofs (maxSteps := 1000000) (disch := omega) [condP_pos, condP_neg, optP_pos, decide_eq_true, decide_eq_false, wrap_i64, Int.natCast_inj, h1, c1]
def S42 (f : Font) (a : List Gl × List Gl) : St :=
  { sl := [(1, .bp 0 0), (3, i64 (a.1 ++ a.2).length), (14, rw_ ((a.1 ++ a.2).map eGl)), (15, i64 (a.1 ++ a.2).length), (16, i64 a.1.length)],
    hp := [(0, some (.box [rw_ ((a.1 ++ a.2).map eGl), rw_ (f.2.map ePt)]))], nx := 1 }
def T42 (fg : List Gl) (a : List Pt × List Pt) : St :=
  { sl := [(1, .bp 0 0), (3, i64 fg.length), (26, rw_ ((a.1 ++ a.2).map ePt)), (27, i64 (a.1 ++ a.2).length), (28, i64 a.1.length)],
    hp := [(0, some (.box [rw_ (fg.map eGl), rw_ ((a.1 ++ a.2).map ePt)]))], nx := 1 }
def lastR (l : List Pt) : Int := match l.getLast? with
  | none => -1
  | some p => p.1
set_option maxHeartbeats 1000000 in
theorem run_right (f : Font) (hf : okFont f) : v.run 42 [aFont f] [] = some (bo (rightB f), []) := by
  obtain ⟨fg, fr⟩ := f
  obtain ⟨f1, f2, f3⟩ := hf
  simp only at f1 f2 f3
  refine run_wp (by rw [hv]; exact rfl) ?_
  unfold rightB
  simp only
  by_cases c1 : fg.length ≤ 1000
  · generalize hB : prB fg.length (-1) fr = B
    generalize hA : fg.all (glB fg.length) = A
    simp -dsimp -implicitDefEqProofs (maxSteps := 1000000) (disch := omega) [condP_pos, condP_neg, optP_pos, decide_eq_true, decide_eq_false, wrap_i64, Int.natCast_inj, c1]
    refine wp_inv (S42 (fg, fr)) (fun a => a.1 ++ a.2 = fg ∧ A = a.2.all (glB fg.length)) (fun a => a.2.length) ([], fg) ⟨rfl, hA.symm⟩ (by simp -dsimp -implicitDefEqProofs (maxSteps := 1000000) (disch := omega) [condP_pos, condP_neg, optP_pos, decide_eq_true, decide_eq_false, wrap_i64, Int.natCast_inj, S42]) ?_
    rintro ⟨pre, rest⟩ ⟨e1, e2⟩
    simp only at e1 e2
    subst e2
    cases rest with
    | cons g rest =>
      have hg := run_rightGl hv g fg.length (f3 g (by rw [← e1]; simp))
      have e3 : pre.length + (rest.length + 1) ≤ 1000 := by rw [← e1] at c1; simpa using c1
      have e4 : fg.length = pre.length + (rest.length + 1) := by rw [← e1]; simp
      clear f3
      rw [e4] at hg ⊢
      simp only [Int.natCast_add, Int.natCast_one] at hg
      cases c4 : glB (pre.length + (rest.length + 1)) g with
      | false =>
        rw [c4] at hg
        simp -dsimp -implicitDefEqProofs (maxSteps := 1000000) (disch := omega) [condP_pos, condP_neg, optP_pos, decide_eq_true, decide_eq_false, wrap_i64, Int.natCast_inj, S42, hg, c4]
      | true =>
        rw [c4] at hg
        simp -dsimp -implicitDefEqProofs (maxSteps := 1000000) (disch := omega) [condP_pos, condP_neg, optP_pos, decide_eq_true, decide_eq_false, wrap_i64, Int.natCast_inj, S42, hg, c4]
        refine again (pre ++ [g], rest) ⟨by simpa using e1, by simp [c4]⟩ (by simp) ?_
        simp -dsimp -implicitDefEqProofs (maxSteps := 1000000) (disch := omega) [condP_pos, condP_neg, optP_pos, decide_eq_true, decide_eq_false, wrap_i64, Int.natCast_inj, S42]
    | nil =>
      simp only [List.append_nil] at e1
      subst e1
      simp -dsimp -implicitDefEqProofs (maxSteps := 1000000) (disch := omega) [condP_pos, condP_neg, optP_pos, decide_eq_true, decide_eq_false, wrap_i64, Int.natCast_inj, S42]
      refine wp_inv (T42 pre) (fun a => a.1 ++ a.2 = fr ∧ B = prB pre.length (lastR a.1) a.2 ∧ -1 ≤ lastR a.1 ∧ (a.1 ≠ [] → 0 ≤ lastR a.1)) (fun a => a.2.length) ([], fr) ⟨rfl, hB.symm, by simp [lastR], fun h => absurd rfl h⟩ (by simp -dsimp -implicitDefEqProofs (maxSteps := 1000000) (disch := omega) [condP_pos, condP_neg, optP_pos, decide_eq_true, decide_eq_false, wrap_i64, Int.natCast_inj, T42]) ?_
      rintro ⟨q, r⟩ ⟨d1, d2, d3, d4⟩
      simp only at d1 d2 d3 d4
      subst d2
      cases r with
      | nil => simp -dsimp -implicitDefEqProofs (maxSteps := 1000000) (disch := omega) [condP_pos, condP_neg, optP_pos, decide_eq_true, decide_eq_false, wrap_i64, Int.natCast_inj, T42, prB]
      | cons p r =>
        have d5 : q.length + (r.length + 1) < 1000000000000 := by rw [← d1] at f2; simpa using f2
        have hlast : ∀ x : List Pt, lastR (x ++ [p]) = p.1 := fun x => by simp [lastR]
        by_cases h1 : p.1 < 0
        · have hB : prB pre.length (lastR q) (p :: r) = false := by
            simp only [prB]; rw [decide_eq_false (show ¬ lastR q < p.1 by omega)]; rfl
          rw [hB]
          simp -dsimp -implicitDefEqProofs (maxSteps := 1000000) (disch := omega) [condP_pos, condP_neg, optP_pos, decide_eq_true, decide_eq_false, wrap_i64, Int.natCast_inj, T42, h1]
        · by_cases h2 : p.1 ≤ 1114111
          · by_cases h3 : p.2 < 0
            · have hB : prB pre.length (lastR q) (p :: r) = false := by
                simp only [prB]; rw [decide_eq_false (show ¬ 0 ≤ p.2 by omega)]; simp
              rw [hB]
              simp -dsimp -implicitDefEqProofs (maxSteps := 1000000) (disch := omega) [condP_pos, condP_neg, optP_pos, decide_eq_true, decide_eq_false, wrap_i64, Int.natCast_inj, T42, h1, h2, h3]
            · by_cases h4 : p.2 < pre.length
              · rcases List.eq_nil_or_concat q with hq | ⟨q', x, hq⟩
                · subst hq
                  have hB : prB pre.length (lastR []) (p :: r) = prB pre.length p.1 r := by
                    have hl0 : lastR [] = -1 := rfl
                    rw [hl0]
                    simp only [prB]
                    rw [decide_eq_true (show (-1 : Int) < p.1 by omega), decide_eq_true h2, decide_eq_true (show 0 ≤ p.2 by omega), decide_eq_true h4]; rfl
                  rw [hB]
                  simp -dsimp -implicitDefEqProofs (maxSteps := 1000000) (disch := omega) [condP_pos, condP_neg, optP_pos, decide_eq_true, decide_eq_false, wrap_i64, Int.natCast_inj, T42, h1, h2, h3, h4]
                  refine again ([p], r) ⟨by simpa using d1, by simp [lastR], by simp [lastR]; omega, fun _ => by simp [lastR]; omega⟩ (by simp) ?_
                  simp -dsimp -implicitDefEqProofs (maxSteps := 1000000) (disch := omega) [condP_pos, condP_neg, optP_pos, decide_eq_true, decide_eq_false, wrap_i64, Int.natCast_inj, T42]
                · rw [List.concat_eq_append] at hq
                  subst hq
                  have hl : lastR (q' ++ [x]) = x.1 := by simp [lastR]
                  rw [hl] at d3 d4 ⊢
                  have d4 := d4 (by simp)
                  simp only [List.length_append, List.length_singleton] at d5
                  have g1 : (List.map ePt q' ++ ePt x :: ePt p :: List.map ePt r)[q'.length + 1]? = some (ePt p) := by
                    rw [List.getElem?_append_right (by simp)]; simp
                  by_cases h5 : x.1 < p.1
                  · have hB : prB pre.length x.1 (p :: r) = prB pre.length p.1 r := by
                      simp only [prB]
                      rw [decide_eq_true h5, decide_eq_true h2, decide_eq_true (show 0 ≤ p.2 by omega), decide_eq_true h4]; rfl
                    rw [hB]
                    simp -dsimp -implicitDefEqProofs (maxSteps := 1000000) (disch := omega) [condP_pos, condP_neg, optP_pos, decide_eq_true, decide_eq_false, wrap_i64, Int.natCast_inj, T42, h1, h2, h3, h4, h5, g1]
                    refine again (q' ++ [x] ++ [p], r) ⟨by simpa using d1, by rw [hlast], by rw [hlast]; omega, fun _ => by rw [hlast]; omega⟩ (by simp) ?_
                    simp -dsimp -implicitDefEqProofs (maxSteps := 1000000) (disch := omega) [condP_pos, condP_neg, optP_pos, decide_eq_true, decide_eq_false, wrap_i64, Int.natCast_inj, T42]
                    omega
                  · have hB : prB pre.length x.1 (p :: r) = false := by
                      simp only [prB]; rw [decide_eq_false h5]; rfl
                    rw [hB]
                    simp -dsimp -implicitDefEqProofs (maxSteps := 1000000) (disch := omega) [condP_pos, condP_neg, optP_pos, decide_eq_true, decide_eq_false, wrap_i64, Int.natCast_inj, T42, h1, h2, h3, h4, h5, g1]
              · have hB : prB pre.length (lastR q) (p :: r) = false := by
                  simp only [prB]; rw [decide_eq_false h4]; simp
                rw [hB]
                simp -dsimp -implicitDefEqProofs (maxSteps := 1000000) (disch := omega) [condP_pos, condP_neg, optP_pos, decide_eq_true, decide_eq_false, wrap_i64, Int.natCast_inj, T42, h1, h2, h3, h4]
          · have hB : prB pre.length (lastR q) (p :: r) = false := by
              simp only [prB]; rw [decide_eq_false h2]; simp
            rw [hB]
            simp -dsimp -implicitDefEqProofs (maxSteps := 1000000) (disch := omega) [condP_pos, condP_neg, optP_pos, decide_eq_true, decide_eq_false, wrap_i64, Int.natCast_inj, T42, h1, h2]
  · simp -dsimp -implicitDefEqProofs (maxSteps := 1000000) (disch := omega) [condP_pos, condP_neg, optP_pos, decide_eq_true, decide_eq_false, wrap_i64, Int.natCast_inj, c1]
end Go.Vai

set_option linter.unusedVariables false
set_option linter.unusedSimpArgs false
set_option linter.unnecessarySimpa false
set_option linter.unusedSectionVars false
namespace Go.Vai
variable {v : Env} (hv : v.T = Tt)
include hv
def S72 (adv : Int) (pcs : List Pc) (many : Nat) (a : List Ol × List Ol) : St :=
  { sl := [(1, i64 many), (2, .bp 0 0), (5, i64 a.1.length)], hp := [(0, some (.box [i64 adv, rw_ ((a.1 ++ a.2).map eOl), rw_ (pcs.map ePc)]))], nx := 1 }
def T72 (adv : Int) (pcs : List Pc) (many : Nat) (pre rest : List Ol) (a : List Pt × List Pt) : St :=
  { sl := [(1, i64 many), (2, .bp 0 0), (5, i64 pre.length), (6, rw_ ((a.1 ++ a.2).map ePt)), (7, i64 a.1.length)], hp := [(0, some (.box [i64 adv, rw_ ((pre ++ (a.1 ++ a.2) :: rest).map eOl), rw_ (pcs.map ePc)]))], nx := 1 }
def U72 (adv : Int) (ols : List Ol) (many : Nat) (a : List Pc × List Pc) : St :=
  { sl := [(1, i64 many), (2, .bp 0 0), (8, i64 a.1.length)], hp := [(0, some (.box [i64 adv, rw_ (ols.map eOl), rw_ ((a.1 ++ a.2).map ePc)]))], nx := 1 }
set_option maxHeartbeats 2000000 in
theorem run_rrightGl (g : Gl) (many : Nat) (hg : okGl g) : v.run 72 [aGl g, i64 many] [] = some (bo (glB many g), []) := by
  obtain ⟨adv, ols, pcs⟩ := g
  obtain ⟨⟨g1, g2⟩, g3⟩ := hg
  simp only at g1 g2 g3
  have h1 := run_rcoord hv adv
  refine run_wp (by rw [hv]; exact rfl) ?_
  unfold glB
  simp only
  generalize coordB adv = ca at *
  cases ca with
  | false => simp -dsimp -implicitDefEqProofs (maxSteps := 1000000) (disch := omega) [condP_pos, condP_neg, optP_pos, decide_eq_true, decide_eq_false, wrap_i64, Int.natCast_inj, h1]
  | true =>
    by_cases c1 : ols.length ≤ 64
    · by_cases c2 : pcs.length ≤ 32
      · generalize hA : ols.all olB = A
        generalize hB : pcs.all (pcB many) = B at *
        simp -dsimp -implicitDefEqProofs (maxSteps := 1000000) (disch := omega) [condP_pos, condP_neg, optP_pos, decide_eq_true, decide_eq_false, wrap_i64, Int.natCast_inj, h1, c1, c2]
        refine wp_inv (S72 adv pcs many) (fun a => a.1 ++ a.2 = ols ∧ A = a.2.all olB) (fun a => a.2.length) ([], ols) ⟨rfl, hA.symm⟩ (by simp -dsimp -implicitDefEqProofs (maxSteps := 1000000) (disch := omega) [condP_pos, condP_neg, optP_pos, decide_eq_true, decide_eq_false, wrap_i64, Int.natCast_inj, S72]) ?_
        rintro ⟨pre, rest⟩ ⟨e1, e2⟩
        simp only at e1 e2
        subst e2
        cases rest with
        | nil =>
          simp only [List.append_nil] at e1
          subst e1
          simp -dsimp -implicitDefEqProofs (maxSteps := 1000000) (disch := omega) [condP_pos, condP_neg, optP_pos, decide_eq_true, decide_eq_false, wrap_i64, Int.natCast_inj, S72]
          refine wp_inv (U72 adv pre many) (fun a => a.1 ++ a.2 = pcs ∧ B = a.2.all (pcB many)) (fun a => a.2.length) ([], pcs) ⟨rfl, hB.symm⟩ (by simp -dsimp -implicitDefEqProofs (maxSteps := 1000000) (disch := omega) [condP_pos, condP_neg, optP_pos, decide_eq_true, decide_eq_false, wrap_i64, Int.natCast_inj, U72]) ?_
          rintro ⟨q, r⟩ ⟨d1, d2⟩
          simp only at d1 d2
          subst d2
          cases r with
          | nil => simp -dsimp -implicitDefEqProofs (maxSteps := 1000000) (disch := omega) [condP_pos, condP_neg, optP_pos, decide_eq_true, decide_eq_false, wrap_i64, Int.natCast_inj, U72]
          | cons p r =>
            have d3 : q.length + (r.length + 1) ≤ 32 := by rw [← d1] at c2; simpa using c2
            have k1 := run_rcoord hv p.2.1
            have k2 := run_rcoord hv p.2.2
            by_cases b1 : 0 ≤ p.1
            · by_cases b2 : p.1 < many
              · cases b3 : coordB p.2.1 with
                | false =>
                  rw [b3] at k1
                  have hp : pcB many p = false := by simp [pcB, b3]
                  simp -dsimp -implicitDefEqProofs (maxSteps := 1000000) (disch := omega) [condP_pos, condP_neg, optP_pos, decide_eq_true, decide_eq_false, wrap_i64, Int.natCast_inj, U72, b1, b2, k1, hp]
                | true =>
                  rw [b3] at k1
                  cases b4 : coordB p.2.2 with
                  | false =>
                    rw [b4] at k2
                    have hp : pcB many p = false := by simp [pcB, b4]
                    simp -dsimp -implicitDefEqProofs (maxSteps := 1000000) (disch := omega) [condP_pos, condP_neg, optP_pos, decide_eq_true, decide_eq_false, wrap_i64, Int.natCast_inj, U72, b1, b2, k1, k2, hp]
                  | true =>
                    rw [b4] at k2
                    have hp : pcB many p = true := by simp only [pcB, b3, b4, decide_eq_true b1, decide_eq_true b2]; rfl
                    simp -dsimp -implicitDefEqProofs (maxSteps := 1000000) (disch := omega) [condP_pos, condP_neg, optP_pos, decide_eq_true, decide_eq_false, wrap_i64, Int.natCast_inj, U72, b1, b2, k1, k2, hp]
                    refine again (q ++ [p], r) ⟨by simpa using d1, by simp [hp]⟩ (by simp) ?_
                    simp -dsimp -implicitDefEqProofs (maxSteps := 1000000) (disch := omega) [condP_pos, condP_neg, optP_pos, decide_eq_true, decide_eq_false, wrap_i64, Int.natCast_inj, U72]
              · have hp : pcB many p = false := by simp [pcB, b2]
                simp -dsimp -implicitDefEqProofs (maxSteps := 1000000) (disch := omega) [condP_pos, condP_neg, optP_pos, decide_eq_true, decide_eq_false, wrap_i64, Int.natCast_inj, U72, b1, b2, hp]
            · have hp : pcB many p = false := by simp [pcB, b1]
              simp -dsimp -implicitDefEqProofs (maxSteps := 1000000) (disch := omega) [condP_pos, condP_neg, optP_pos, decide_eq_true, decide_eq_false, wrap_i64, Int.natCast_inj, U72, b1, hp]
        | cons o rest =>
          have ho := g2 o (by rw [← e1]; simp)
          have e3 : pre.length + (rest.length + 1) ≤ 64 := by rw [← e1] at c1; simpa using c1
          clear g2
          by_cases c3 : o.length ≤ 255
          · generalize hO : (o :: rest).all olB = O
            have hO2 : O = (o.all ptB && rest.all olB) := by rw [← hO]; simp [olB, c3]
            simp -dsimp -implicitDefEqProofs (maxSteps := 1000000) (disch := omega) [condP_pos, condP_neg, optP_pos, decide_eq_true, decide_eq_false, wrap_i64, Int.natCast_inj, S72, c3]
            refine wp_inv (T72 adv pcs many pre rest) (fun a => a.1 ++ a.2 = o ∧ O = (a.2.all ptB && rest.all olB)) (fun a => a.2.length) ([], o) ⟨rfl, hO2⟩ (by simp -dsimp -implicitDefEqProofs (maxSteps := 1000000) (disch := omega) [condP_pos, condP_neg, optP_pos, decide_eq_true, decide_eq_false, wrap_i64, Int.natCast_inj, T72]) ?_
            rintro ⟨q, r⟩ ⟨d1, d2⟩
            simp only at d1 d2
            subst d2
            cases r with
            | nil =>
              simp only [List.append_nil] at d1
              subst d1
              simp -dsimp -implicitDefEqProofs (maxSteps := 1000000) (disch := omega) [condP_pos, condP_neg, optP_pos, decide_eq_true, decide_eq_false, wrap_i64, Int.natCast_inj, T72]
              refine again (pre ++ [q], rest) ⟨by simpa using e1, by simp⟩ (by simp) ?_
              simp -dsimp -implicitDefEqProofs (maxSteps := 1000000) (disch := omega) [condP_pos, condP_neg, optP_pos, decide_eq_true, decide_eq_false, wrap_i64, Int.natCast_inj, S72]
            | cons p r =>
              have d3 : q.length + (r.length + 1) ≤ 255 := by rw [← d1] at c3; simpa using c3
              have k1 := run_rcoord hv p.1
              have k2 := run_rcoord hv p.2
              cases b1 : coordB p.1 with
              | false =>
                rw [b1] at k1
                have hp : ptB p = false := by simp [ptB, b1]
                simp -dsimp -implicitDefEqProofs (maxSteps := 1000000) (disch := omega) [condP_pos, condP_neg, optP_pos, decide_eq_true, decide_eq_false, wrap_i64, Int.natCast_inj, T72, k1, hp]
              | true =>
                rw [b1] at k1
                cases b2 : coordB p.2 with
                | false =>
                  rw [b2] at k2
                  have hp : ptB p = false := by simp [ptB, b2]
                  simp -dsimp -implicitDefEqProofs (maxSteps := 1000000) (disch := omega) [condP_pos, condP_neg, optP_pos, decide_eq_true, decide_eq_false, wrap_i64, Int.natCast_inj, T72, k1, k2, hp]
                | true =>
                  rw [b2] at k2
                  have hp : ptB p = true := by simp only [ptB, b1, b2]; rfl
                  simp -dsimp -implicitDefEqProofs (maxSteps := 1000000) (disch := omega) [condP_pos, condP_neg, optP_pos, decide_eq_true, decide_eq_false, wrap_i64, Int.natCast_inj, T72, k1, k2, hp]
                  refine again (q ++ [p], r) ⟨by simpa using d1, by simp [hp]⟩ (by simp) ?_
                  simp -dsimp -implicitDefEqProofs (maxSteps := 1000000) (disch := omega) [condP_pos, condP_neg, optP_pos, decide_eq_true, decide_eq_false, wrap_i64, Int.natCast_inj, T72]
          · have hol : olB o = false := by simp [olB, c3]
            simp -dsimp -implicitDefEqProofs (maxSteps := 1000000) (disch := omega) [condP_pos, condP_neg, optP_pos, decide_eq_true, decide_eq_false, wrap_i64, Int.natCast_inj, S72, c3, hol]
      · simp -dsimp -implicitDefEqProofs (maxSteps := 1000000) (disch := omega) [condP_pos, condP_neg, optP_pos, decide_eq_true, decide_eq_false, wrap_i64, Int.natCast_inj, h1, c1, c2]
    · simp -dsimp -implicitDefEqProofs (maxSteps := 1000000) (disch := omega) [condP_pos, condP_neg, optP_pos, decide_eq_true, decide_eq_false, wrap_i64, Int.natCast_inj, h1, c1]
def S45 (f : Font) (a : List Gl × List Gl) : St :=
  { sl := [(1, .bp 0 0), (3, i64 a.1.length)], hp := [(0, some (.box [rw_ ((a.1 ++ a.2).map eGl), rw_ (f.2.map ePt)]))], nx := 1 }
def T45 (fg : List Gl) (a : List Pt × List Pt × Int) : St :=
  { sl := [(1, .bp 0 0), (4, i64 a.2.2), (5, i64 a.1.length)], hp := [(0, some (.box [rw_ (fg.map eGl), rw_ ((a.1 ++ a.2.1).map ePt)]))], nx := 1 }
set_option maxHeartbeats 1000000 in
theorem run_rright (f : Font) (hf : okFont f) : v.run 45 [aFont f] [] = some (bo (rightB f), []) := by
  obtain ⟨fg, fr⟩ := f
  obtain ⟨f1, f2, f3⟩ := hf
  simp only at f1 f2 f3
  refine run_wp (by rw [hv]; exact rfl) ?_
  unfold rightB
  simp only
  by_cases c1 : fg.length ≤ 1000
  · generalize hB : prB fg.length (-1) fr = B
    generalize hA : fg.all (glB fg.length) = A
    simp -dsimp -implicitDefEqProofs (maxSteps := 1000000) (disch := omega) [condP_pos, condP_neg, optP_pos, decide_eq_true, decide_eq_false, wrap_i64, Int.natCast_inj, c1]
    refine wp_inv (S45 (fg, fr)) (fun a => a.1 ++ a.2 = fg ∧ A = a.2.all (glB fg.length)) (fun a => a.2.length) ([], fg) ⟨rfl, hA.symm⟩ (by simp -dsimp -implicitDefEqProofs (maxSteps := 1000000) (disch := omega) [condP_pos, condP_neg, optP_pos, decide_eq_true, decide_eq_false, wrap_i64, Int.natCast_inj, S45]) ?_
    rintro ⟨pre, rest⟩ ⟨e1, e2⟩
    simp only at e1 e2
    subst e2
    cases rest with
    | cons g rest =>
      have hg := run_rrightGl hv g fg.length (f3 g (by rw [← e1]; simp))
      have e3 : pre.length + (rest.length + 1) ≤ 1000 := by rw [← e1] at c1; simpa using c1
      have e4 : fg.length = pre.length + (rest.length + 1) := by rw [← e1]; simp
      clear f3
      rw [e4] at hg ⊢
      simp only [Int.natCast_add, Int.natCast_one] at hg
      cases c4 : glB (pre.length + (rest.length + 1)) g with
      | false =>
        rw [c4] at hg
        simp -dsimp -implicitDefEqProofs (maxSteps := 1000000) (disch := omega) [condP_pos, condP_neg, optP_pos, decide_eq_true, decide_eq_false, wrap_i64, Int.natCast_inj, S45, hg, c4]
      | true =>
        rw [c4] at hg
        simp -dsimp -implicitDefEqProofs (maxSteps := 1000000) (disch := omega) [condP_pos, condP_neg, optP_pos, decide_eq_true, decide_eq_false, wrap_i64, Int.natCast_inj, S45, hg, c4]
        refine again (pre ++ [g], rest) ⟨by simpa using e1, by simp [c4]⟩ (by simp) ?_
        simp -dsimp -implicitDefEqProofs (maxSteps := 1000000) (disch := omega) [condP_pos, condP_neg, optP_pos, decide_eq_true, decide_eq_false, wrap_i64, Int.natCast_inj, S45]
    | nil =>
      simp only [List.append_nil] at e1
      subst e1
      simp -dsimp -implicitDefEqProofs (maxSteps := 1000000) (disch := omega) [condP_pos, condP_neg, optP_pos, decide_eq_true, decide_eq_false, wrap_i64, Int.natCast_inj, S45]
      refine wp_inv (T45 pre) (fun a => a.1 ++ a.2.1 = fr ∧ B = prB pre.length a.2.2 a.2.1) (fun a => a.2.1.length) ([], fr, -1) ⟨rfl, hB.symm⟩ (by simp -dsimp -implicitDefEqProofs (maxSteps := 1000000) (disch := omega) [condP_pos, condP_neg, optP_pos, decide_eq_true, decide_eq_false, wrap_i64, Int.natCast_inj, T45]) ?_
      rintro ⟨q, r, last⟩ ⟨d1, d2⟩
      simp only at d1 d2
      subst d2
      cases r with
      | nil => simp -dsimp -implicitDefEqProofs (maxSteps := 1000000) (disch := omega) [condP_pos, condP_neg, optP_pos, decide_eq_true, decide_eq_false, wrap_i64, Int.natCast_inj, T45, prB]
      | cons p r =>
        have d5 : q.length + (r.length + 1) < 1000000000000 := by rw [← d1] at f2; simpa using f2
        by_cases h1 : last < p.1
        · by_cases h2 : p.1 ≤ 1114111
          · by_cases h3 : 0 ≤ p.2
            · by_cases h4 : p.2 < pre.length
              · have hB : prB pre.length last (p :: r) = prB pre.length p.1 r := by
                  simp only [prB]
                  rw [decide_eq_true h1, decide_eq_true h2, decide_eq_true h3, decide_eq_true h4]; rfl
                rw [hB]
                simp -dsimp -implicitDefEqProofs (maxSteps := 1000000) (disch := omega) [condP_pos, condP_neg, optP_pos, decide_eq_true, decide_eq_false, wrap_i64, Int.natCast_inj, T45, h1, h2, h3, h4]
                refine again (q ++ [p], r, p.1) ⟨by simpa using d1, rfl⟩ (by simp) ?_
                simp -dsimp -implicitDefEqProofs (maxSteps := 1000000) (disch := omega) [condP_pos, condP_neg, optP_pos, decide_eq_true, decide_eq_false, wrap_i64, Int.natCast_inj, T45]
              · have hB : prB pre.length last (p :: r) = false := by
                  simp only [prB]; rw [decide_eq_false h4]; simp
                rw [hB]
                simp -dsimp -implicitDefEqProofs (maxSteps := 1000000) (disch := omega) [condP_pos, condP_neg, optP_pos, decide_eq_true, decide_eq_false, wrap_i64, Int.natCast_inj, T45, h1, h2, h3, h4]
            · have hB : prB pre.length last (p :: r) = false := by
                simp only [prB]; rw [decide_eq_false h3]; simp
              rw [hB]
              simp -dsimp -implicitDefEqProofs (maxSteps := 1000000) (disch := omega) [condP_pos, condP_neg, optP_pos, decide_eq_true, decide_eq_false, wrap_i64, Int.natCast_inj, T45, h1, h2, h3]
          · have hB : prB pre.length last (p :: r) = false := by
              simp only [prB]; rw [decide_eq_false h2]; simp
            rw [hB]
            simp -dsimp -implicitDefEqProofs (maxSteps := 1000000) (disch := omega) [condP_pos, condP_neg, optP_pos, decide_eq_true, decide_eq_false, wrap_i64, Int.natCast_inj, T45, h1, h2]
        · have hB : prB pre.length last (p :: r) = false := by
            simp only [prB]; rw [decide_eq_false h1]; rfl
          rw [hB]
          simp -dsimp -implicitDefEqProofs (maxSteps := 1000000) (disch := omega) [condP_pos, condP_neg, optP_pos, decide_eq_true, decide_eq_false, wrap_i64, Int.natCast_inj, T45, h1]
  · simp -dsimp -implicitDefEqProofs (maxSteps := 1000000) (disch := omega) [condP_pos, condP_neg, optP_pos, decide_eq_true, decide_eq_false, wrap_i64, Int.natCast_inj, c1]
end Go.Vai
