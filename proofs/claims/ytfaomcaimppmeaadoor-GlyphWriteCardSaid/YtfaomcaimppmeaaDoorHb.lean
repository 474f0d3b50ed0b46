/-
  What functions of layer 5 and of its reference compute: equations of the abstract run.
-/
import Derived.Test.YtfaomcaimppmeaaDoorH1
set_option linter.unusedVariables false
set_option linter.unusedSimpArgs false
set_option linter.unnecessarySimpa false
set_option linter.unusedSectionVars false
namespace Go.Vai
variable {v : Env} (hv : v.T = Tt)
/-! The reference's drawing. -/
def S610 (f : Font) (k dx dy : Int) (out : List Ol) (left : Int) (path : List Int) (adv : Int) (pcs : List Pc) (a : List Ol × List Ol × Nat) : St :=
  { sl := [(2, i64 k), (3, i64 dx), (4, i64 dy), (5, .emp), (6, .bp 0 0), (7, .bp 1 0), (12, .bp 2 0), (13, .bp 3 0), (14, i64 a.2.2), (15, i64 a.1.length)],
    hp := [(0, some (xFont f)), (1, some (.box [.emp, i64 left, bo true])), (2, some (.box [.emp, i64 0, bo false])), (3, some (.box [i64 adv, rw_ ((a.1 ++ a.2.1).map eOl), rw_ (pcs.map ePc)]))], nx := 4 }
def T610 (f : Font) (k dx dy : Int) (out : List Ol) (left : Int) (path : List Int) (adv : Int) (pcs : List Pc) (a : List Ol × List Ol) : St :=
  { sl := [(2, i64 k), (3, i64 dx), (4, i64 dy), (5, .emp), (6, .bp 0 0), (12, .bp 1 0), (13, .bp 2 0), (16, i64 left), (18, .osl 3 1 0 (out.length + a.1.length)), (19, i64 a.1.length)],
    hp := [(0, some (xFont f)), (1, some (.box [.emp, i64 0, bo false])), (2, some (.box [i64 adv, rw_ ((a.1 ++ a.2).map eOl), rw_ (pcs.map ePc)])), (3, some (.arr 1 (out.map eOl ++ a.1.map (eOlF (movedP dx dy)))))], nx := 4 }
def U610 (f : Font) (k dx dy : Int) (out : List Ol) (left : Int) (path : List Int) (adv : Int) (pcs : List Pc) (pre : List Ol) (c : Ol) (rest : List Ol) (a : List Pt × List Pt) : St :=
  { sl := [(2, i64 k), (3, i64 dx), (4, i64 dy), (5, .emp), (6, .bp 0 0), (12, .bp 1 0), (13, .bp 2 0), (16, i64 left), (18, .osl 3 1 0 (out.length + pre.length)), (19, i64 pre.length), (20, .osl 4 2 0 a.1.length), (21, i64 a.1.length)],
    hp := [(0, some (xFont f)), (1, some (.box [.emp, i64 0, bo false])), (2, some (.box [i64 adv, rw_ ((pre ++ (a.1 ++ a.2) :: rest).map eOl), rw_ (pcs.map ePc)])), (3, some (.arr 1 (out.map eOl ++ pre.map (eOlF (movedP dx dy))))),
      (4, some (.arr 2 (a.1.map fun p => ePt (movedP dx dy p))))], nx := 5 }
def W610 (f : Font) (dx dy : Int) (path P : List Int) (adv : Int) (ols : List Ol) (a : List Pc × List Pc × List Ol × Int × Bool) : St :=
  { sl := [(3, i64 dx), (4, i64 dy), (6, .bp 0 0), (12, .bp 1 0), (13, .bp 2 0), (23, .bp 3 0), (24, .osl 5 1 0 P.length), (25, i64 a.1.length)],
    hp := [(0, some (xFont f)), (1, some (.box [.emp, i64 0, bo false])), (2, some (.box [i64 adv, rw_ (ols.map eOl), rw_ ((a.1 ++ a.2.1).map ePc)])), (3, some (.box [.osl 4 1 0 a.2.2.1.length, i64 a.2.2.2.1, bo a.2.2.2.2])),
      (4, some (.arr 1 (a.2.2.1.map eOl))), (5, some (.arr 1 (P.map eI)))], nx := 6 }
def X610 (f : Font) (dx dy : Int) (path : List Int) (adv : Int) (ols : List Ol) (p1 : List Pc) (p : Pc) (p2 : List Pc) (o2 : List Ol) (l2 : Int) (a : List Int × List Int) : St :=
  { sl := [(3, i64 dx), (4, i64 dy), (6, .bp 0 0), (12, .bp 1 0), (13, .bp 2 0), (23, .bp 3 0), (24, .osl 5 1 0 (a.1 ++ a.2).length), (25, i64 p1.length), (26, .bp 6 0), (27, bo (decide (p.1 ∈ a.1))), (28, i64 a.1.length)],
    hp := [(0, some (xFont f)), (1, some (.box [.emp, i64 0, bo false])), (2, some (.box [i64 adv, rw_ (ols.map eOl), rw_ ((p1 ++ p :: p2).map ePc)])), (3, some (.box [.osl 4 1 0 o2.length, i64 l2, bo true])),
      (4, some (.arr 1 (o2.map eOl))), (5, some (.arr 1 ((a.1 ++ a.2).map eI))), (6, some (.box [i64 p.1, i64 p.2.1, i64 p.2.2]))], nx := 7 }
include hv

set_option maxHeartbeats 8000000 in
theorem run_rdraw0 (f : Font) (hf : smFont f) (k left : Int) (hk : 0 ≤ k) (hkl : k < f.1.length) (hl0 : 0 ≤ left) (hl1 : left < 100000) :
    v.run 61 [aFont f, .agg [.emp, i64 left, bo true], i64 k, i64 0, i64 0, .emp] [] = some (.agg [.osl 0 1 0 (rres (drawG f 8 k 0 0 ([], left, []))).2.1.length, i64 (rres (drawG f 8 k 0 0 ([], left, []))).2.2, bo (rres (drawG f 8 k 0 0 ([], left, []))).1], [some (.arr 1 ((rres (drawG f 8 k 0 0 ([], left, []))).2.1.map eOl))]) := by
    have ih := run_rdraw hv f hf 7
    have h8 : 8 = 7 + 1 := rfl
    rw [h8]
    generalize hn : 7 = n at ih ⊢
    obtain ⟨dx, hdx0⟩ : ∃ dx : Int, dx = 0 := ⟨_, rfl⟩
    obtain ⟨dy, hdy0⟩ : ∃ dy : Int, dy = 0 := ⟨_, rfl⟩
    obtain ⟨out, hout⟩ : ∃ out : List Ol, out = [] := ⟨_, rfl⟩
    obtain ⟨path, hpath⟩ : ∃ path : List Int, path = [] := ⟨_, rfl⟩
    have hx : drawG f (n + 1) k 0 0 ([], left, []) = drawG f (n + 1) k dx dy (out, left, path) := by rw [hdx0, hdy0, hout, hpath]
    rw [hx]
    have hgl : ∀ X, v.run 61 [aFont f, .agg [.emp, i64 left, bo true], i64 k, i64 dx, i64 dy, .emp] [] = X → v.run 61 [aFont f, .agg [.emp, i64 left, bo true], i64 k, i64 0, i64 0, .emp] [] = X := by
      intro X h; rw [hdx0, hdy0] at h; exact h
    refine hgl _ ?_
    have hp : path.length + (n + 1) = 8 := by rw [hpath, ← hn]; rfl
    have hpl0 : path.length = 0 := by rw [hpath]; rfl
    have hol0 : out.length = 0 := by rw [hout]; rfl
    have hpm : path.map eI = [] := by rw [hpath]; rfl
    have hom : out.map eOl = [] := by rw [hout]; rfl
    have hdx : -1048576 ≤ dx ∧ dx ≤ 1048576 := by omega
    have hdy : -1048576 ≤ dy ∧ dy ≤ 1048576 := by omega
    have hpot : (out.length : Int) + 4000000 * left ≤ 2000000000000 := by omega
    obtain ⟨fg, fr⟩ := f
    obtain ⟨hf1, hf2, hf3⟩ := hf
    simp only at hf1 hf2 hf3 hkl
    have hkn : k.toNat < fg.length := by omega
    have hget : fg[k.toNat]? = some fg[k.toNat] := List.getElem?_eq_getElem hkn
    generalize hg : fg[k.toNat] = g at hget
    obtain ⟨adv, ols, pcs⟩ := g
    obtain ⟨hg1, hg2, hg3⟩ := hf3 _ (List.mem_of_getElem? hget)
    simp only at hg1 hg2 hg3
    have hR := drawG_succ (f := (fg, fr)) (n := n) (dx := dx) (dy := dy) (s := (out, left, path)) hget
    simp only at hR
    rw [hR]
    generalize hC : ptsG ols = C at hg2
    skip
    refine run_wp (by rw [hv]; exact rfl) ?_
    simp -dsimp -implicitDefEqProofs (maxSteps := 1000000) (disch := omega) [condP_pos, condP_neg, optP_pos, decide_eq_true, decide_eq_false, wrap_i64, Int.natCast_inj, hget, eGl]
    refine wp_inv (S610 (fg, fr) k dx dy out left path adv pcs) (fun a => a.1 ++ a.2.1 = ols ∧ a.2.2 + ptsG a.2.1 = 1 + C) (fun a => a.2.1.length) ([], ols, 1) (by simp only [List.nil_append, true_and]; omega) (by simp -dsimp -implicitDefEqProofs (maxSteps := 1000000) (disch := omega) [condP_pos, condP_neg, optP_pos, decide_eq_true, decide_eq_false, wrap_i64, Int.natCast_inj, S610, hg]) ?_
    rintro ⟨pre, rest, m⟩ ⟨e1, e2⟩
    simp only at e1 e2
    cases rest with
    | cons o rest =>
      simp only [ptsG] at e2
      have e3 : pre.length + (rest.length + 1) < 4000000 := by rw [← e1] at hg1; simpa using hg1
      simp -dsimp -implicitDefEqProofs (maxSteps := 1000000) (disch := omega) [condP_pos, condP_neg, optP_pos, decide_eq_true, decide_eq_false, wrap_i64, Int.natCast_inj, S610]
      refine again (pre ++ [o], rest, m + o.length) ⟨by simpa using e1, by simp only; omega⟩ (by simp) ?_
      simp -dsimp -implicitDefEqProofs (maxSteps := 1000000) (disch := omega) [condP_pos, condP_neg, optP_pos, decide_eq_true, decide_eq_false, wrap_i64, Int.natCast_inj, S610]
    | nil =>
      simp only [ptsG] at e2
      simp only [List.append_nil] at e1
      subst e1
      have hm : m = 1 + C := by omega
      subst hm
      have hpay := run_pay hv left (1 + (C : Int)) hl0 (by omega) (by omega) (by omega)
      by_cases hc : left < 1 + (C : Int)
      · rw [if_pos hc] at hpay ⊢
        simp -dsimp -implicitDefEqProofs (maxSteps := 1000000) (disch := omega) [condP_pos, condP_neg, optP_pos, decide_eq_true, decide_eq_false, wrap_i64, Int.natCast_inj, S610, hpay]
      · rw [if_neg hc] at hpay ⊢
        rw [rres_pop]
        simp -dsimp -implicitDefEqProofs (maxSteps := 1000000) (disch := omega) [condP_pos, condP_neg, optP_pos, decide_eq_true, decide_eq_false, wrap_i64, Int.natCast_inj, S610, hpay, hol0, hom, hpm, hpl0]
        have hpl : path.length ≤ 7 := by omega
        refine wp_inv (T610 (fg, fr) k dx dy out (left - (1 + (C : Int))) path adv pcs) (fun a => a.1 ++ a.2 = pre) (fun a => a.2.length) ([], pre) (by simp) (by simp -dsimp -implicitDefEqProofs (maxSteps := 1000000) (disch := omega) [condP_pos, condP_neg, optP_pos, decide_eq_true, decide_eq_false, wrap_i64, Int.natCast_inj, T610, hol0, hom, hpm, hpl0]) ?_
        rintro ⟨q, r⟩ e4
        simp only at e4
        cases r with
        | cons o r =>
          have e3 : q.length + (r.length + 1) < 4000000 := by rw [← e4] at hg1; simpa using hg1
          have hol : o.length ≤ ptsG pre := ptsG_len _ _ (by rw [← e4]; simp)
          simp -dsimp -implicitDefEqProofs (maxSteps := 1000000) (disch := omega) [condP_pos, condP_neg, optP_pos, decide_eq_true, decide_eq_false, wrap_i64, Int.natCast_inj, T610, hol0, hom, hpm, hpl0]
          refine wp_inv (U610 (fg, fr) k dx dy out (left - (1 + (C : Int))) path adv pcs q o r) (fun a => a.1 ++ a.2 = o) (fun a => a.2.length) ([], o) (by simp) (by simp -dsimp -implicitDefEqProofs (maxSteps := 1000000) (disch := omega) [condP_pos, condP_neg, optP_pos, decide_eq_true, decide_eq_false, wrap_i64, Int.natCast_inj, U610, hol0, hom, hpm, hpl0]; first | done | exact List.take_of_length_le (by simp) | skip) ?_
          rintro ⟨j1, j2⟩ e5
          simp only at e5
          have e6 : j1.length + j2.length = o.length := by rw [← e5]; simp
          cases j2 with
          | cons pt j2 =>
            simp only [List.length_cons] at e6
            have c1 := cut_b pt.1
            have c2 := cut_b pt.2
            simp -dsimp -implicitDefEqProofs (maxSteps := 1000000) (disch := omega) [condP_pos, condP_neg, optP_pos, decide_eq_true, decide_eq_false, wrap_i64, Int.natCast_inj, U610, run_rcut hv, hol0, hom, hpm, hpl0]
            refine again (j1 ++ [pt], j2) (by simpa using e5) (by simp) ?_
            simp -dsimp -implicitDefEqProofs (maxSteps := 1000000) (disch := omega) [condP_pos, condP_neg, optP_pos, decide_eq_true, decide_eq_false, wrap_i64, Int.natCast_inj, U610, ePt, movedP, hol0, hom, hpm, hpl0]
          | nil =>
            simp only [List.append_nil] at e5
            subst e5
            simp -dsimp -implicitDefEqProofs (maxSteps := 1000000) (disch := omega) [condP_pos, condP_neg, optP_pos, decide_eq_true, decide_eq_false, wrap_i64, Int.natCast_inj, U610, hol0, hom, hpm, hpl0]
            refine again (q ++ [j1], r) (by simpa using e4) (by simp) ?_
            simp -dsimp -implicitDefEqProofs (maxSteps := 1000000) (disch := omega) [condP_pos, condP_neg, optP_pos, decide_eq_true, decide_eq_false, wrap_i64, Int.natCast_inj, T610, hol0, hom, hpm, hpl0]
            all_goals first | done | (refine ⟨by omega, ?_⟩; rw [List.take_of_length_le (by simp)]; simp [eOlF]) | (rw [List.take_of_length_le (by simp)]; simp [eOlF]) | simp [eOlF]
        | nil =>
          simp only [List.append_nil] at e4
          subst e4
          simp -dsimp -implicitDefEqProofs (maxSteps := 1000000) (disch := omega) [condP_pos, condP_neg, optP_pos, decide_eq_true, decide_eq_false, wrap_i64, Int.natCast_inj, T610, hol0, hom, hpm, hpl0]
          obtain ⟨P, hP⟩ : ∃ P, P = path ++ [k] := ⟨_, rfl⟩
          have hPl : P.length = path.length + 1 := by rw [hP]; simp
          rw [← hP]
          generalize hS0 : ((out ++ q.map (List.map (movedP dx dy)), left - (1 + (C : Int)), P) : Dr) = s0
          refine wp_inv (W610 (fg, fr) dx dy path P adv q) (fun a => a.1 ++ a.2.1 = pcs ∧ 0 ≤ a.2.2.2.1 ∧ a.2.2.2.1 < 1000000000 ∧ (a.2.2.1.length : Int) + 4000000 * a.2.2.2.1 ≤ 2000000000000 ∧
            (if a.2.2.2.2 = true then piecesG (drawG (fg, fr) n) fg.length dx dy pcs s0 = piecesG (drawG (fg, fr) n) fg.length dx dy a.2.1 (a.2.2.1, a.2.2.2.1, P)
              else (piecesG (drawG (fg, fr) n) fg.length dx dy pcs s0).1 = false ∧ a.2.2.1 = [] ∧ a.2.2.2.1 = 0)) (fun a => a.2.1.length) ([], pcs, out ++ q.map (List.map (movedP dx dy)), left - (1 + (C : Int)), true) ?_ ?_ ?_
          · refine ⟨by simp, by simp only; omega, by simp only; omega, ?_, by simp only [if_true]; rw [← hS0]⟩
            simp only [List.length_append, List.length_map]
            omega
          · subst hP
            simp -dsimp -implicitDefEqProofs (maxSteps := 1000000) (disch := omega) [condP_pos, condP_neg, optP_pos, decide_eq_true, decide_eq_false, wrap_i64, Int.natCast_inj, W610, eOlF_fn, hol0, hom, hpm, hpl0]
            all_goals first | done | exact List.take_of_length_le (by simp) | rfl
          · rintro ⟨p1, p2, o2, l2, ok⟩ ⟨i1, i2, i3, i4, i5⟩
            simp only at i1 i2 i3 i4 i5
            generalize hRp : piecesG (drawG (fg, fr) n) fg.length dx dy pcs s0 = Rp at i5 ⊢
            clear hRp hS0
            have i6 : p1.length + p2.length < 1000000 := by rw [← i1] at hg3; simpa using hg3
            cases ok with
            | false =>
              simp only [Bool.false_eq_true, if_false] at i5
              obtain ⟨i5, i7, i8⟩ := i5
              subst i7; subst i8
              have hr : rres Rp = (false, [], 0) := by unfold rres; rw [if_neg (by rw [i5]; simp)]
              rw [hr]
              cases p2 with
              | nil => simp -dsimp -implicitDefEqProofs (maxSteps := 1000000) (disch := omega) [condP_pos, condP_neg, optP_pos, decide_eq_true, decide_eq_false, wrap_i64, Int.natCast_inj, W610, hol0, hom, hpm, hpl0]
              | cons p p2 => 
                simp only [List.length_cons] at i6
                simp -dsimp -implicitDefEqProofs (maxSteps := 1000000) (disch := omega) [condP_pos, condP_neg, optP_pos, decide_eq_true, decide_eq_false, wrap_i64, Int.natCast_inj, W610, hol0, hom, hpm, hpl0]
            | true =>
              simp only [if_true] at i5
              cases p2 with
              | nil =>
                simp only [piecesG] at i5
                subst i5
                simp -dsimp -implicitDefEqProofs (maxSteps := 1000000) (disch := omega) [condP_pos, condP_neg, optP_pos, decide_eq_true, decide_eq_false, wrap_i64, Int.natCast_inj, W610, hol0, hom, hpm, hpl0]
              | cons p p2 =>
                simp only [List.length_cons] at i6
                simp -dsimp -implicitDefEqProofs (maxSteps := 1000000) (disch := omega) [condP_pos, condP_neg, optP_pos, decide_eq_true, decide_eq_false, wrap_i64, Int.natCast_inj, W610, hol0, hom, hpm, hpl0]
                refine wp_inv (X610 (fg, fr) dx dy path adv q p1 p p2 o2 l2) (fun a => a.1 ++ a.2 = P) (fun a => a.2.length) ([], P) (by simp) (by simp -dsimp -implicitDefEqProofs (maxSteps := 1000000) (disch := omega) [condP_pos, condP_neg, optP_pos, decide_eq_true, decide_eq_false, wrap_i64, Int.natCast_inj, X610, hol0, hom, hpm, hpl0]) ?_
                rintro ⟨j1, j2⟩ e7
                simp only at e7
                have e8 : j1.length + j2.length = P.length := by rw [← e7]; simp
                cases j2 with
                | cons y j2 =>
                  simp only [List.length_cons] at e8
                  by_cases hin : p.1 ∈ j1
                  · simp -dsimp -implicitDefEqProofs (maxSteps := 1000000) (disch := omega) [condP_pos, condP_neg, optP_pos, decide_eq_true, decide_eq_false, wrap_i64, Int.natCast_inj, X610, hin, hol0, hom, hpm, hpl0]
                    refine again (j1 ++ [y], j2) (by simpa using e7) (by simp) ?_
                    simp -dsimp -implicitDefEqProofs (maxSteps := 1000000) (disch := omega) [condP_pos, condP_neg, optP_pos, decide_eq_true, decide_eq_false, wrap_i64, Int.natCast_inj, X610, hin, hol0, hom, hpm, hpl0]
                  · by_cases hy : y = p.1
                    · simp -dsimp -implicitDefEqProofs (maxSteps := 1000000) (disch := omega) [condP_pos, condP_neg, optP_pos, decide_eq_true, decide_eq_false, wrap_i64, Int.natCast_inj, X610, hin, hy, hol0, hom, hpm, hpl0]
                      refine again (j1 ++ [y], j2) (by simpa using e7) (by simp) ?_
                      simp -dsimp -implicitDefEqProofs (maxSteps := 1000000) (disch := omega) [condP_pos, condP_neg, optP_pos, decide_eq_true, decide_eq_false, wrap_i64, Int.natCast_inj, X610, hin, hy, hol0, hom, hpm, hpl0]
                    · have hy2 : ¬ p.1 = y := fun e => hy e.symm
                      simp -dsimp -implicitDefEqProofs (maxSteps := 1000000) (disch := omega) [condP_pos, condP_neg, optP_pos, decide_eq_true, decide_eq_false, wrap_i64, Int.natCast_inj, X610, hin, hy, hy2, hol0, hom, hpm, hpl0]
                      refine again (j1 ++ [y], j2) (by simpa using e7) (by simp) ?_
                      simp -dsimp -implicitDefEqProofs (maxSteps := 1000000) (disch := omega) [condP_pos, condP_neg, optP_pos, decide_eq_true, decide_eq_false, wrap_i64, Int.natCast_inj, X610, hin, hy, hy2, hol0, hom, hpm, hpl0]
                | nil =>
                  simp only [List.append_nil] at e7
                  subst e7
                  have hsk : (p.1 < 0 ∨ (fg.length : Int) ≤ p.1 ∨ p.1 ∈ j1 ∨ j1.length = 8) → piecesG (drawG (fg, fr) n) fg.length dx dy (p :: p2) (o2, l2, j1) = piecesG (drawG (fg, fr) n) fg.length dx dy p2 (o2, l2, j1) := by
                    intro h; simp only [piecesG]; rw [if_pos h]
                  by_cases h1 : p.1 < 0
                  · rw [hsk (.inl h1)] at i5
                    simp -dsimp -implicitDefEqProofs (maxSteps := 1000000) (disch := omega) [condP_pos, condP_neg, optP_pos, decide_eq_true, decide_eq_false, wrap_i64, Int.natCast_inj, X610, h1, hol0, hom, hpm, hpl0]
                    refine again (p1 ++ [p], p2, o2, l2, true) ⟨by simpa using i1, i2, i3, i4, by simpa using i5⟩ (by simp) ?_
                    simp -dsimp -implicitDefEqProofs (maxSteps := 1000000) (disch := omega) [condP_pos, condP_neg, optP_pos, decide_eq_true, decide_eq_false, wrap_i64, Int.natCast_inj, W610, hol0, hom, hpm, hpl0]
                  · by_cases h2 : (fg.length : Int) ≤ p.1
                    · rw [hsk (.inr (.inl h2))] at i5
                      simp -dsimp -implicitDefEqProofs (maxSteps := 1000000) (disch := omega) [condP_pos, condP_neg, optP_pos, decide_eq_true, decide_eq_false, wrap_i64, Int.natCast_inj, X610, h1, h2, hol0, hom, hpm, hpl0]
                      refine again (p1 ++ [p], p2, o2, l2, true) ⟨by simpa using i1, i2, i3, i4, by simpa using i5⟩ (by simp) ?_
                      simp -dsimp -implicitDefEqProofs (maxSteps := 1000000) (disch := omega) [condP_pos, condP_neg, optP_pos, decide_eq_true, decide_eq_false, wrap_i64, Int.natCast_inj, W610, hol0, hom, hpm, hpl0]
                    · by_cases h3 : p.1 ∈ j1
                      · rw [hsk (.inr (.inr (.inl h3)))] at i5
                        simp -dsimp -implicitDefEqProofs (maxSteps := 1000000) (disch := omega) [condP_pos, condP_neg, optP_pos, decide_eq_true, decide_eq_false, wrap_i64, Int.natCast_inj, X610, h1, h2, h3, hol0, hom, hpm, hpl0]
                        refine again (p1 ++ [p], p2, o2, l2, true) ⟨by simpa using i1, i2, i3, i4, by simpa using i5⟩ (by simp) ?_
                        simp -dsimp -implicitDefEqProofs (maxSteps := 1000000) (disch := omega) [condP_pos, condP_neg, optP_pos, decide_eq_true, decide_eq_false, wrap_i64, Int.natCast_inj, W610, hol0, hom, hpm, hpl0]
                      · by_cases h4 : j1.length = 8
                        · exfalso; omega
                        · have hdr : piecesG (drawG (fg, fr) n) fg.length dx dy (p :: p2) (o2, l2, j1) =
                              if (drawG (fg, fr) n p.1 (cut (dx + cut p.2.1)) (cut (dy + cut p.2.2)) (o2, l2, j1)).1 = true then piecesG (drawG (fg, fr) n) fg.length dx dy p2 (drawG (fg, fr) n p.1 (cut (dx + cut p.2.1)) (cut (dy + cut p.2.2)) (o2, l2, j1)).2
                                else drawG (fg, fr) n p.1 (cut (dx + cut p.2.1)) (cut (dy + cut p.2.2)) (o2, l2, j1) := by
                            simp only [piecesG]; rw [if_neg (fun h => by rcases h with h | h | h | h; exact h1 h; exact h2 h; exact h3 h; exact h4 h)]
                          obtain ⟨ob, hih⟩ := ih p.1 (cut (dx + cut p.2.1)) (cut (dy + cut p.2.2)) (o2, l2, j1) (show j1.length + n = 8 by omega) (by omega) (by omega) (show p.1 < fg.length by omega) (cut_b _) (cut_b _) i2 i3 i4
                          have hok := drawG_ok (f := (fg, fr)) ⟨hf1, hf2, hf3⟩ n p.1 (cut (dx + cut p.2.1)) (cut (dy + cut p.2.2)) (o2, l2, j1)
                          rw [hdr] at i5
                          generalize drawG (fg, fr) n p.1 (cut (dx + cut p.2.1)) (cut (dy + cut p.2.2)) (o2, l2, j1) = r at hih hok i5
                          obtain ⟨okr, o3, l3, P3⟩ := r
                          have c1 := cut_b p.2.1
                          have c2 := cut_b p.2.2
                          have h5 : j1.length < 8 := by omega
                          cases okr with
                          | true =>
                            obtain ⟨k1, k2, k3, k4⟩ := hok _ i2 rfl
                            simp only [potG] at k1 k2 k3 k4
                            subst k1
                            simp only [rres_t] at hih
                            simp -dsimp -implicitDefEqProofs (maxSteps := 1000000) (disch := omega) [condP_pos, condP_neg, optP_pos, decide_eq_true, decide_eq_false, wrap_i64, Int.natCast_inj, X610, h1, h2, h3, run_rcut hv, hih, hol0, hom, hpm, hpl0]
                            refine again (p1 ++ [p], p2, o3, l3, true) ⟨by simpa using i1, k2, by simp only; omega, by simp only; omega, by simpa using i5⟩ (by simp) ?_
                            simp -dsimp -implicitDefEqProofs (maxSteps := 1000000) (disch := omega) [condP_pos, condP_neg, optP_pos, decide_eq_true, decide_eq_false, wrap_i64, Int.natCast_inj, W610, hol0, hom, hpm, hpl0]
                          | false =>
                            simp only [rres_f] at hih
                            simp only [Bool.false_eq_true, if_false] at i5
                            simp -dsimp -implicitDefEqProofs (maxSteps := 1000000) (disch := omega) [condP_pos, condP_neg, optP_pos, decide_eq_true, decide_eq_false, wrap_i64, Int.natCast_inj, X610, h1, h2, h3, run_rcut hv, hih, hol0, hom, hpm, hpl0]
                            refine again (p1 ++ [p], p2, [], 0, false) ⟨by simpa using i1, by simp, by simp, by simp, by simp [i5]⟩ (by simp) ?_
                            simp -dsimp -implicitDefEqProofs (maxSteps := 1000000) (disch := omega) [condP_pos, condP_neg, optP_pos, decide_eq_true, decide_eq_false, wrap_i64, Int.natCast_inj, W610, hol0, hom, hpm, hpl0]

end Go.Vai

set_option linter.unusedVariables false
set_option linter.unusedSimpArgs false
set_option linter.unnecessarySimpa false
set_option linter.unusedSectionVars false
namespace Go.Vai
variable {v : Env} (hv : v.T = Tt)
/-! Outlines. -/
def outlineG (f : Font) (k left : Int) : List Ol × Int × Int :=
  if k < 0 ∨ (f.1.length : Int) ≤ k then ([], max left 0, 51)
  else if (drawG f 8 k 0 0 ([], max left 0, [])).1 = true then ((drawG f 8 k 0 0 ([], max left 0, [])).2.1, (drawG f 8 k 0 0 ([], max left 0, [])).2.2.1, 0) else ([], 0, 1)
abbrev aOut (x : List Ol × Int × Int) : AV := .tup [rw_ (x.1.map eOl), i64 x.2.1, i64 x.2.2]
include hv
theorem run_outline (f : Font) (hf : smFont f) (k left : Int) (hl : left < 100000) : v.run 20 [aFont f, i64 k, i64 left] [] = some (aOut (outlineG f k left), []) := by
  have hm0 : 0 ≤ max left 0 := by omega
  have hm1 : max left 0 < 100000 := by omega
  unfold outlineG
  generalize hM : max left 0 = M at *
  by_cases h1 : k < 0
  · rw [if_pos (.inl h1)]
    refine run_wp (by rw [hv]; exact rfl) ?_
    simp -dsimp -implicitDefEqProofs (maxSteps := 1000000) (disch := omega) [condP_pos, condP_neg, optP_pos, decide_eq_true, decide_eq_false, wrap_i64, Int.natCast_inj, h1, hM]
  · by_cases h2 : (f.1.length : Int) ≤ k
    · rw [if_pos (.inr h2)]
      refine run_wp (by rw [hv]; exact rfl) ?_
      simp -dsimp -implicitDefEqProofs (maxSteps := 1000000) (disch := omega) [condP_pos, condP_neg, optP_pos, decide_eq_true, decide_eq_false, wrap_i64, Int.natCast_inj, h1, h2, hM]
    · rw [if_neg (fun h => by rcases h with h | h; exact h1 h; exact h2 h)]
      have hd := run_draw hv f hf 8 k 0 0 ([], M, []) rfl (by omega) (by omega) (by omega) (by omega) (by omega) (by simpa using hm0) (by simp only; omega) (by simp only [potG, List.length_nil]; omega)
      simp only [H57, R57, List.map_nil, List.length_nil] at hd
      generalize drawG f 8 k 0 0 ([], M, []) = r at *
      obtain ⟨ok, o, l, p⟩ := r
      cases ok with
      | true =>
        rw [if_pos rfl]
        refine run_wp (by rw [hv]; exact rfl) ?_
        simp -dsimp -implicitDefEqProofs (maxSteps := 1000000) (disch := omega) [condP_pos, condP_neg, optP_pos, decide_eq_true, decide_eq_false, wrap_i64, Int.natCast_inj, h1, h2, hM, hd]
      | false =>
        rw [if_neg (by simp)]
        refine run_wp (by rw [hv]; exact rfl) ?_
        simp -dsimp -implicitDefEqProofs (maxSteps := 1000000) (disch := omega) [condP_pos, condP_neg, optP_pos, decide_eq_true, decide_eq_false, wrap_i64, Int.natCast_inj, h1, h2, hM, hd]
theorem run_routline (f : Font) (hf : smFont f) (k left : Int) (hl : left < 100000) : v.run 21 [aFont f, i64 k, i64 left] [] = some (aOut (outlineG f k left), []) := by
  have hm0 : 0 ≤ max left 0 := by omega
  have hm1 : max left 0 < 100000 := by omega
  unfold outlineG
  generalize hM : max left 0 = M at *
  by_cases h1 : k < 0
  · rw [if_pos (.inl h1)]
    refine run_wp (by rw [hv]; exact rfl) ?_
    simp -dsimp -implicitDefEqProofs (maxSteps := 1000000) (disch := omega) [condP_pos, condP_neg, optP_pos, decide_eq_true, decide_eq_false, wrap_i64, Int.natCast_inj, h1, hM]
  · by_cases h2 : (f.1.length : Int) ≤ k
    · rw [if_pos (.inr h2)]
      refine run_wp (by rw [hv]; exact rfl) ?_
      simp -dsimp -implicitDefEqProofs (maxSteps := 1000000) (disch := omega) [condP_pos, condP_neg, optP_pos, decide_eq_true, decide_eq_false, wrap_i64, Int.natCast_inj, h1, h2, hM]
    · rw [if_neg (fun h => by rcases h with h | h; exact h1 h; exact h2 h)]
      have hd := run_rdraw0 hv f hf k M (by omega) (by omega) (by omega) (by omega)
      generalize drawG f 8 k 0 0 ([], M, []) = r at *
      obtain ⟨ok, o, l, p⟩ := r
      cases ok with
      | true =>
        simp only [rres_t] at hd
        rw [if_pos rfl]
        refine run_wp (by rw [hv]; exact rfl) ?_
        simp -dsimp -implicitDefEqProofs (maxSteps := 1000000) (disch := omega) [condP_pos, condP_neg, optP_pos, decide_eq_true, decide_eq_false, wrap_i64, Int.natCast_inj, h1, h2, hM, hd]
      | false =>
        simp only [rres_f] at hd
        rw [if_neg (by simp)]
        refine run_wp (by rw [hv]; exact rfl) ?_
        simp -dsimp -implicitDefEqProofs (maxSteps := 1000000) (disch := omega) [condP_pos, condP_neg, optP_pos, decide_eq_true, decide_eq_false, wrap_i64, Int.natCast_inj, h1, h2, hM, hd]
end Go.Vai
