/-
  What functions of layer 5 and of its reference compute: equations of the abstract run.
-/
import Derived.Test.YtfaomcaimppmeaaDoorGk
set_option linter.unusedVariables false
set_option linter.unusedSimpArgs false
set_option linter.unnecessarySimpa false
set_option linter.unusedSectionVars false
namespace Go.Vai
variable {v : Env} (hv : v.T = Tt)
/-! The reference's drawing. -/
def rres (r : Bool × Dr) : Bool × List Ol × Int := if r.1 = true then (true, r.2.1, r.2.2.1) else (false, [], 0)
@[simp] theorem rres_t (s : Dr) : rres (true, s) = (true, s.1, s.2.1) := rfl
@[simp] theorem rres_f (s : Dr) : rres (false, s) = (false, [], 0) := rfl
theorem rres_pop (r : Bool × Dr) : rres (popG r) = rres r := by
  obtain ⟨ok, s⟩ := r
  cases ok <;> rfl
include hv
theorem run_pay (left n : Int) (h : 0 ≤ left) (h1 : left < 1000000000000) (h2 : 0 ≤ n) (h3 : n < 1000000000000) : v.run 77 [i64 left, i64 n] [] = some (if left < n then .tup [i64 0, bo false] else .tup [i64 (left - n), bo true], []) := by
  have hm : max left 0 = left := by omega
  refine run_wp (by rw [hv]; exact rfl) ?_
  by_cases hc : left < n
  · rw [if_pos hc]
    simp -dsimp -implicitDefEqProofs (maxSteps := 1000000) (disch := omega) [condP_pos, condP_neg, optP_pos, decide_eq_true, decide_eq_false, wrap_i64, Int.natCast_inj, hm, hc]
  · rw [if_neg hc]
    simp -dsimp -implicitDefEqProofs (maxSteps := 1000000) (disch := omega) [condP_pos, condP_neg, optP_pos, decide_eq_true, decide_eq_false, wrap_i64, Int.natCast_inj, hm, hc]
omit hv
def S61 (f : Font) (k dx dy : Int) (out : List Ol) (left : Int) (path : List Int) (adv : Int) (pcs : List Pc) (a : List Ol × List Ol × Nat) : St :=
  { sl := [(2, i64 k), (3, i64 dx), (4, i64 dy), (5, .osl 1 1 0 path.length), (6, .bp 2 0), (7, .bp 3 0), (12, .bp 4 0), (13, .bp 5 0), (14, i64 a.2.2), (15, i64 a.1.length)],
    hp := [(0, some (.arr 1 (out.map eOl))), (1, some (.arr 1 (path.map eI))), (2, some (xFont f)), (3, some (.box [.osl 0 1 0 out.length, i64 left, bo true])), (4, some (.box [.emp, i64 0, bo false])), (5, some (.box [i64 adv, rw_ ((a.1 ++ a.2.1).map eOl), rw_ (pcs.map ePc)]))], nx := 6 }
def T61 (f : Font) (k dx dy : Int) (out : List Ol) (left : Int) (path : List Int) (adv : Int) (pcs : List Pc) (a : List Ol × List Ol) : St :=
  { sl := [(2, i64 k), (3, i64 dx), (4, i64 dy), (5, .osl 1 1 0 path.length), (6, .bp 2 0), (12, .bp 3 0), (13, .bp 4 0), (16, i64 left), (18, .osl 5 1 0 (out.length + a.1.length)), (19, i64 a.1.length)],
    hp := [(0, none), (1, some (.arr 1 (path.map eI))), (2, some (xFont f)), (3, some (.box [.emp, i64 0, bo false])), (4, some (.box [i64 adv, rw_ ((a.1 ++ a.2).map eOl), rw_ (pcs.map ePc)])), (5, some (.arr 1 (out.map eOl ++ a.1.map (eOlF (movedP dx dy)))))], nx := 6 }
def U61 (f : Font) (k dx dy : Int) (out : List Ol) (left : Int) (path : List Int) (adv : Int) (pcs : List Pc) (pre : List Ol) (c : Ol) (rest : List Ol) (a : List Pt × List Pt) : St :=
  { sl := [(2, i64 k), (3, i64 dx), (4, i64 dy), (5, .osl 1 1 0 path.length), (6, .bp 2 0), (12, .bp 3 0), (13, .bp 4 0), (16, i64 left), (18, .osl 5 1 0 (out.length + pre.length)), (19, i64 pre.length), (20, .osl 6 2 0 a.1.length), (21, i64 a.1.length)],
    hp := [(0, none), (1, some (.arr 1 (path.map eI))), (2, some (xFont f)), (3, some (.box [.emp, i64 0, bo false])), (4, some (.box [i64 adv, rw_ ((pre ++ (a.1 ++ a.2) :: rest).map eOl), rw_ (pcs.map ePc)])), (5, some (.arr 1 (out.map eOl ++ pre.map (eOlF (movedP dx dy))))),
      (6, some (.arr 2 (a.1.map fun p => ePt (movedP dx dy p))))], nx := 7 }
def W61 (f : Font) (dx dy : Int) (path P : List Int) (adv : Int) (ols : List Ol) (a : List Pc × List Pc × List Ol × Int × Bool) : St :=
  { sl := [(3, i64 dx), (4, i64 dy), (6, .bp 2 0), (12, .bp 3 0), (13, .bp 4 0), (23, .bp 5 0), (24, .osl 7 1 0 P.length), (25, i64 a.1.length)],
    hp := [(0, none), (1, some (.arr 1 (path.map eI))), (2, some (xFont f)), (3, some (.box [.emp, i64 0, bo false])), (4, some (.box [i64 adv, rw_ (ols.map eOl), rw_ ((a.1 ++ a.2.1).map ePc)])), (5, some (.box [.osl 6 1 0 a.2.2.1.length, i64 a.2.2.2.1, bo a.2.2.2.2])),
      (6, some (.arr 1 (a.2.2.1.map eOl))), (7, some (.arr 1 (P.map eI)))], nx := 8 }
def X61 (f : Font) (dx dy : Int) (path : List Int) (adv : Int) (ols : List Ol) (p1 : List Pc) (p : Pc) (p2 : List Pc) (o2 : List Ol) (l2 : Int) (a : List Int × List Int) : St :=
  { sl := [(3, i64 dx), (4, i64 dy), (6, .bp 2 0), (12, .bp 3 0), (13, .bp 4 0), (23, .bp 5 0), (24, .osl 7 1 0 (a.1 ++ a.2).length), (25, i64 p1.length), (26, .bp 8 0), (27, bo (decide (p.1 ∈ a.1))), (28, i64 a.1.length)],
    hp := [(0, none), (1, some (.arr 1 (path.map eI))), (2, some (xFont f)), (3, some (.box [.emp, i64 0, bo false])), (4, some (.box [i64 adv, rw_ (ols.map eOl), rw_ ((p1 ++ p :: p2).map ePc)])), (5, some (.box [.osl 6 1 0 o2.length, i64 l2, bo true])),
      (6, some (.arr 1 (o2.map eOl))), (7, some (.arr 1 ((a.1 ++ a.2).map eI))), (8, some (.box [i64 p.1, i64 p.2.1, i64 p.2.2]))], nx := 9 }
include hv

set_option maxHeartbeats 8000000 in
theorem run_rdraw (f : Font) (hf : smFont f) : ∀ (n : Nat) (k dx dy : Int) (s : Dr), s.2.2.length + n = 8 → 0 < n → 0 ≤ k → k < f.1.length → (-1048576 ≤ dx ∧ dx ≤ 1048576) → (-1048576 ≤ dy ∧ dy ≤ 1048576) → 0 ≤ s.2.1 → s.2.1 < 1000000000 → potG s ≤ 2000000000000 →
    ∃ ob, v.run 61 [aFont f, .agg [.osl 0 1 0 s.1.length, i64 s.2.1, bo true], i64 k, i64 dx, i64 dy, .osl 1 1 0 s.2.2.length] [some (.arr 1 (s.1.map eOl)), some (.arr 1 (s.2.2.map eI))] = some (.agg [.osl 2 1 0 (rres (drawG f n k dx dy s)).2.1.length, i64 (rres (drawG f n k dx dy s)).2.2, bo (rres (drawG f n k dx dy s)).1], [ob, some (.arr 1 (s.2.2.map eI)), some (.arr 1 ((rres (drawG f n k dx dy s)).2.1.map eOl))]) := by
  intro n
  induction n with
  | zero => intro k dx dy s _ h; omega
  | succ n ih =>
    intro k dx dy s hp _ hk hkl hdx hdy hl0 hl1 hpot
    obtain ⟨out, left, path⟩ := s
    simp only at hp hl0 hl1
    simp only [potG] at hpot
    obtain ⟨fg, fr⟩ := f
    obtain ⟨hf1, hf2, hf3⟩ := hf
    simp only at hf1 hf2 hf3 hkl
    have hkn : k.toNat < fg.length := by omega
    have hget : fg[k.toNat]? = some fg[k.toNat] := List.getElem?_eq_getElem hkn
    generalize hg : fg[k.toNat] = g at hget
    obtain ⟨adv, ols, pcs⟩ := g
    obtain ⟨hg1, hg2, hg3⟩ := hf3 _ (List.mem_of_getElem? hget)
    simp only at hg1 hg2 hg3
    have hR := drawG_succ (f := (fg, fr)) (n := n) (dx := dx) (dy := dy) (s := (out, left, path)) hget
    simp only at hR
    rw [hR]
    generalize hC : ptsG ols = C at hg2
    obtain ⟨ob, hob⟩ : ∃ ob, ob = if left < 1 + (C : Int) then some (Blk.arr 1 (out.map eOl)) else none := ⟨_, rfl⟩
    refine ⟨ob, ?_⟩
    refine run_wp (by rw [hv]; exact rfl) ?_
    simp -dsimp -implicitDefEqProofs (maxSteps := 1000000) (disch := omega) [condP_pos, condP_neg, optP_pos, decide_eq_true, decide_eq_false, wrap_i64, Int.natCast_inj, hget, eGl]
    refine wp_inv (S61 (fg, fr) k dx dy out left path adv pcs) (fun a => a.1 ++ a.2.1 = ols ∧ a.2.2 + ptsG a.2.1 = 1 + C) (fun a => a.2.1.length) ([], ols, 1) (by simp only [List.nil_append, true_and]; omega) (by simp -dsimp -implicitDefEqProofs (maxSteps := 1000000) (disch := omega) [condP_pos, condP_neg, optP_pos, decide_eq_true, decide_eq_false, wrap_i64, Int.natCast_inj, S61, hg]) ?_
    rintro ⟨pre, rest, m⟩ ⟨e1, e2⟩
    simp only at e1 e2
    cases rest with
    | cons o rest =>
      simp only [ptsG] at e2
      have e3 : pre.length + (rest.length + 1) < 4000000 := by rw [← e1] at hg1; simpa using hg1
      simp -dsimp -implicitDefEqProofs (maxSteps := 1000000) (disch := omega) [condP_pos, condP_neg, optP_pos, decide_eq_true, decide_eq_false, wrap_i64, Int.natCast_inj, S61]
      refine again (pre ++ [o], rest, m + o.length) ⟨by simpa using e1, by simp only; omega⟩ (by simp) ?_
      simp -dsimp -implicitDefEqProofs (maxSteps := 1000000) (disch := omega) [condP_pos, condP_neg, optP_pos, decide_eq_true, decide_eq_false, wrap_i64, Int.natCast_inj, S61]
    | nil =>
      simp only [ptsG] at e2
      simp only [List.append_nil] at e1
      subst e1
      have hm : m = 1 + C := by omega
      subst hm
      have hpay := run_pay hv left (1 + (C : Int)) hl0 (by omega) (by omega) (by omega)
      by_cases hc : left < 1 + (C : Int)
      · rw [if_pos hc] at hpay hob ⊢
        subst hob
        simp -dsimp -implicitDefEqProofs (maxSteps := 1000000) (disch := omega) [condP_pos, condP_neg, optP_pos, decide_eq_true, decide_eq_false, wrap_i64, Int.natCast_inj, S61, hpay]
      · rw [if_neg hc] at hpay hob ⊢
        subst hob
        rw [rres_pop]
        simp -dsimp -implicitDefEqProofs (maxSteps := 1000000) (disch := omega) [condP_pos, condP_neg, optP_pos, decide_eq_true, decide_eq_false, wrap_i64, Int.natCast_inj, S61, hpay]
        have hpl : path.length ≤ 7 := by omega
        refine wp_inv (T61 (fg, fr) k dx dy out (left - (1 + (C : Int))) path adv pcs) (fun a => a.1 ++ a.2 = pre) (fun a => a.2.length) ([], pre) (by simp) (by simp -dsimp -implicitDefEqProofs (maxSteps := 1000000) (disch := omega) [condP_pos, condP_neg, optP_pos, decide_eq_true, decide_eq_false, wrap_i64, Int.natCast_inj, T61]) ?_
        rintro ⟨q, r⟩ e4
        simp only at e4
        cases r with
        | cons o r =>
          have e3 : q.length + (r.length + 1) < 4000000 := by rw [← e4] at hg1; simpa using hg1
          have hol : o.length ≤ ptsG pre := ptsG_len _ _ (by rw [← e4]; simp)
          simp -dsimp -implicitDefEqProofs (maxSteps := 1000000) (disch := omega) [condP_pos, condP_neg, optP_pos, decide_eq_true, decide_eq_false, wrap_i64, Int.natCast_inj, T61]
          refine wp_inv (U61 (fg, fr) k dx dy out (left - (1 + (C : Int))) path adv pcs q o r) (fun a => a.1 ++ a.2 = o) (fun a => a.2.length) ([], o) (by simp) (by simp -dsimp -implicitDefEqProofs (maxSteps := 1000000) (disch := omega) [condP_pos, condP_neg, optP_pos, decide_eq_true, decide_eq_false, wrap_i64, Int.natCast_inj, U61]; first | done | exact List.take_of_length_le (by simp) | skip) ?_
          rintro ⟨j1, j2⟩ e5
          simp only at e5
          have e6 : j1.length + j2.length = o.length := by rw [← e5]; simp
          cases j2 with
          | cons pt j2 =>
            simp only [List.length_cons] at e6
            have c1 := cut_b pt.1
            have c2 := cut_b pt.2
            simp -dsimp -implicitDefEqProofs (maxSteps := 1000000) (disch := omega) [condP_pos, condP_neg, optP_pos, decide_eq_true, decide_eq_false, wrap_i64, Int.natCast_inj, U61, run_rcut hv]
            refine again (j1 ++ [pt], j2) (by simpa using e5) (by simp) ?_
            simp -dsimp -implicitDefEqProofs (maxSteps := 1000000) (disch := omega) [condP_pos, condP_neg, optP_pos, decide_eq_true, decide_eq_false, wrap_i64, Int.natCast_inj, U61, ePt, movedP]
          | nil =>
            simp only [List.append_nil] at e5
            subst e5
            simp -dsimp -implicitDefEqProofs (maxSteps := 1000000) (disch := omega) [condP_pos, condP_neg, optP_pos, decide_eq_true, decide_eq_false, wrap_i64, Int.natCast_inj, U61]
            refine again (q ++ [j1], r) (by simpa using e4) (by simp) ?_
            simp -dsimp -implicitDefEqProofs (maxSteps := 1000000) (disch := omega) [condP_pos, condP_neg, optP_pos, decide_eq_true, decide_eq_false, wrap_i64, Int.natCast_inj, T61]
            all_goals first | done | (refine ⟨by omega, ?_⟩; rw [List.take_of_length_le (by simp)]; simp [eOlF]) | (rw [List.take_of_length_le (by simp)]; simp [eOlF]) | simp [eOlF]
        | nil =>
          simp only [List.append_nil] at e4
          subst e4
          simp -dsimp -implicitDefEqProofs (maxSteps := 1000000) (disch := omega) [condP_pos, condP_neg, optP_pos, decide_eq_true, decide_eq_false, wrap_i64, Int.natCast_inj, T61]
          obtain ⟨P, hP⟩ : ∃ P, P = path ++ [k] := ⟨_, rfl⟩
          have hPl : P.length = path.length + 1 := by rw [hP]; simp
          rw [← hP]
          generalize hS0 : ((out ++ q.map (List.map (movedP dx dy)), left - (1 + (C : Int)), P) : Dr) = s0
          refine wp_inv (W61 (fg, fr) dx dy path P adv q) (fun a => a.1 ++ a.2.1 = pcs ∧ 0 ≤ a.2.2.2.1 ∧ a.2.2.2.1 < 1000000000 ∧ (a.2.2.1.length : Int) + 4000000 * a.2.2.2.1 ≤ 2000000000000 ∧
            (if a.2.2.2.2 = true then piecesG (drawG (fg, fr) n) fg.length dx dy pcs s0 = piecesG (drawG (fg, fr) n) fg.length dx dy a.2.1 (a.2.2.1, a.2.2.2.1, P)
              else (piecesG (drawG (fg, fr) n) fg.length dx dy pcs s0).1 = false ∧ a.2.2.1 = [] ∧ a.2.2.2.1 = 0)) (fun a => a.2.1.length) ([], pcs, out ++ q.map (List.map (movedP dx dy)), left - (1 + (C : Int)), true) ?_ ?_ ?_
          · refine ⟨by simp, by simp only; omega, by simp only; omega, ?_, by simp only [if_true]; rw [← hS0]⟩
            simp only [List.length_append, List.length_map]
            omega
          · subst hP
            simp -dsimp -implicitDefEqProofs (maxSteps := 1000000) (disch := omega) [condP_pos, condP_neg, optP_pos, decide_eq_true, decide_eq_false, wrap_i64, Int.natCast_inj, W61, eOlF_fn]
            all_goals first | done | exact List.take_of_length_le (by simp) | rfl
          · rintro ⟨p1, p2, o2, l2, ok⟩ ⟨i1, i2, i3, i4, i5⟩
            simp only at i1 i2 i3 i4 i5
            generalize hRp : piecesG (drawG (fg, fr) n) fg.length dx dy pcs s0 = Rp at i5 ⊢
            clear hRp hS0
            have i6 : p1.length + p2.length < 1000000 := by rw [← i1] at hg3; simpa using hg3
            cases ok with
            | false =>
              simp only [Bool.false_eq_true, if_false] at i5
              obtain ⟨i5, i7, i8⟩ := i5
              subst i7; subst i8
              have hr : rres Rp = (false, [], 0) := by unfold rres; rw [if_neg (by rw [i5]; simp)]
              rw [hr]
              cases p2 with
              | nil => simp -dsimp -implicitDefEqProofs (maxSteps := 1000000) (disch := omega) [condP_pos, condP_neg, optP_pos, decide_eq_true, decide_eq_false, wrap_i64, Int.natCast_inj, W61]
              | cons p p2 => 
                simp only [List.length_cons] at i6
                simp -dsimp -implicitDefEqProofs (maxSteps := 1000000) (disch := omega) [condP_pos, condP_neg, optP_pos, decide_eq_true, decide_eq_false, wrap_i64, Int.natCast_inj, W61]
            | true =>
              simp only [if_true] at i5
              cases p2 with
              | nil =>
                simp only [piecesG] at i5
                subst i5
                simp -dsimp -implicitDefEqProofs (maxSteps := 1000000) (disch := omega) [condP_pos, condP_neg, optP_pos, decide_eq_true, decide_eq_false, wrap_i64, Int.natCast_inj, W61]
              | cons p p2 =>
                simp only [List.length_cons] at i6
                simp -dsimp -implicitDefEqProofs (maxSteps := 1000000) (disch := omega) [condP_pos, condP_neg, optP_pos, decide_eq_true, decide_eq_false, wrap_i64, Int.natCast_inj, W61]
                refine wp_inv (X61 (fg, fr) dx dy path adv q p1 p p2 o2 l2) (fun a => a.1 ++ a.2 = P) (fun a => a.2.length) ([], P) (by simp) (by simp -dsimp -implicitDefEqProofs (maxSteps := 1000000) (disch := omega) [condP_pos, condP_neg, optP_pos, decide_eq_true, decide_eq_false, wrap_i64, Int.natCast_inj, X61]) ?_
                rintro ⟨j1, j2⟩ e7
                simp only at e7
                have e8 : j1.length + j2.length = P.length := by rw [← e7]; simp
                cases j2 with
                | cons y j2 =>
                  simp only [List.length_cons] at e8
                  by_cases hin : p.1 ∈ j1
                  · simp -dsimp -implicitDefEqProofs (maxSteps := 1000000) (disch := omega) [condP_pos, condP_neg, optP_pos, decide_eq_true, decide_eq_false, wrap_i64, Int.natCast_inj, X61, hin]
                    refine again (j1 ++ [y], j2) (by simpa using e7) (by simp) ?_
                    simp -dsimp -implicitDefEqProofs (maxSteps := 1000000) (disch := omega) [condP_pos, condP_neg, optP_pos, decide_eq_true, decide_eq_false, wrap_i64, Int.natCast_inj, X61, hin]
                  · by_cases hy : y = p.1
                    · simp -dsimp -implicitDefEqProofs (maxSteps := 1000000) (disch := omega) [condP_pos, condP_neg, optP_pos, decide_eq_true, decide_eq_false, wrap_i64, Int.natCast_inj, X61, hin, hy]
                      refine again (j1 ++ [y], j2) (by simpa using e7) (by simp) ?_
                      simp -dsimp -implicitDefEqProofs (maxSteps := 1000000) (disch := omega) [condP_pos, condP_neg, optP_pos, decide_eq_true, decide_eq_false, wrap_i64, Int.natCast_inj, X61, hin, hy]
                    · have hy2 : ¬ p.1 = y := fun e => hy e.symm
                      simp -dsimp -implicitDefEqProofs (maxSteps := 1000000) (disch := omega) [condP_pos, condP_neg, optP_pos, decide_eq_true, decide_eq_false, wrap_i64, Int.natCast_inj, X61, hin, hy, hy2]
                      refine again (j1 ++ [y], j2) (by simpa using e7) (by simp) ?_
                      simp -dsimp -implicitDefEqProofs (maxSteps := 1000000) (disch := omega) [condP_pos, condP_neg, optP_pos, decide_eq_true, decide_eq_false, wrap_i64, Int.natCast_inj, X61, hin, hy, hy2]
                | nil =>
                  simp only [List.append_nil] at e7
                  subst e7
                  have hsk : (p.1 < 0 ∨ (fg.length : Int) ≤ p.1 ∨ p.1 ∈ j1 ∨ j1.length = 8) → piecesG (drawG (fg, fr) n) fg.length dx dy (p :: p2) (o2, l2, j1) = piecesG (drawG (fg, fr) n) fg.length dx dy p2 (o2, l2, j1) := by
                    intro h; simp only [piecesG]; rw [if_pos h]
                  by_cases h1 : p.1 < 0
                  · rw [hsk (.inl h1)] at i5
                    simp -dsimp -implicitDefEqProofs (maxSteps := 1000000) (disch := omega) [condP_pos, condP_neg, optP_pos, decide_eq_true, decide_eq_false, wrap_i64, Int.natCast_inj, X61, h1]
                    refine again (p1 ++ [p], p2, o2, l2, true) ⟨by simpa using i1, i2, i3, i4, by simpa using i5⟩ (by simp) ?_
                    simp -dsimp -implicitDefEqProofs (maxSteps := 1000000) (disch := omega) [condP_pos, condP_neg, optP_pos, decide_eq_true, decide_eq_false, wrap_i64, Int.natCast_inj, W61]
                  · by_cases h2 : (fg.length : Int) ≤ p.1
                    · rw [hsk (.inr (.inl h2))] at i5
                      simp -dsimp -implicitDefEqProofs (maxSteps := 1000000) (disch := omega) [condP_pos, condP_neg, optP_pos, decide_eq_true, decide_eq_false, wrap_i64, Int.natCast_inj, X61, h1, h2]
                      refine again (p1 ++ [p], p2, o2, l2, true) ⟨by simpa using i1, i2, i3, i4, by simpa using i5⟩ (by simp) ?_
                      simp -dsimp -implicitDefEqProofs (maxSteps := 1000000) (disch := omega) [condP_pos, condP_neg, optP_pos, decide_eq_true, decide_eq_false, wrap_i64, Int.natCast_inj, W61]
                    · by_cases h3 : p.1 ∈ j1
                      · rw [hsk (.inr (.inr (.inl h3)))] at i5
                        simp -dsimp -implicitDefEqProofs (maxSteps := 1000000) (disch := omega) [condP_pos, condP_neg, optP_pos, decide_eq_true, decide_eq_false, wrap_i64, Int.natCast_inj, X61, h1, h2, h3]
                        refine again (p1 ++ [p], p2, o2, l2, true) ⟨by simpa using i1, i2, i3, i4, by simpa using i5⟩ (by simp) ?_
                        simp -dsimp -implicitDefEqProofs (maxSteps := 1000000) (disch := omega) [condP_pos, condP_neg, optP_pos, decide_eq_true, decide_eq_false, wrap_i64, Int.natCast_inj, W61]
                      · by_cases h4 : j1.length = 8
                        · skip
                          rw [hsk (.inr (.inr (.inr h4)))] at i5
                          simp -dsimp -implicitDefEqProofs (maxSteps := 1000000) (disch := omega) [condP_pos, condP_neg, optP_pos, decide_eq_true, decide_eq_false, wrap_i64, Int.natCast_inj, X61, h1, h2, h3]
                          refine again (p1 ++ [p], p2, o2, l2, true) ⟨by simpa using i1, i2, i3, i4, by simpa using i5⟩ (by simp) ?_
                          simp -dsimp -implicitDefEqProofs (maxSteps := 1000000) (disch := omega) [condP_pos, condP_neg, optP_pos, decide_eq_true, decide_eq_false, wrap_i64, Int.natCast_inj, W61]
                        · have hdr : piecesG (drawG (fg, fr) n) fg.length dx dy (p :: p2) (o2, l2, j1) =
                              if (drawG (fg, fr) n p.1 (cut (dx + cut p.2.1)) (cut (dy + cut p.2.2)) (o2, l2, j1)).1 = true then piecesG (drawG (fg, fr) n) fg.length dx dy p2 (drawG (fg, fr) n p.1 (cut (dx + cut p.2.1)) (cut (dy + cut p.2.2)) (o2, l2, j1)).2
                                else drawG (fg, fr) n p.1 (cut (dx + cut p.2.1)) (cut (dy + cut p.2.2)) (o2, l2, j1) := by
                            simp only [piecesG]; rw [if_neg (fun h => by rcases h with h | h | h | h; exact h1 h; exact h2 h; exact h3 h; exact h4 h)]
                          obtain ⟨ob, hih⟩ := ih p.1 (cut (dx + cut p.2.1)) (cut (dy + cut p.2.2)) (o2, l2, j1) (show j1.length + n = 8 by omega) (by omega) (by omega) (show p.1 < fg.length by omega) (cut_b _) (cut_b _) i2 i3 i4
                          have hok := drawG_ok (f := (fg, fr)) ⟨hf1, hf2, hf3⟩ n p.1 (cut (dx + cut p.2.1)) (cut (dy + cut p.2.2)) (o2, l2, j1)
                          rw [hdr] at i5
                          generalize drawG (fg, fr) n p.1 (cut (dx + cut p.2.1)) (cut (dy + cut p.2.2)) (o2, l2, j1) = r at hih hok i5
                          obtain ⟨okr, o3, l3, P3⟩ := r
                          have c1 := cut_b p.2.1
                          have c2 := cut_b p.2.2
                          have h5 : j1.length < 8 := by omega
                          cases okr with
                          | true =>
                            obtain ⟨k1, k2, k3, k4⟩ := hok _ i2 rfl
                            simp only [potG] at k1 k2 k3 k4
                            subst k1
                            simp only [rres_t] at hih
                            simp -dsimp -implicitDefEqProofs (maxSteps := 1000000) (disch := omega) [condP_pos, condP_neg, optP_pos, decide_eq_true, decide_eq_false, wrap_i64, Int.natCast_inj, X61, h1, h2, h3, run_rcut hv, hih]
                            refine again (p1 ++ [p], p2, o3, l3, true) ⟨by simpa using i1, k2, by simp only; omega, by simp only; omega, by simpa using i5⟩ (by simp) ?_
                            simp -dsimp -implicitDefEqProofs (maxSteps := 1000000) (disch := omega) [condP_pos, condP_neg, optP_pos, decide_eq_true, decide_eq_false, wrap_i64, Int.natCast_inj, W61]
                          | false =>
                            simp only [rres_f] at hih
                            simp only [Bool.false_eq_true, if_false] at i5
                            simp -dsimp -implicitDefEqProofs (maxSteps := 1000000) (disch := omega) [condP_pos, condP_neg, optP_pos, decide_eq_true, decide_eq_false, wrap_i64, Int.natCast_inj, X61, h1, h2, h3, run_rcut hv, hih]
                            refine again (p1 ++ [p], p2, [], 0, false) ⟨by simpa using i1, by simp, by simp, by simp, by simp [i5]⟩ (by simp) ?_
                            simp -dsimp -implicitDefEqProofs (maxSteps := 1000000) (disch := omega) [condP_pos, condP_neg, optP_pos, decide_eq_true, decide_eq_false, wrap_i64, Int.natCast_inj, W61]

end Go.Vai
