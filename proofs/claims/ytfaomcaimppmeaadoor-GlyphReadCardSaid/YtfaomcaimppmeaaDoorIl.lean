/-
  What functions of layer 5 and of its reference compute: equations of the abstract run.
-/
import Derived.Test.YtfaomcaimppmeaaDoorIc
import Derived.Test.YtfaomcaimppmeaaDoorHZ
set_option linter.unusedVariables false
set_option linter.unusedSimpArgs false
set_option linter.unnecessarySimpa false
set_option linter.unusedSectionVars false
namespace Go.Vai
def risesB : Nat → List Gl → Bool
  | _, [] => true
  | i, g :: r => (g.2.2.all fun p => decide (p.1 < i)) && risesB (i + 1) r
section
variable {v : Env} (hv : v.T = Tt)
include hv
def S47 (f : Font) (a : List Gl × List Gl) : St :=
  { sl := [(1, .bp 0 0), (3, i64 a.1.length)], hp := [(0, some (.box [rw_ ((a.1 ++ a.2).map eGl), rw_ (f.2.map ePt)]))], nx := 1 }
def T47 (f : Font) (pre rest : List Gl) (g : Gl) (a : List Pc × List Pc) : St :=
  { sl := [(1, .bp 0 0), (3, i64 pre.length), (4, i64 a.1.length)], hp := [(0, some (.box [rw_ ((pre ++ g :: rest).map eGl), rw_ (f.2.map ePt)]))], nx := 1 }
theorem run_47 (f : Font) (hf : okFont f) : v.run 47 [aFont f] [] = some (bo (risesB 0 f.1), []) := by
  obtain ⟨f1, _, f3⟩ := hf
  refine run_wp (by rw [hv]; exact rfl) ?_
  simp -dsimp -implicitDefEqProofs (maxSteps := 1000000) (disch := omega) [condP_pos, condP_neg, optP_pos, decide_eq_true, decide_eq_false, wrap_i64, Int.natCast_inj]
  refine wp_inv (S47 f) (fun a => a.1 ++ a.2 = f.1 ∧ risesB a.1.length a.2 = risesB 0 f.1) (fun a => a.2.length) ([], f.1) ⟨rfl, rfl⟩ (by simp -dsimp -implicitDefEqProofs (maxSteps := 1000000) (disch := omega) [condP_pos, condP_neg, optP_pos, decide_eq_true, decide_eq_false, wrap_i64, Int.natCast_inj, S47]) ?_
  rintro ⟨pre, rest⟩ ⟨e1, e2⟩
  simp only at e1 e2
  rw [← e2]
  have hlen : pre.length + rest.length = f.1.length := by rw [← e1]; simp
  cases rest with
  | nil => simp -dsimp -implicitDefEqProofs (maxSteps := 1000000) (disch := omega) [condP_pos, condP_neg, optP_pos, decide_eq_true, decide_eq_false, wrap_i64, Int.natCast_inj, S47, risesB]
  | cons g rest =>
    have hg := f3 g (by rw [← e1]; simp)
    simp at hlen
    simp -dsimp -implicitDefEqProofs (maxSteps := 1000000) (disch := omega) [condP_pos, condP_neg, optP_pos, decide_eq_true, decide_eq_false, wrap_i64, Int.natCast_inj, S47, e1]
    refine wp_inv (T47 f pre rest g) (fun a => a.1 ++ a.2 = g.2.2 ∧ (a.2.all fun p => decide (p.1 < pre.length)) = (g.2.2.all fun p => decide (p.1 < pre.length))) (fun a => a.2.length) ([], g.2.2) ⟨rfl, rfl⟩ (by simp -dsimp -implicitDefEqProofs (maxSteps := 1000000) (disch := omega) [condP_pos, condP_neg, optP_pos, decide_eq_true, decide_eq_false, wrap_i64, Int.natCast_inj, T47, e1]) ?_
    rintro ⟨q, r⟩ ⟨d1, d2⟩
    simp only at d1 d2
    simp only [risesB, ← d2]
    have hlq : q.length + r.length = g.2.2.length := by rw [← d1]; simp
    have hgl := hg.2
    cases r with
    | nil =>
      simp -dsimp -implicitDefEqProofs (maxSteps := 1000000) (disch := omega) [condP_pos, condP_neg, optP_pos, decide_eq_true, decide_eq_false, wrap_i64, Int.natCast_inj, T47, ← d1, eGl]
      refine again (pre ++ [g], rest) ⟨by simpa using e1, by rw [← d2]; simp⟩ (by simp) ?_
      simp -dsimp -implicitDefEqProofs (maxSteps := 1000000) (disch := omega) [condP_pos, condP_neg, optP_pos, decide_eq_true, decide_eq_false, wrap_i64, Int.natCast_inj, S47, ← d1, eGl]
    | cons p r =>
      by_cases hp : p.1 < pre.length
      · simp -dsimp -implicitDefEqProofs (maxSteps := 1000000) (disch := omega) [condP_pos, condP_neg, optP_pos, decide_eq_true, decide_eq_false, wrap_i64, Int.natCast_inj, T47, ← d1, eGl, ePc, hp]
        refine again (q ++ [p], r) ⟨by simpa using d1, by rw [← d2]; simp [hp]⟩ (by simp) ?_
        simp -dsimp -implicitDefEqProofs (maxSteps := 1000000) (disch := omega) [condP_pos, condP_neg, optP_pos, decide_eq_true, decide_eq_false, wrap_i64, Int.natCast_inj, T47, ← d1, eGl, ePc]
      · simp -dsimp -implicitDefEqProofs (maxSteps := 1000000) (disch := omega) [condP_pos, condP_neg, optP_pos, decide_eq_true, decide_eq_false, wrap_i64, Int.natCast_inj, T47, ← d1, eGl, ePc, hp]
theorem run_49 (a b : Gl) (ha : okGl a) : v.run 49 [aGl a, aGl b] [] = some (bo (decide (a = b)), []) := by
  have h1 := run_sameOls hv a.2.1 b.2.1 ha.1.1 ha.1.2
  have h2 := run_samePcs hv a.2.2 b.2.2 ha.2
  refine run_wp (by rw [hv]; exact rfl) ?_
  obtain ⟨a1, a2, a3⟩ := a
  obtain ⟨b1, b2, b3⟩ := b
  simp only at h1 h2
  by_cases c1 : a1 = b1
  · by_cases c2 : a2 = b2
    · by_cases c3 : a3 = b3
      · subst c1; subst c2; subst c3
        simp only [decide_true] at h1 h2
        simp -dsimp -implicitDefEqProofs (maxSteps := 1000000) (disch := omega) [condP_pos, condP_neg, optP_pos, decide_eq_true, decide_eq_false, wrap_i64, Int.natCast_inj, h1, h2]
      · subst c1; subst c2
        rw [decide_eq_false c3] at h2
        simp only [decide_true] at h1
        simp -dsimp -implicitDefEqProofs (maxSteps := 1000000) (disch := omega) [condP_pos, condP_neg, optP_pos, decide_eq_true, decide_eq_false, wrap_i64, Int.natCast_inj, h1, h2, c3]
    · subst c1
      rw [decide_eq_false c2] at h1
      simp -dsimp -implicitDefEqProofs (maxSteps := 1000000) (disch := omega) [condP_pos, condP_neg, optP_pos, decide_eq_true, decide_eq_false, wrap_i64, Int.natCast_inj, h1, c2]
  · simp -dsimp -implicitDefEqProofs (maxSteps := 1000000) (disch := omega) [condP_pos, condP_neg, optP_pos, decide_eq_true, decide_eq_false, wrap_i64, Int.natCast_inj, c1]
end
theorem V_E96 (l : List Pt) (h : keysOk l) : V.E 96 [.osl 0 2 0 l.length, .fn 97 []] [some (.arr 2 (l.map ePt))] = some (.tup [], [some (.arr 2 ((sortP l).map ePt))]) := by
  have e : V.E = Eg := rfl
  rw [e]
  unfold Eg
  rw [if_pos rfl]
  exact E96_run l h
theorem run_readV (b : List UInt8) (left : Int) (hb : b.length < 500000000000) (hl : left ≤ 9223372036854775807) : V.run 48 [bs b, i64 left] [] = some (.tup [aFont (readG b left).1, i64 (readG b left).2.1, i64 (readG b left).2.2], []) := run_read V_T V_E96 b left hb hl
theorem rises_all : ∀ (l : List Gl) (i j : Nat) (g : Gl), risesB i l = true → l[j]? = some g → ∀ p ∈ g.2.2, p.1 < ((i + j : Nat) : Int)
  | [], i, j, g, _, hj => by simp at hj
  | x :: l, i, 0, g, h, hj => by
    simp at hj; subst hj
    simp only [risesB, Bool.and_eq_true, List.all_eq_true, decide_eq_true_eq] at h
    exact h.1
  | x :: l, i, j + 1, g, h, hj => by
    simp at hj
    simp only [risesB, Bool.and_eq_true] at h
    have := rises_all l (i + 1) j g h.2 hj
    intro p hp
    have := this p hp
    omega
theorem cut_facts {f : Font} (hr : rightB f = true) (hs : risesB 0 f.1 = true) (k : Nat) (h7 : 7 ≤ k) (hk : k ≤ (bodyW f).length) :
    (readV ((bodyW f).take k)).1.length ≤ f.1.length ∧ ∀ i, i + 1 < (readV ((bodyW f).take k)).1.length → (readV ((bodyW f).take k)).1[i]? = f.1[i]? := by
  obtain ⟨h1, h2, h3⟩ := right_parts hr
  have hat := body_at (f := f) []
  rw [List.append_nil] at hat
  obtain ⟨j, x, e1, e2⟩ := Rcut_gls h1 hk h3 f.1 [] [] hat h7 (by rw [body_len]; simp) h2 (by simpa using h1)
  rw [List.nil_append] at e1
  have hlk : ((bodyW f).take k).length = k := by simp; omega
  rw [readV_R _ (by omega)]
  generalize R ((bodyW f).take k) (7, false) [] [] = y at *
  simp only [endV, List.length_map]
  rw [e1]
  have hlen : (f.1.take j ++ x).length ≤ f.1.length := by
    rcases e2 with rfl | ⟨g', rfl, hj⟩
    · simp; omega
    · simp; omega
  refine ⟨hlen, fun i hi => ?_⟩
  have hij : i < (f.1.take j).length := by
    rcases e2 with rfl | ⟨g', rfl, hj⟩
    · simp at hi ⊢; omega
    · simp at hi ⊢; omega
  rw [List.getElem?_map, List.getElem?_append_left hij]
  have hi2 : i < f.1.length := by simp at hij; omega
  have hi3 : i < j := by simp at hij; omega
  rw [List.getElem?_take, if_pos hi3, List.getElem?_eq_getElem hi2]
  simp only [Option.map_some]
  congr 1
  refine cutG_self fun p hp => ?_
  have := rises_all f.1 0 i _ hs (List.getElem?_eq_getElem hi2) p hp
  omega
theorem more_facts {f : Font} (hr : rightB f = true) (hs : risesB 0 f.1 = true) (z : List UInt8) :
    f.1.length ≤ (readV (bodyW f ++ z)).1.length ∧ ∀ i, i < f.1.length → (readV (bodyW f ++ z)).1[i]? = f.1[i]? := by
  rw [readV_R _ (by simp [body_len]; omega), R_body hr z]
  obtain ⟨w, hw⟩ := recV_ext ((bodyW f ++ z).length - (bodyW f).length) ((bodyW f).length, false) f.1 f.2 (b := bodyW f ++ z)
  have e : R (bodyW f ++ z) ((bodyW f).length, false) f.1 f.2 = recV (bodyW f ++ z) ((bodyW f ++ z).length - (bodyW f).length) ((bodyW f).length, false) f.1 f.2 := rfl
  rw [← e] at hw
  generalize R (bodyW f ++ z) ((bodyW f).length, false) f.1 f.2 = y at *
  simp only [endV, List.length_map]
  rw [hw]
  refine ⟨by simp, fun i hi => ?_⟩
  rw [List.getElem?_map, List.getElem?_append_left hi, List.getElem?_eq_getElem hi]
  simp only [Option.map_some]
  congr 1
  refine cutG_self fun p hp => ?_
  have := rises_all f.1 0 i _ hs (List.getElem?_eq_getElem hi) p hp
  simp
  omega
theorem readG_of {b : List UInt8} {left : Int} (h7 : 7 ≤ b.length) (hs : b.take 7 = sgn) (hl : (b.length : Int) ≤ left) : readG b left = (readV b, left - b.length, 0) := by
  unfold readG
  rw [if_neg (by simp [hs]; omega), if_neg (by omega), show max left 0 = left by omega]
theorem body_sgn (f : Font) (z : List UInt8) : (bodyW f ++ z).take 7 = sgn := rfl
theorem take_sgn {f : Font} {k : Nat} (h7 : 7 ≤ k) : ((bodyW f).take k).take 7 = sgn := by
  rw [List.take_take, Nat.min_eq_left h7]; rfl
end Go.Vai
