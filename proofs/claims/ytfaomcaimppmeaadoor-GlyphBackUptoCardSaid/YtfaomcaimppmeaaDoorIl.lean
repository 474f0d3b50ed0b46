/-
  What functions of layer 5 and of its reference compute: equations of the abstract run.
-/
import Derived.Test.YtfaomcaimppmeaaDoorIc
import Derived.Test.YtfaomcaimppmeaaDoorHZ
set_option linter.unusedVariables false
set_option linter.unusedSimpArgs false
set_option linter.unnecessarySimpa false
set_option linter.unusedSectionVars false
namespace Go.Vai
/-! The law of texts that are broken off. -/
def risesB : Nat → List Gl → Bool
  | _, [] => true
  | i, g :: r => (g.2.2.all fun p => decide (p.1 < i)) && risesB (i + 1) r
section
variable {v : Env} (hv : v.T = Tt)
include hv
def S47 (f : Font) (a : List Gl × List Gl) : St :=
  { sl := [(1, .bp 0 0), (3, i64 a.1.length)], hp := [(0, some (.box [rw_ ((a.1 ++ a.2).map eGl), rw_ (f.2.map ePt)]))], nx := 1 }
def T47 (f : Font) (pre rest : List Gl) (g : Gl) (a : List Pc × List Pc) : St :=
  { sl := [(1, .bp 0 0), (3, i64 pre.length), (4, i64 a.1.length)], hp := [(0, some (.box [rw_ ((pre ++ g :: rest).map eGl), rw_ (f.2.map ePt)]))], nx := 1 }
theorem run_47 (f : Font) (hf : okFont f) : v.run 47 [aFont f] [] = some (bo (risesB 0 f.1), []) := by
  obtain ⟨f1, _, f3⟩ := hf
  refine run_wp (by rw [hv]; exact rfl) ?_
  simp -dsimp -implicitDefEqProofs (maxSteps := 1000000) (disch := omega) [condP_pos, condP_neg, optP_pos, decide_eq_true, decide_eq_false, wrap_i64, Int.natCast_inj]
  refine wp_inv (S47 f) (fun a => a.1 ++ a.2 = f.1 ∧ risesB a.1.length a.2 = risesB 0 f.1) (fun a => a.2.length) ([], f.1) ⟨rfl, rfl⟩ (by simp -dsimp -implicitDefEqProofs (maxSteps := 1000000) (disch := omega) [condP_pos, condP_neg, optP_pos, decide_eq_true, decide_eq_false, wrap_i64, Int.natCast_inj, S47]) ?_
  rintro ⟨pre, rest⟩ ⟨e1, e2⟩
  simp only at e1 e2
  rw [← e2]
  have hlen : pre.length + rest.length = f.1.length := by rw [← e1]; simp
  cases rest with
  | nil => simp -dsimp -implicitDefEqProofs (maxSteps := 1000000) (disch := omega) [condP_pos, condP_neg, optP_pos, decide_eq_true, decide_eq_false, wrap_i64, Int.natCast_inj, S47, risesB]
  | cons g rest =>
    have hg := f3 g (by rw [← e1]; simp)
    simp at hlen
    simp -dsimp -implicitDefEqProofs (maxSteps := 1000000) (disch := omega) [condP_pos, condP_neg, optP_pos, decide_eq_true, decide_eq_false, wrap_i64, Int.natCast_inj, S47, e1]
    refine wp_inv (T47 f pre rest g) (fun a => a.1 ++ a.2 = g.2.2 ∧ (a.2.all fun p => decide (p.1 < pre.length)) = (g.2.2.all fun p => decide (p.1 < pre.length))) (fun a => a.2.length) ([], g.2.2) ⟨rfl, rfl⟩ (by simp -dsimp -implicitDefEqProofs (maxSteps := 1000000) (disch := omega) [condP_pos, condP_neg, optP_pos, decide_eq_true, decide_eq_false, wrap_i64, Int.natCast_inj, T47, e1]) ?_
    rintro ⟨q, r⟩ ⟨d1, d2⟩
    simp only at d1 d2
    simp only [risesB, ← d2]
    have hlq : q.length + r.length = g.2.2.length := by rw [← d1]; simp
    have hgl := hg.2
    cases r with
    | nil =>
      simp -dsimp -implicitDefEqProofs (maxSteps := 1000000) (disch := omega) [condP_pos, condP_neg, optP_pos, decide_eq_true, decide_eq_false, wrap_i64, Int.natCast_inj, T47, ← d1, eGl]
      refine again (pre ++ [g], rest) ⟨by simpa using e1, by rw [← d2]; simp⟩ (by simp) ?_
      simp -dsimp -implicitDefEqProofs (maxSteps := 1000000) (disch := omega) [condP_pos, condP_neg, optP_pos, decide_eq_true, decide_eq_false, wrap_i64, Int.natCast_inj, S47, ← d1, eGl]
    | cons p r =>
      by_cases hp : p.1 < pre.length
      · simp -dsimp -implicitDefEqProofs (maxSteps := 1000000) (disch := omega) [condP_pos, condP_neg, optP_pos, decide_eq_true, decide_eq_false, wrap_i64, Int.natCast_inj, T47, ← d1, eGl, ePc, hp]
        refine again (q ++ [p], r) ⟨by simpa using d1, by rw [← d2]; simp [hp]⟩ (by simp) ?_
        simp -dsimp -implicitDefEqProofs (maxSteps := 1000000) (disch := omega) [condP_pos, condP_neg, optP_pos, decide_eq_true, decide_eq_false, wrap_i64, Int.natCast_inj, T47, ← d1, eGl, ePc]
      · simp -dsimp -implicitDefEqProofs (maxSteps := 1000000) (disch := omega) [condP_pos, condP_neg, optP_pos, decide_eq_true, decide_eq_false, wrap_i64, Int.natCast_inj, T47, ← d1, eGl, ePc, hp]
theorem run_49 (a b : Gl) (ha : okGl a) : v.run 49 [aGl a, aGl b] [] = some (bo (decide (a = b)), []) := by
  have h1 := run_sameOls hv a.2.1 b.2.1 ha.1.1 ha.1.2
  have h2 := run_samePcs hv a.2.2 b.2.2 ha.2
  refine run_wp (by rw [hv]; exact rfl) ?_
  obtain ⟨a1, a2, a3⟩ := a
  obtain ⟨b1, b2, b3⟩ := b
  simp only at h1 h2
  by_cases c1 : a1 = b1
  · by_cases c2 : a2 = b2
    · by_cases c3 : a3 = b3
      · subst c1; subst c2; subst c3
        simp only [decide_true] at h1 h2
        simp -dsimp -implicitDefEqProofs (maxSteps := 1000000) (disch := omega) [condP_pos, condP_neg, optP_pos, decide_eq_true, decide_eq_false, wrap_i64, Int.natCast_inj, h1, h2]
      · subst c1; subst c2
        rw [decide_eq_false c3] at h2
        simp only [decide_true] at h1
        simp -dsimp -implicitDefEqProofs (maxSteps := 1000000) (disch := omega) [condP_pos, condP_neg, optP_pos, decide_eq_true, decide_eq_false, wrap_i64, Int.natCast_inj, h1, h2, c3]
    · subst c1
      rw [decide_eq_false c2] at h1
      simp -dsimp -implicitDefEqProofs (maxSteps := 1000000) (disch := omega) [condP_pos, condP_neg, optP_pos, decide_eq_true, decide_eq_false, wrap_i64, Int.natCast_inj, h1, c2]
  · simp -dsimp -implicitDefEqProofs (maxSteps := 1000000) (disch := omega) [condP_pos, condP_neg, optP_pos, decide_eq_true, decide_eq_false, wrap_i64, Int.natCast_inj, c1]
end
theorem V_E96 (l : List Pt) (h : keysOk l) : V.E 96 [.osl 0 2 0 l.length, .fn 97 []] [some (.arr 2 (l.map ePt))] = some (.tup [], [some (.arr 2 ((sortP l).map ePt))]) := by
  have e : V.E = Eg := rfl
  rw [e]
  unfold Eg
  rw [if_pos rfl]
  exact E96_run l h
theorem run_readV (b : List UInt8) (left : Int) (hb : b.length < 500000000000) (hl : left ≤ 9223372036854775807) : V.run 48 [bs b, i64 left] [] = some (.tup [aFont (readG b left).1, i64 (readG b left).2.1, i64 (readG b left).2.2], []) := run_read V_T V_E96 b left hb hl
theorem rises_all : ∀ (l : List Gl) (i j : Nat) (g : Gl), risesB i l = true → l[j]? = some g → ∀ p ∈ g.2.2, p.1 < ((i + j : Nat) : Int)
  | [], i, j, g, _, hj => by simp at hj
  | x :: l, i, 0, g, h, hj => by
    simp at hj; subst hj
    simp only [risesB, Bool.and_eq_true, List.all_eq_true, decide_eq_true_eq] at h
    exact h.1
  | x :: l, i, j + 1, g, h, hj => by
    simp at hj
    simp only [risesB, Bool.and_eq_true] at h
    have := rises_all l (i + 1) j g h.2 hj
    intro p hp
    have := this p hp
    omega
/-- What is read of a text that is broken off. -/
theorem cut_facts {f : Font} (hr : rightB f = true) (hs : risesB 0 f.1 = true) (k : Nat) (h7 : 7 ≤ k) (hk : k ≤ (bodyW f).length) :
    (readV ((bodyW f).take k)).1.length ≤ f.1.length ∧ ∀ i, i + 1 < (readV ((bodyW f).take k)).1.length → (readV ((bodyW f).take k)).1[i]? = f.1[i]? := by
  obtain ⟨h1, h2, h3⟩ := right_parts hr
  have hat := body_at (f := f) []
  rw [List.append_nil] at hat
  obtain ⟨j, x, e1, e2⟩ := Rcut_gls h1 hk h3 f.1 [] [] hat h7 (by rw [body_len]; simp) h2 (by simpa using h1)
  rw [List.nil_append] at e1
  have hlk : ((bodyW f).take k).length = k := by simp; omega
  rw [readV_R _ (by omega)]
  generalize R ((bodyW f).take k) (7, false) [] [] = y at *
  simp only [endV, List.length_map]
  rw [e1]
  have hlen : (f.1.take j ++ x).length ≤ f.1.length := by
    rcases e2 with rfl | ⟨g', rfl, hj⟩
    · simp; omega
    · simp; omega
  refine ⟨hlen, fun i hi => ?_⟩
  have hij : i < (f.1.take j).length := by
    rcases e2 with rfl | ⟨g', rfl, hj⟩
    · simp at hi ⊢; omega
    · simp at hi ⊢; omega
  rw [List.getElem?_map, List.getElem?_append_left hij]
  have hi2 : i < f.1.length := by simp at hij; omega
  have hi3 : i < j := by simp at hij; omega
  rw [List.getElem?_take, if_pos hi3, List.getElem?_eq_getElem hi2]
  simp only [Option.map_some]
  congr 1
  refine cutG_self fun p hp => ?_
  have := rises_all f.1 0 i _ hs (List.getElem?_eq_getElem hi2) p hp
  omega
theorem more_facts {f : Font} (hr : rightB f = true) (hs : risesB 0 f.1 = true) (z : List UInt8) :
    f.1.length ≤ (readV (bodyW f ++ z)).1.length ∧ ∀ i, i < f.1.length → (readV (bodyW f ++ z)).1[i]? = f.1[i]? := by
  rw [readV_R _ (by simp [body_len]; omega), R_body hr z]
  obtain ⟨w, hw⟩ := recV_ext ((bodyW f ++ z).length - (bodyW f).length) ((bodyW f).length, false) f.1 f.2 (b := bodyW f ++ z)
  have e : R (bodyW f ++ z) ((bodyW f).length, false) f.1 f.2 = recV (bodyW f ++ z) ((bodyW f ++ z).length - (bodyW f).length) ((bodyW f).length, false) f.1 f.2 := rfl
  rw [← e] at hw
  generalize R (bodyW f ++ z) ((bodyW f).length, false) f.1 f.2 = y at *
  simp only [endV, List.length_map]
  rw [hw]
  refine ⟨by simp, fun i hi => ?_⟩
  rw [List.getElem?_map, List.getElem?_append_left hi, List.getElem?_eq_getElem hi]
  simp only [Option.map_some]
  congr 1
  refine cutG_self fun p hp => ?_
  have := rises_all f.1 0 i _ hs (List.getElem?_eq_getElem hi) p hp
  simp
  omega
theorem readG_of {b : List UInt8} {left : Int} (h7 : 7 ≤ b.length) (hs : b.take 7 = sgn) (hl : (b.length : Int) ≤ left) : readG b left = (readV b, left - b.length, 0) := by
  unfold readG
  rw [if_neg (by simp [hs]; omega), if_neg (by omega), show max left 0 = left by omega]
theorem body_sgn (f : Font) (z : List UInt8) : (bodyW f ++ z).take 7 = sgn := rfl
theorem take_sgn {f : Font} {k : Nat} (h7 : 7 ≤ k) : ((bodyW f).take k).take 7 = sgn := by
  rw [List.take_take, Nat.min_eq_left h7]; rfl
end Go.Vai

set_option linter.unusedVariables false
set_option linter.unusedSimpArgs false
set_option linter.unnecessarySimpa false
set_option linter.unusedSectionVars false
namespace Go.Vai
def S11a (f c m : Font) (i : Nat) : St :=
  { sl := [(3, .bp 0 0), (7, bo true), (10, .bp 1 0), (13, .bp 2 0), (16, i64 i)],
    hp := [(0, some (.box [rw_ (f.1.map eGl), rw_ (f.2.map ePt)])), (1, some (.box [rw_ (c.1.map eGl), rw_ (c.2.map ePt)])), (2, some (.box [rw_ (m.1.map eGl), rw_ (m.2.map ePt)]))], nx := 3 }
def S11b (f m : Font) (i : Nat) : St :=
  { sl := [(3, .bp 0 0), (7, bo true), (13, .bp 1 0), (17, i64 i)],
    hp := [(0, some (.box [rw_ (f.1.map eGl), rw_ (f.2.map ePt)])), (1, some (.box [rw_ (m.1.map eGl), rw_ (m.2.map ePt)]))], nx := 2 }
set_option maxHeartbeats 4000000 in
theorem law_cut (f : Font) (at' : Int) (z : List UInt8) (hf : roomFont f) (ha0 : 0 ≤ at') (ha1 : at' < 65536) (hz : z.length ≤ 140737488351232) : V.run 11 [aFont f, .fz (.sc (.int .u16 at')), bs z] [] = some (bo true, []) := by
  have hw := run_fewR V_T f 600 (by omega) hf
  refine run_wp (by rw [V_T]; exact rfl) ?_
  by_cases h1 : fontSize f ≤ 600
  · rw [decide_eq_true (by omega)] at hw
    by_cases h2 : 500 < z.length
    · simp -dsimp -implicitDefEqProofs (maxSteps := 1000000) (disch := omega) [condP_pos, condP_neg, optP_pos, decide_eq_true, decide_eq_false, wrap_i64, Int.natCast_inj, run_awake, hw, h2]
    · obtain ⟨s2, s3, s4⟩ := small_ok h1 (by omega)
      have hb := len_body f
      have c4 := run_write V_T f s2 (by omega)
      cases hB : rightB f with
      | false =>
        simp only [writeG, hB] at c4
        simp only [Bool.false_eq_true, if_false] at c4
        simp -dsimp -implicitDefEqProofs (maxSteps := 1000000) (disch := omega) [condP_pos, condP_neg, optP_pos, decide_eq_true, decide_eq_false, wrap_i64, Int.natCast_inj, run_awake, hw, h2, c4]
      | true =>
        simp only [writeG, hB, if_true] at c4
        have c5 := run_47 V_T f s2
        have hbl := body_len f
        have hne : bodyW f ≠ [] := by intro e; rw [e, List.length_nil] at hbl; omega
        cases hR : risesB 0 f.1 with
        | false =>
          rw [hR] at c5
          simp -dsimp -implicitDefEqProofs (maxSteps := 1000000) (disch := omega) [condP_pos, condP_neg, optP_pos, decide_eq_true, decide_eq_false, wrap_i64, Int.natCast_inj, run_awake, hw, h2, c4, c5, hne]
        | true =>
          rw [hR] at c5
          obtain ⟨m, hm1, hm2⟩ : ∃ m : Nat, at'.tmod ((bodyW f).length - 6) = (m : Int) ∧ m + 7 ≤ (bodyW f).length := by
            have h1 := Int.tmod_nonneg ((bodyW f).length - 6 : Int) ha0
            have h2 := Int.tmod_lt_of_pos at' (show (0 : Int) < (bodyW f).length - 6 by omega)
            exact ⟨(at'.tmod ((bodyW f).length - 6)).toNat, by omega, by omega⟩
          have c6 := run_readV ((bodyW f).take (7 + m)) (7 + m) (by simp; omega) (by omega)
          have c7 := run_readV (bodyW f ++ z) ((bodyW f).length + z.length) (by simp; omega) (by omega)
          have hlk : ((bodyW f).take (7 + m)).length = 7 + m := by simp; omega
          rw [readG_of (by omega) (take_sgn (by omega)) (by rw [hlk]; simp)] at c6
          rw [readG_of (by simp; omega) (body_sgn f z) (by simp)] at c7
          obtain ⟨f1, f2⟩ := cut_facts hB hR (7 + m) (by omega) (by omega)
          obtain ⟨g1, g2⟩ := more_facts hB hR z
          generalize readV ((bodyW f).take (7 + m)) = c at *
          generalize readV (bodyW f ++ z) = mo at *
          simp only [hlk] at c6
          simp only at c7
          have hz6 : ¬ ((bodyW f).length : Int) - 6 = 0 := by omega
          have ht : (7 + (m : Int)).toNat = 7 + m := by omega
          have hcat : (bodyW f).length + z.length ≤ 9223372036854775807 := by omega
          have hgt : ¬ f.1.length < c.1.length := by omega
          have hlt : ¬ mo.1.length < f.1.length := by omega
          have hw7 : IntKind.i64.wrap (7 + (m : Int)) = 7 + m := wrap_i64 (by omega) (by omega)
          simp -dsimp -implicitDefEqProofs (maxSteps := 1000000) (disch := omega) [condP_pos, condP_neg, optP_pos, decide_eq_true, decide_eq_false, wrap_i64, Int.natCast_inj, run_awake, hw, h2, c4, c5, hne, hm1, c6, c7, hz6, ht, hw7, hgt, hlt, hcat]
          refine wp_inv (S11a f c mo) (fun i => i ≤ 2000) (fun i => c.1.length - i) 0 (by omega) (by simp -dsimp -implicitDefEqProofs (maxSteps := 1000000) (disch := omega) [condP_pos, condP_neg, optP_pos, decide_eq_true, decide_eq_false, wrap_i64, Int.natCast_inj, S11a]) ?_
          intro i hib
          rcases Nat.lt_or_ge (i + 1) c.1.length with hi | hi
          · have hi1 : i < f.1.length := by omega
            have hi2 : i < c.1.length := by omega
            have hcg : c.1[i] = f.1[i] := by
              have := f2 i hi
              rw [List.getElem?_eq_getElem hi1, List.getElem?_eq_getElem hi2] at this
              exact Option.some.inj this
            have hsame := run_49 V_T f.1[i] f.1[i] (s2.2.2 f.1[i] (List.getElem_mem _))
            rw [decide_eq_true rfl] at hsame
            have hil : ((i : Int) + 1 < c.1.length) := by omega
            simp -dsimp -implicitDefEqProofs (maxSteps := 1000000) (disch := omega) [condP_pos, condP_neg, optP_pos, decide_eq_true, decide_eq_false, wrap_i64, Int.natCast_inj, S11a, hil, hi1, hi2, hcg, hsame, eGl]
            refine again (i + 1) (by omega) (by omega) ?_
            simp -dsimp -implicitDefEqProofs (maxSteps := 1000000) (disch := omega) [condP_pos, condP_neg, optP_pos, decide_eq_true, decide_eq_false, wrap_i64, Int.natCast_inj, S11a]
          · have hil : ¬ ((i : Int) + 1 < c.1.length) := by omega
            simp -dsimp -implicitDefEqProofs (maxSteps := 1000000) (disch := omega) [condP_pos, condP_neg, optP_pos, decide_eq_true, decide_eq_false, wrap_i64, Int.natCast_inj, S11a, hil]
            refine wp_inv (S11b f mo) (fun i => i ≤ 2000) (fun i => f.1.length - i) 0 (by omega) (by simp -dsimp -implicitDefEqProofs (maxSteps := 1000000) (disch := omega) [condP_pos, condP_neg, optP_pos, decide_eq_true, decide_eq_false, wrap_i64, Int.natCast_inj, S11b]) ?_
            intro i hib
            rcases Nat.lt_or_ge i f.1.length with hi1 | hi1
            · have hi2 : i < mo.1.length := by omega
              have hcg : mo.1[i] = f.1[i] := by
                have := g2 i hi1
                rw [List.getElem?_eq_getElem hi1, List.getElem?_eq_getElem hi2] at this
                exact Option.some.inj this
              have hsame := run_49 V_T f.1[i] f.1[i] (s2.2.2 f.1[i] (List.getElem_mem _))
              rw [decide_eq_true rfl] at hsame
              simp -dsimp -implicitDefEqProofs (maxSteps := 1000000) (disch := omega) [condP_pos, condP_neg, optP_pos, decide_eq_true, decide_eq_false, wrap_i64, Int.natCast_inj, S11b, hi1, hi2, hcg, hsame, eGl]
              refine again (i + 1) (by omega) (by omega) ?_
              simp -dsimp -implicitDefEqProofs (maxSteps := 1000000) (disch := omega) [condP_pos, condP_neg, optP_pos, decide_eq_true, decide_eq_false, wrap_i64, Int.natCast_inj, S11b]
            · have hil : ¬ i < f.1.length := by omega
              simp -dsimp -implicitDefEqProofs (maxSteps := 1000000) (disch := omega) [condP_pos, condP_neg, optP_pos, decide_eq_true, decide_eq_false, wrap_i64, Int.natCast_inj, S11b, hil]
  · rw [decide_eq_false (by omega)] at hw
    simp -dsimp -implicitDefEqProofs (maxSteps := 1000000) (disch := omega) [condP_pos, condP_neg, optP_pos, decide_eq_true, decide_eq_false, wrap_i64, Int.natCast_inj, run_awake, hw]
end Go.Vai
