/-
  The law of moved outlines is true wherever it is run.
-/
import Derived.Test.YtfaomcaimppmeaaDoorGD
set_option linter.unusedVariables false
set_option linter.unusedSimpArgs false
set_option linter.unnecessarySimpa false
set_option linter.unusedSectionVars false
namespace Go.Vai
def S6 (a b : Int) (x : List Ol × List Ol × Nat) : St :=
  { sl := [(0, rw_ ((x.1 ++ x.2.1).map eOl)), (1, i64 a), (2, i64 b), (7, bo true), (8, i64 x.2.2), (9, i64 x.1.length)], hp := [], nx := 0 }
theorem szOls_mem {o : Ol} : ∀ {l : List Ol}, o ∈ l → o.length ≤ szOls l
  | [], h => by simp at h
  | p :: r, h => by
    simp only [szOls]
    rcases List.mem_cons.1 h with rfl | h
    · omega
    · have := szOls_mem h; omega
theorem szOls_app (a b : List Ol) : szOls (a ++ b) = szOls a + szOls b := by
  induction a with
  | nil => simp [szOls]
  | cons o r ih => simp [szOls, ih]; omega
set_option maxHeartbeats 1000000 in
theorem law_moved (l : List Ol) (a b : Int) (h1 : l.length ≤ 140737488351232) (h2 : ∀ o ∈ l, o.length ≤ 140737488351232) : V.run 6 [rw_ (l.map eOl), i64 a, i64 b] [] = some (bo true, []) := by
  refine run_wp (by rw [V_T]; exact rfl) ?_
  simp -dsimp -implicitDefEqProofs (disch := omega) [condP_pos, condP_neg, optP_pos, decide_eq_true, decide_eq_false, wrap_i64, Int.natCast_inj, run_awake]
  refine wp_inv (S6 a b) (fun x => x.1 ++ x.2.1 = l ∧ x.2.2 = l.length + szOls x.1 ∧ x.2.2 ≤ 300000000000000) (fun x => x.2.1.length) ([], l, l.length) (by simp [szOls]; omega) (by simp -dsimp -implicitDefEqProofs (disch := omega) [condP_pos, condP_neg, optP_pos, decide_eq_true, decide_eq_false, wrap_i64, Int.natCast_inj, S6]) ?_
  rintro ⟨pre, rest, n⟩ ⟨e1, e2, e3⟩
  simp only at e1 e2 e3
  have hll : pre.length + rest.length = l.length := by rw [← e1]; simp
  by_cases hn : n ≤ 2000
  · cases rest with
    | nil =>
      have hl : l = pre := by simpa using e1.symm
      subst hl
      have hs : ∀ o ∈ l, o.length < 1000000000 := fun o ho => by have := szOls_mem ho; omega
      have hs2 : ∀ o ∈ l, o.length < 1000000000000 := fun o ho => by have := hs o ho; omega
      have c1 := run_copiedOls V_T l (by omega) hs
      have c2 := run_bounds29 V_T l (by omega) hs
      have c3 := run_bounds30 V_T l (by omega) hs
      have c4 := run_move V_T a b l (by omega) hs
      have c5 := run_scale V_T a b l (by omega) hs
      have c6 := run_rmove V_T a b l (by omega) hs
      have c7 := run_rscale V_T a b l (by omega) hs
      have c8 := run_sameOls V_T l l (by omega) hs2
      have hm : ∀ f : Pt → Pt, ∀ o ∈ l.map (List.map f), o.length < 1000000000000 := by
        intro f o ho
        obtain ⟨o', ho', rfl⟩ := List.mem_map.1 ho
        have := hs2 o' ho'
        simpa using this
      have c9 := run_sameOls V_T (l.map (List.map (movedP (cut a) (cut b)))) (l.map (List.map (movedP (cut a) (cut b)))) (by simp; omega) (hm _)
      have c10 := run_sameOls V_T (l.map (List.map (scaledP (cut a) (denG b)))) (l.map (List.map (scaledP (cut a) (denG b)))) (by simp; omega) (hm _)
      clear hs hs2 hm h2
      rw [decide_eq_true rfl] at c8 c9 c10
      generalize (l.map (List.map (movedP (cut a) (cut b)))).map eOl = M at *
      generalize (l.map (List.map (scaledP (cut a) (denG b)))).map eOl = N at *
      simp -dsimp -implicitDefEqProofs (disch := omega) [condP_pos, condP_neg, optP_pos, decide_eq_true, decide_eq_false, wrap_i64, Int.natCast_inj, S6, c1, c2, c3, c4, c5, c6, c7, c8, c9, c10, aBx]
    | cons o rest =>
      have ho := h2 o (by rw [← e1]; simp)
      simp at hll
      clear h2
      simp -dsimp -implicitDefEqProofs (disch := omega) [condP_pos, condP_neg, optP_pos, decide_eq_true, decide_eq_false, wrap_i64, Int.natCast_inj, S6, hn]
      refine again (pre ++ [o], rest, n + o.length) ?_ ?_ ?_
      · refine ⟨by simpa using e1, ?_, ?_⟩
        · simp only [szOls_app, szOls]; omega
        · simp only; omega
      · simp
      · simp -dsimp -implicitDefEqProofs (disch := omega) [condP_pos, condP_neg, optP_pos, decide_eq_true, decide_eq_false, wrap_i64, Int.natCast_inj, S6]
  · clear h2
    cases rest with
    | nil => simp -dsimp -implicitDefEqProofs (disch := omega) [condP_pos, condP_neg, optP_pos, decide_eq_true, decide_eq_false, wrap_i64, Int.natCast_inj, S6, hn]
    | cons o rest =>
      simp at hll
      simp -dsimp -implicitDefEqProofs (disch := omega) [condP_pos, condP_neg, optP_pos, decide_eq_true, decide_eq_false, wrap_i64, Int.natCast_inj, S6, hn]
end Go.Vai
