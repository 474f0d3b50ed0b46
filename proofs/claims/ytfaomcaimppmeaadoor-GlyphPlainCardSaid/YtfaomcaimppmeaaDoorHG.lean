/-
  What functions of layer 5 and of its reference compute: equations of the abstract run.
-/
import Derived.Test.YtfaomcaimppmeaaDoorGd
set_option linter.unusedVariables false
set_option linter.unusedSimpArgs false
set_option linter.unnecessarySimpa false
set_option linter.unusedSectionVars false
namespace Go.Vai
/-! The reference's font that is always there. -/
set_option maxRecDepth 100000 in
def shapesL : List UInt8 := [50, 50, 50, 48, 50, 53, 53, 48, 48, 48, 53, 55, 53, 55, 53, 51, 54, 55, 51, 54, 53, 49, 50, 52, 53, 50, 53, 50, 53, 51, 50, 50, 48, 48, 48, 49, 50, 50, 50, 49, 52, 50, 50, 50, 52, 48, 53, 50, 53, 48, 48, 50, 55, 50, 48, 48, 48, 48, 50, 52, 48, 48, 55, 48, 48, 48, 48, 48, 48, 50, 49, 49, 50, 52, 52, 55, 53, 53, 53, 55, 50, 54, 50, 50, 55, 55, 49, 55, 52, 55, 55, 49, 55, 49, 55, 53, 53, 55, 49, 49, 55, 52, 55, 49, 55, 55, 52, 55, 53, 55, 55, 49, 49, 49, 49, 55, 53, 55, 53, 55, 55, 53, 55, 49, 55, 48, 50, 48, 50, 48, 48, 50, 48, 50, 52, 49, 50, 52, 50, 49, 48, 55, 48, 55, 48, 52, 50, 49, 50, 52, 55, 49, 50, 48, 50, 55, 53, 55, 52, 55, 50, 53, 55, 53, 53, 54, 53, 54, 53, 54, 51, 52, 52, 52, 51, 54, 53, 53, 53, 54, 55, 52, 54, 52, 55, 55, 52, 54, 52, 52, 51, 52, 53, 53, 51, 53, 53, 55, 53, 53, 55, 50, 50, 50, 55, 49, 49, 49, 53, 50, 53, 53, 54, 53, 53, 52, 52, 52, 52, 55, 53, 55, 55, 53, 53, 54, 53, 53, 53, 53, 50, 53, 53, 53, 50, 54, 53, 54, 52, 52, 50, 53, 53, 54, 51, 54, 53, 54, 53, 53, 51, 52, 50, 49, 54, 55, 50, 50, 50, 50, 53, 53, 53, 53, 55, 53, 53, 53, 53, 50, 53, 53, 55, 55, 53, 53, 53, 50, 53, 53, 53, 53, 50, 50, 50, 55, 49, 50, 52, 55, 54, 52, 52, 52, 54, 52, 52, 50, 49, 49, 51, 49, 49, 49, 51, 50, 53, 48, 48, 48, 48, 48, 48, 48, 55, 52, 50, 48, 48, 48, 50, 53, 55, 53, 53, 54, 53, 54, 53, 54, 51, 52, 52, 52, 51, 54, 53, 53, 53, 54, 55, 52, 54, 52, 55, 55, 52, 54, 52, 52, 51, 52, 53, 53, 51, 53, 53, 55, 53, 53, 55, 50, 50, 50, 55, 49, 49, 49, 53, 50, 53, 53, 54, 53, 53, 52, 52, 52, 52, 55, 53, 55, 55, 53, 53, 54, 53, 53, 53, 53, 50, 53, 53, 53, 50, 54, 53, 54, 52, 52, 50, 53, 53, 54, 51, 54, 53, 54, 53, 53, 51, 52, 50, 49, 54, 55, 50, 50, 50, 50, 53, 53, 53, 53, 55, 53, 53, 53, 53, 50, 53, 53, 55, 55, 53, 53, 53, 50, 53, 53, 53, 53, 50, 50, 50, 55, 49, 50, 52, 55, 51, 50, 54, 50, 51, 50, 50, 50, 50, 50, 54, 50, 51, 50, 54, 48, 51, 54, 48, 48]
set_option maxRecDepth 100000 in
theorem shapes_mk : ByteArray.mk #[50, 50, 50, 48, 50, 53, 53, 48, 48, 48, 53, 55, 53, 55, 53, 51, 54, 55, 51, 54, 53, 49, 50, 52, 53, 50, 53, 50, 53, 51, 50, 50, 48, 48, 48, 49, 50, 50, 50, 49, 52, 50, 50, 50, 52, 48, 53, 50, 53, 48, 48, 50, 55, 50, 48, 48, 48, 48, 50, 52, 48, 48, 55, 48, 48, 48, 48, 48, 48, 50, 49, 49, 50, 52, 52, 55, 53, 53, 53, 55, 50, 54, 50, 50, 55, 55, 49, 55, 52, 55, 55, 49, 55, 49, 55, 53, 53, 55, 49, 49, 55, 52, 55, 49, 55, 55, 52, 55, 53, 55, 55, 49, 49, 49, 49, 55, 53, 55, 53, 55, 55, 53, 55, 49, 55, 48, 50, 48, 50, 48, 48, 50, 48, 50, 52, 49, 50, 52, 50, 49, 48, 55, 48, 55, 48, 52, 50, 49, 50, 52, 55, 49, 50, 48, 50, 55, 53, 55, 52, 55, 50, 53, 55, 53, 53, 54, 53, 54, 53, 54, 51, 52, 52, 52, 51, 54, 53, 53, 53, 54, 55, 52, 54, 52, 55, 55, 52, 54, 52, 52, 51, 52, 53, 53, 51, 53, 53, 55, 53, 53, 55, 50, 50, 50, 55, 49, 49, 49, 53, 50, 53, 53, 54, 53, 53, 52, 52, 52, 52, 55, 53, 55, 55, 53, 53, 54, 53, 53, 53, 53, 50, 53, 53, 53, 50, 54, 53, 54, 52, 52, 50, 53, 53, 54, 51, 54, 53, 54, 53, 53, 51, 52, 50, 49, 54, 55, 50, 50, 50, 50, 53, 53, 53, 53, 55, 53, 53, 53, 53, 50, 53, 53, 55, 55, 53, 53, 53, 50, 53, 53, 53, 53, 50, 50, 50, 55, 49, 50, 52, 55, 54, 52, 52, 52, 54, 52, 52, 50, 49, 49, 51, 49, 49, 49, 51, 50, 53, 48, 48, 48, 48, 48, 48, 48, 55, 52, 50, 48, 48, 48, 50, 53, 55, 53, 53, 54, 53, 54, 53, 54, 51, 52, 52, 52, 51, 54, 53, 53, 53, 54, 55, 52, 54, 52, 55, 55, 52, 54, 52, 52, 51, 52, 53, 53, 51, 53, 53, 55, 53, 53, 55, 50, 50, 50, 55, 49, 49, 49, 53, 50, 53, 53, 54, 53, 53, 52, 52, 52, 52, 55, 53, 55, 55, 53, 53, 54, 53, 53, 53, 53, 50, 53, 53, 53, 50, 54, 53, 54, 52, 52, 50, 53, 53, 54, 51, 54, 53, 54, 53, 53, 51, 52, 50, 49, 54, 55, 50, 50, 50, 50, 53, 53, 53, 53, 55, 53, 53, 53, 53, 50, 53, 53, 55, 55, 53, 53, 53, 50, 53, 53, 53, 53, 50, 50, 50, 55, 49, 50, 52, 55, 51, 50, 54, 50, 51, 50, 50, 50, 50, 50, 54, 50, 51, 50, 54, 48, 51, 54, 48, 48] = mkB shapesL := rfl
def shapesOk : Bool := (List.range 94).all fun k => decide ((shapesL.drop (5 * k)).take 5 = digitsG (33 + (k : Int))) && (digitsG (33 + (k : Int))).all fun c => decide (48 ≤ c.toNat) && decide (c.toNat ≤ 55)
theorem shapes_ok : shapesOk = true := by kernel_rfl
theorem shapes_get (k row : Nat) (hk : k < 94) (hr : row < 5) : ∃ c, shapesL[5 * k + row]? = some c ∧ (digitsG (33 + (k : Int))).drop row = c :: (digitsG (33 + (k : Int))).drop (row + 1) ∧ 48 ≤ c.toNat ∧ c.toNat ≤ 55 := by
  have h := shapes_ok
  unfold shapesOk at h
  rw [List.all_eq_true] at h
  have h := h k (by simpa using hk)
  simp only [Bool.and_eq_true, decide_eq_true_eq, List.all_eq_true] at h
  obtain ⟨h1, h2⟩ := h
  have hl : (digitsG (33 + (k : Int))).length = 5 := digits_len _ (by omega)
  obtain ⟨c, hc⟩ : ∃ c, (digitsG (33 + (k : Int)))[row]? = some c := ⟨_, List.getElem?_eq_getElem (by omega)⟩
  refine ⟨c, ?_, ?_, h2 c (List.mem_of_getElem? hc)⟩
  · rw [← h1, List.getElem?_take, if_pos hr, List.getElem?_drop] at hc
    exact hc
  · obtain ⟨h3, h4⟩ := List.getElem?_eq_some_iff.1 hc
    rw [List.drop_eq_getElem_cons h3, h4]
theorem bits3 (c : UInt8) (h1 : 48 ≤ c.toNat) (h2 : c.toNat ≤ 55) : (bandI .i64 (Int.fdiv ((c.toNat : Int) - 48) 4) 1 = if bandI .u8 (IntKind.u8.wrap ((c.toNat : Int) - 48)) 4 = 0 then 0 else 1) ∧ (bandI .i64 (Int.fdiv ((c.toNat : Int) - 48) 2) 1 = if bandI .u8 (IntKind.u8.wrap ((c.toNat : Int) - 48)) 2 = 0 then 0 else 1) ∧ (bandI .i64 ((c.toNat : Int) - 48) 1 = if bandI .u8 (IntKind.u8.wrap ((c.toNat : Int) - 48)) 1 = 0 then 0 else 1) := by
  obtain ⟨n, hn⟩ : ∃ n, c.toNat = n := ⟨_, rfl⟩
  rw [hn] at h1 h2 ⊢
  have : n = 48 ∨ n = 49 ∨ n = 50 ∨ n = 51 ∨ n = 52 ∨ n = 53 ∨ n = 54 ∨ n = 55 := by omega
  rcases this with rfl | rfl | rfl | rfl | rfl | rfl | rfl | rfl <;> decide
section
variable {v : Env} (hv : v.T = Tt)
include hv
theorem run_rsquare (x y z w : Int) : v.run 70 [i64 x, i64 y, i64 z, i64 w] [] = some (rw_ ([(x, y), (z, y), (z, w), (x, w)].map ePt), []) := by
  refine run_wp (by rw [hv]; exact rfl) ?_
  simp -dsimp -implicitDefEqProofs (maxSteps := 1000000) (disch := omega) [condP_pos, condP_neg, optP_pos, decide_eq_true, decide_eq_false, wrap_i64, Int.natCast_inj, ePt]
def S43 (k : Nat) : St :=
  { sl := [(0, .bp 0 0), (2, .bp 1 0), (3, i64 k)],
    hp := [(0, some (.box [.emp, .emp])), (1, some (.box [.osl 2 3 0 (k + 2), .osl 3 2 0 (k + 1)])), (2, some (.arr 3 ((plainGl k).map eGl))), (3, some (.arr 2 ((plainRn k).map ePt)))], nx := 4 }
def T43 (k : Nat) (x : Nat × List Ol) : St :=
  { sl := [(0, .bp 0 0), (2, .bp 1 0), (3, i64 k), (4, .bp 4 0), (5, i64 x.1)],
    hp := [(0, some (.box [.emp, .emp])), (1, some (.box [.osl 2 3 0 (k + 2), .osl 3 2 0 (k + 1)])), (2, some (.arr 3 ((plainGl k).map eGl))), (3, some (.arr 2 ((plainRn k).map ePt))),
      (4, some (.box [i64 16, .osl 5 1 0 x.2.length, .emp])), (5, some (.arr 1 (x.2.map eOl)))], nx := 6 }
def U43 (k row : Nat) (c : UInt8) (x : Nat × List Ol) : St :=
  { sl := [(0, .bp 0 0), (2, .bp 1 0), (3, i64 k), (4, .bp 4 0), (5, i64 row), (6, i64 ((c.toNat : Int) - 48)), (7, i64 x.1)],
    hp := [(0, some (.box [.emp, .emp])), (1, some (.box [.osl 2 3 0 (k + 2), .osl 3 2 0 (k + 1)])), (2, some (.arr 3 ((plainGl k).map eGl))), (3, some (.arr 2 ((plainRn k).map ePt))),
      (4, some (.box [i64 16, .osl 5 1 0 x.2.length, .emp])), (5, some (.arr 1 (x.2.map eOl)))], nx := 6 }
set_option maxHeartbeats 4000000 in
theorem run_rplain : v.run 43 [] [] = some (aFont plainF, []) := by
  refine run_wp (by rw [hv]; exact rfl) ?_
  rw [shapes_mk]
  simp -dsimp -implicitDefEqProofs (maxSteps := 1000000) (disch := omega) [condP_pos, condP_neg, optP_pos, decide_eq_true, decide_eq_false, wrap_i64, Int.natCast_inj, run_rsquare hv]
  refine wp_inv S43 (fun k => k ≤ 94) (fun k => 94 - k) 0 (by simp) (by simp -dsimp -implicitDefEqProofs (maxSteps := 1000000) (disch := omega) [condP_pos, condP_neg, optP_pos, decide_eq_true, decide_eq_false, wrap_i64, Int.natCast_inj, S43, plainGl, plainRn, eGl, ePt, eOl, sqG]) ?_
  intro k hk
  by_cases h94 : k = 94
  · subst h94
    simp -dsimp -implicitDefEqProofs (maxSteps := 1000000) (disch := omega) [condP_pos, condP_neg, optP_pos, decide_eq_true, decide_eq_false, wrap_i64, Int.natCast_inj, S43]
    exact ⟨List.take_of_length_le (by simp), List.take_of_length_le (by simp)⟩
  · have hdl := digits_len (33 + k) (by omega)
    simp -dsimp -implicitDefEqProofs (maxSteps := 1000000) (disch := omega) [condP_pos, condP_neg, optP_pos, decide_eq_true, decide_eq_false, wrap_i64, Int.natCast_inj, S43]
    refine wp_inv (T43 k) (fun x => x.1 ≤ 5 ∧ x.2 ++ outG x.1 ((digitsG (33 + k)).drop x.1) = outG 0 (digitsG (33 + k))) (fun x => 5 - x.1) (0, []) (by simp) (by simp -dsimp -implicitDefEqProofs (maxSteps := 1000000) (disch := omega) [condP_pos, condP_neg, optP_pos, decide_eq_true, decide_eq_false, wrap_i64, Int.natCast_inj, T43]; exact ⟨List.take_of_length_le (by simp), List.take_of_length_le (by simp)⟩) ?_
    rintro ⟨row, acc⟩ ⟨d1, d2⟩
    simp only at d1 d2
    have hal : acc.length ≤ 1000 := by
      have h1 := outG_len 0 (digitsG (33 + k))
      have h2 := congrArg List.length d2
      rw [List.length_append] at h2
      omega
    by_cases h5 : row = 5
    · subst h5
      have hdn : (digitsG (33 + (k : Int))).drop 5 = [] := List.drop_eq_nil_of_le (by omega)
      rw [hdn] at d2
      simp only [outG, List.append_nil] at d2
      simp -dsimp -implicitDefEqProofs (maxSteps := 1000000) (disch := omega) [condP_pos, condP_neg, optP_pos, decide_eq_true, decide_eq_false, wrap_i64, Int.natCast_inj, T43]
      refine again (k + 1) (by omega) (by omega) ?_
      simp -dsimp -implicitDefEqProofs (maxSteps := 1000000) (disch := omega) [condP_pos, condP_neg, optP_pos, decide_eq_true, decide_eq_false, wrap_i64, Int.natCast_inj, S43, plainGl_succ, plainRn_succ, glyphG, ← d2, eGl, ePt]
      exact ⟨List.take_of_length_le (by simp), List.take_of_length_le (by simp)⟩
    · obtain ⟨c, g1, g2, g3, g4⟩ := shapes_get k row (by omega) (by omega)
      obtain ⟨b1, b2, b3⟩ := bits3 c g3 g4
      rw [g2] at d2
      simp only [outG] at d2
      have tn : ((5 : Int) * k + row).toNat = 5 * k + row := by omega
      simp -dsimp -implicitDefEqProofs (maxSteps := 1000000) (disch := omega) [condP_pos, condP_neg, optP_pos, decide_eq_true, decide_eq_false, wrap_i64, Int.natCast_inj, T43, g1, tn, wrap_u8]
      refine wp_inv (U43 k row c) (fun x => x.1 ≤ 3 ∧ x.2 = acc ++ (if x.1 = 0 then [] else if x.1 = 1 then colSq row c 0 4 else if x.1 = 2 then colSq row c 0 4 ++ colSq row c 1 2 else rowG row c)) (fun x => 3 - x.1) (0, acc) (by simp) (by simp -dsimp -implicitDefEqProofs (maxSteps := 1000000) (disch := omega) [condP_pos, condP_neg, optP_pos, decide_eq_true, decide_eq_false, wrap_i64, Int.natCast_inj, U43]; exact ⟨List.take_of_length_le (by simp), List.take_of_length_le (by simp)⟩) ?_
      rintro ⟨j, w⟩ ⟨e1, e2⟩
      simp only at e1 e2
      have hwl : w.length ≤ 1003 := by
        have h1 := colSq_len row c 0 4
        have h2 := colSq_len row c 1 2
        have h3 := rowG_len row c
        rw [e2]
        simp only [List.length_append]
        (repeat' split) <;> (try simp only [List.length_append, List.length_nil]) <;> omega
      have hj : j = 0 ∨ j = 1 ∨ j = 2 ∨ j = 3 := by omega
      rcases hj with rfl | rfl | rfl | rfl
      · by_cases hb : bandI .u8 (IntKind.u8.wrap ((c.toNat : Int) - 48)) 4 = 0
        · rw [if_pos hb] at b1
          simp -dsimp -implicitDefEqProofs (maxSteps := 1000000) (disch := omega) [condP_pos, condP_neg, optP_pos, decide_eq_true, decide_eq_false, wrap_i64, Int.natCast_inj, U43, binS_and, b1]
          refine again (1, w) (by simp [e2, colSq, hb]) (by simp) ?_
          simp -dsimp -implicitDefEqProofs (maxSteps := 1000000) (disch := omega) [condP_pos, condP_neg, optP_pos, decide_eq_true, decide_eq_false, wrap_i64, Int.natCast_inj, U43]
        · rw [if_neg hb] at b1
          simp -dsimp -implicitDefEqProofs (maxSteps := 1000000) (disch := omega) [condP_pos, condP_neg, optP_pos, decide_eq_true, decide_eq_false, wrap_i64, Int.natCast_inj, U43, binS_and, b1, run_rsquare hv]
          refine again (1, w ++ [sqG 0 (4 * row) 4 4]) (by simp [e2, colSq, hb]) (by simp) ?_
          simp -dsimp -implicitDefEqProofs (maxSteps := 1000000) (disch := omega) [condP_pos, condP_neg, optP_pos, decide_eq_true, decide_eq_false, wrap_i64, Int.natCast_inj, U43, eOl, sqG]
          done
      · by_cases hb : bandI .u8 (IntKind.u8.wrap ((c.toNat : Int) - 48)) 2 = 0
        · rw [if_pos hb] at b2
          simp -dsimp -implicitDefEqProofs (maxSteps := 1000000) (disch := omega) [condP_pos, condP_neg, optP_pos, decide_eq_true, decide_eq_false, wrap_i64, Int.natCast_inj, U43, binS_and, b2]
          refine again (2, w) (by simp [e2, colSq, hb]) (by simp) ?_
          simp -dsimp -implicitDefEqProofs (maxSteps := 1000000) (disch := omega) [condP_pos, condP_neg, optP_pos, decide_eq_true, decide_eq_false, wrap_i64, Int.natCast_inj, U43]
        · rw [if_neg hb] at b2
          simp -dsimp -implicitDefEqProofs (maxSteps := 1000000) (disch := omega) [condP_pos, condP_neg, optP_pos, decide_eq_true, decide_eq_false, wrap_i64, Int.natCast_inj, U43, binS_and, b2, run_rsquare hv]
          refine again (2, w ++ [sqG 4 (4 * row) 4 4]) (by simp [e2, colSq, hb]) (by simp) ?_
          simp -dsimp -implicitDefEqProofs (maxSteps := 1000000) (disch := omega) [condP_pos, condP_neg, optP_pos, decide_eq_true, decide_eq_false, wrap_i64, Int.natCast_inj, U43, eOl, sqG]
          done
      · by_cases hb : bandI .u8 (IntKind.u8.wrap ((c.toNat : Int) - 48)) 1 = 0
        · rw [if_pos hb] at b3
          simp -dsimp -implicitDefEqProofs (maxSteps := 1000000) (disch := omega) [condP_pos, condP_neg, optP_pos, decide_eq_true, decide_eq_false, wrap_i64, Int.natCast_inj, U43, binS_and, b3]
          refine again (3, w) (by simp [e2, colSq, rowG, hb]) (by simp) ?_
          simp -dsimp -implicitDefEqProofs (maxSteps := 1000000) (disch := omega) [condP_pos, condP_neg, optP_pos, decide_eq_true, decide_eq_false, wrap_i64, Int.natCast_inj, U43]
        · rw [if_neg hb] at b3
          simp -dsimp -implicitDefEqProofs (maxSteps := 1000000) (disch := omega) [condP_pos, condP_neg, optP_pos, decide_eq_true, decide_eq_false, wrap_i64, Int.natCast_inj, U43, binS_and, b3, run_rsquare hv]
          refine again (3, w ++ [sqG 8 (4 * row) 4 4]) (by simp [e2, colSq, rowG, hb]) (by simp) ?_
          simp -dsimp -implicitDefEqProofs (maxSteps := 1000000) (disch := omega) [condP_pos, condP_neg, optP_pos, decide_eq_true, decide_eq_false, wrap_i64, Int.natCast_inj, U43, eOl, sqG]
          done
      · simp only [show ¬ (3 : Nat) = 0 by decide, show ¬ (3 : Nat) = 1 by decide, show ¬ (3 : Nat) = 2 by decide, if_false] at e2
        simp -dsimp -implicitDefEqProofs (maxSteps := 1000000) (disch := omega) [condP_pos, condP_neg, optP_pos, decide_eq_true, decide_eq_false, wrap_i64, Int.natCast_inj, U43]
        refine again (row + 1, w) ⟨by simp only; omega, by simp only; rw [e2, List.append_assoc]; exact d2⟩ (by simp only; omega) ?_
        simp -dsimp -implicitDefEqProofs (maxSteps := 1000000) (disch := omega) [condP_pos, condP_neg, optP_pos, decide_eq_true, decide_eq_false, wrap_i64, Int.natCast_inj, T43]
end
end Go.Vai
