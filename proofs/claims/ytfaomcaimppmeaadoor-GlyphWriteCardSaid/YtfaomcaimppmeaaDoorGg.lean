/-
  What functions of layer 5 and of its reference compute: equations of the abstract run.
-/
import Derived.Test.YtfaomcaimppmeaaDoorGd
import Derived.Test.YtfaomcaimppmeaaDoorGD
set_option linter.unusedVariables false
set_option linter.unusedSimpArgs false
set_option linter.unnecessarySimpa false
set_option linter.unusedSectionVars false
namespace Go.Vai
theorem hidG_iff (r : Int) : hidG r = true ↔ (0 ≤ r ∧ r ≤ 31) ∨ (127 ≤ r ∧ r ≤ 159) ∨ r = 173 ∨ r = 847 ∨ r = 1564 ∨ r = 6158 ∨ (8203 ≤ r ∧ r ≤ 8207) ∨ (8234 ≤ r ∧ r ≤ 8238) ∨ (8288 ≤ r ∧ r ≤ 8303) ∨ (65024 ≤ r ∧ r ≤ 65039) ∨ r = 65279 ∨ (917504 ≤ r ∧ r ≤ 921599) := by
  simp only [hidG, spans, inSpan, List.any_cons, List.any_nil, Bool.or_eq_true, Bool.and_eq_true, decide_eq_true_eq, Bool.false_eq_true, or_false]
  omega
theorem tn1 (n : Nat) : ((n : Int) + 1).toNat = n + 1 := by omega
theorem tn2 (n : Nat) : ((n : Int) + 2).toNat = n + 2 := by omega
theorem tn3 (n : Nat) : ((n : Int) + 3).toNat = n + 3 := by omega
theorem get_off {α : Type} (l r : List α) (k : Nat) : (l ++ r)[l.length + k]? = r[k]? := by
  rw [List.getElem?_append_right (by omega)]; congr 1; omega
theorem get_off0 {α : Type} (l r : List α) : (l ++ r)[l.length]? = r[0]? := get_off l r 0
variable {v : Env} (hv : v.T = Tt)
include hv
set_option maxHeartbeats 1000000 in
theorem run_rhidden (r : Int) (h : 0 ≤ r) : v.run 17 [i64 r] [] = some (bo (hidG r), []) := by
  refine run_wp (by rw [hv]; exact rfl) ?_
  by_cases h0 : r < 32
  · have hh : hidG r = true := (hidG_iff r).2 (by omega)
    simp -dsimp -implicitDefEqProofs (maxSteps := 1000000) (disch := omega) [condP_pos, condP_neg, optP_pos, decide_eq_true, decide_eq_false, wrap_i64, Int.natCast_inj, run_within hv, hh]
  by_cases h1 : 127 ≤ r ∧ r ≤ 159
  · have hh : hidG r = true := (hidG_iff r).2 (by omega)
    simp -dsimp -implicitDefEqProofs (maxSteps := 1000000) (disch := omega) [condP_pos, condP_neg, optP_pos, decide_eq_true, decide_eq_false, wrap_i64, Int.natCast_inj, run_within hv, hh]
  by_cases h2 : r = 173
  · have hh : hidG r = true := (hidG_iff r).2 (by omega)
    simp -dsimp -implicitDefEqProofs (maxSteps := 1000000) (disch := omega) [condP_pos, condP_neg, optP_pos, decide_eq_true, decide_eq_false, wrap_i64, Int.natCast_inj, run_within hv, hh]
  by_cases h3 : r = 847
  · have hh : hidG r = true := (hidG_iff r).2 (by omega)
    simp -dsimp -implicitDefEqProofs (maxSteps := 1000000) (disch := omega) [condP_pos, condP_neg, optP_pos, decide_eq_true, decide_eq_false, wrap_i64, Int.natCast_inj, run_within hv, hh]
  by_cases h4 : r = 1564
  · have hh : hidG r = true := (hidG_iff r).2 (by omega)
    simp -dsimp -implicitDefEqProofs (maxSteps := 1000000) (disch := omega) [condP_pos, condP_neg, optP_pos, decide_eq_true, decide_eq_false, wrap_i64, Int.natCast_inj, run_within hv, hh]
  by_cases h5 : r = 6158
  · have hh : hidG r = true := (hidG_iff r).2 (by omega)
    simp -dsimp -implicitDefEqProofs (maxSteps := 1000000) (disch := omega) [condP_pos, condP_neg, optP_pos, decide_eq_true, decide_eq_false, wrap_i64, Int.natCast_inj, run_within hv, hh]
  by_cases h6 : 8203 ≤ r ∧ r ≤ 8207
  · have hh : hidG r = true := (hidG_iff r).2 (by omega)
    simp -dsimp -implicitDefEqProofs (maxSteps := 1000000) (disch := omega) [condP_pos, condP_neg, optP_pos, decide_eq_true, decide_eq_false, wrap_i64, Int.natCast_inj, run_within hv, hh]
  by_cases h7 : 8234 ≤ r ∧ r ≤ 8238
  · have hh : hidG r = true := (hidG_iff r).2 (by omega)
    simp -dsimp -implicitDefEqProofs (maxSteps := 1000000) (disch := omega) [condP_pos, condP_neg, optP_pos, decide_eq_true, decide_eq_false, wrap_i64, Int.natCast_inj, run_within hv, hh]
  by_cases h8 : 8288 ≤ r ∧ r ≤ 8303
  · have hh : hidG r = true := (hidG_iff r).2 (by omega)
    simp -dsimp -implicitDefEqProofs (maxSteps := 1000000) (disch := omega) [condP_pos, condP_neg, optP_pos, decide_eq_true, decide_eq_false, wrap_i64, Int.natCast_inj, run_within hv, hh]
  by_cases h9 : 65024 ≤ r ∧ r ≤ 65039
  · have hh : hidG r = true := (hidG_iff r).2 (by omega)
    simp -dsimp -implicitDefEqProofs (maxSteps := 1000000) (disch := omega) [condP_pos, condP_neg, optP_pos, decide_eq_true, decide_eq_false, wrap_i64, Int.natCast_inj, run_within hv, hh]
  by_cases h10 : r = 65279
  · have hh : hidG r = true := (hidG_iff r).2 (by omega)
    simp -dsimp -implicitDefEqProofs (maxSteps := 1000000) (disch := omega) [condP_pos, condP_neg, optP_pos, decide_eq_true, decide_eq_false, wrap_i64, Int.natCast_inj, run_within hv, hh]
  by_cases h11 : 917504 ≤ r ∧ r ≤ 921599
  · have hh : hidG r = true := (hidG_iff r).2 (by omega)
    simp -dsimp -implicitDefEqProofs (maxSteps := 1000000) (disch := omega) [condP_pos, condP_neg, optP_pos, decide_eq_true, decide_eq_false, wrap_i64, Int.natCast_inj, run_within hv, hh]
  have hh : hidG r = false := by
    cases e : hidG r with
    | false => rfl
    | true => have := (hidG_iff r).1 e; omega
  have k1 := run_within hv r 127 159
  have w1 : (decide (127 ≤ r) && decide (r ≤ 159)) = false := by rw [Bool.and_eq_false_iff]; simp only [decide_eq_false_iff_not]; omega
  rw [w1] at k1
  have k6 := run_within hv r 8203 8207
  have w6 : (decide (8203 ≤ r) && decide (r ≤ 8207)) = false := by rw [Bool.and_eq_false_iff]; simp only [decide_eq_false_iff_not]; omega
  rw [w6] at k6
  have k7 := run_within hv r 8234 8238
  have w7 : (decide (8234 ≤ r) && decide (r ≤ 8238)) = false := by rw [Bool.and_eq_false_iff]; simp only [decide_eq_false_iff_not]; omega
  rw [w7] at k7
  have k8 := run_within hv r 8288 8303
  have w8 : (decide (8288 ≤ r) && decide (r ≤ 8303)) = false := by rw [Bool.and_eq_false_iff]; simp only [decide_eq_false_iff_not]; omega
  rw [w8] at k8
  have k9 := run_within hv r 65024 65039
  have w9 : (decide (65024 ≤ r) && decide (r ≤ 65039)) = false := by rw [Bool.and_eq_false_iff]; simp only [decide_eq_false_iff_not]; omega
  rw [w9] at k9
  have k11 := run_within hv r 917504 921599
  have w11 : (decide (917504 ≤ r) && decide (r ≤ 921599)) = false := by rw [Bool.and_eq_false_iff]; simp only [decide_eq_false_iff_not]; omega
  rw [w11] at k11
  clear h1 h6 h7 h8 h9 h11
  simp -dsimp -implicitDefEqProofs (maxSteps := 1000000) (disch := omega) [condP_pos, condP_neg, optP_pos, decide_eq_true, decide_eq_false, wrap_i64, Int.natCast_inj, k1, k6, k7, k8, k9, k11, hh]
set_option maxHeartbeats 4000000 in
theorem rdec_a (pre : List UInt8) (a : UInt8) (r : List UInt8) (hl : pre.length + r.length < 100000000) (ha : a.toNat < 128) : v.run 55 [bs (pre ++ a :: r), i64 pre.length] [] = some (.tup [i64 (decG (a :: r)).1, i64 (decG (a :: r)).2], []) := by
  refine run_wp (by rw [hv]; exact rfl) ?_
  have ha' := u8_lt a
  have t1 := run_tail hv (pre ++ a :: r) (pre.length + 1) (by omega)
  have t2 := run_tail hv (pre ++ a :: r) (pre.length + 2) (by omega)
  have t3 := run_tail hv (pre ++ a :: r) (pre.length + 3) (by omega)
  rw [get_off] at t1 t2 t3
  have ix0 := get_off0 pre (a :: r)
  have ix1 := get_off pre (a :: r) 1
  have ix2 := get_off pre (a :: r) 2
  have ix3 := get_off pre (a :: r) 3
  simp only [Int.natCast_add, Int.cast_ofNat_Int, Int.natCast_one, List.getElem?_cons_zero, List.getElem?_cons_succ] at t1 t2 t3 ix0 ix1 ix2 ix3
  have hd : decG (a :: r) = ((a.toNat : Int), 1) := by simp [decG, ha]
  simp -dsimp -implicitDefEqProofs (maxSteps := 1000000) (disch := omega) [condP_pos, condP_neg, optP_pos, decide_eq_true, decide_eq_false, wrap_i64, Int.natCast_inj, tn1, tn2, tn3, ix0, ix1, ix2, ix3, t1, t2, t3, tlB, or64_6, or64_12, or64_18, wrap_u8, hd]
set_option maxHeartbeats 4000000 in
theorem rdec_x (pre : List UInt8) (a : UInt8) (r : List UInt8) (hl : pre.length + r.length < 100000000) (ha : (128 ≤ a.toNat ∧ a.toNat < 194) ∨ 245 ≤ a.toNat) : v.run 55 [bs (pre ++ a :: r), i64 pre.length] [] = some (.tup [i64 (decG (a :: r)).1, i64 (decG (a :: r)).2], []) := by
  refine run_wp (by rw [hv]; exact rfl) ?_
  have ha' := u8_lt a
  have t1 := run_tail hv (pre ++ a :: r) (pre.length + 1) (by omega)
  have t2 := run_tail hv (pre ++ a :: r) (pre.length + 2) (by omega)
  have t3 := run_tail hv (pre ++ a :: r) (pre.length + 3) (by omega)
  rw [get_off] at t1 t2 t3
  have ix0 := get_off0 pre (a :: r)
  have ix1 := get_off pre (a :: r) 1
  have ix2 := get_off pre (a :: r) 2
  have ix3 := get_off pre (a :: r) 3
  simp only [Int.natCast_add, Int.cast_ofNat_Int, Int.natCast_one, List.getElem?_cons_zero, List.getElem?_cons_succ] at t1 t2 t3 ix0 ix1 ix2 ix3
  have hd : decG (a :: r) = (65533, 1) := by simp only [decG]; (repeat' split) <;> first | rfl | (exfalso; omega) | (simp; omega)
  rcases ha with ha | ha <;> simp -dsimp -implicitDefEqProofs (maxSteps := 1000000) (disch := omega) [condP_pos, condP_neg, optP_pos, decide_eq_true, decide_eq_false, wrap_i64, Int.natCast_inj, tn1, tn2, tn3, ix0, ix1, ix2, ix3, t1, t2, t3, tlB, or64_6, or64_12, or64_18, wrap_u8, hd]
set_option maxHeartbeats 4000000 in
theorem rdec_c2 (pre : List UInt8) (a : UInt8) (r : List UInt8) (hl : pre.length + r.length < 100000000) (ha : 194 ≤ a.toNat ∧ a.toNat < 224) : v.run 55 [bs (pre ++ a :: r), i64 pre.length] [] = some (.tup [i64 (decG (a :: r)).1, i64 (decG (a :: r)).2], []) := by
  refine run_wp (by rw [hv]; exact rfl) ?_
  have ha' := u8_lt a
  have t1 := run_tail hv (pre ++ a :: r) (pre.length + 1) (by omega)
  have t2 := run_tail hv (pre ++ a :: r) (pre.length + 2) (by omega)
  have t3 := run_tail hv (pre ++ a :: r) (pre.length + 3) (by omega)
  rw [get_off] at t1 t2 t3
  have ix0 := get_off0 pre (a :: r)
  have ix1 := get_off pre (a :: r) 1
  have ix2 := get_off pre (a :: r) 2
  have ix3 := get_off pre (a :: r) 3
  simp only [Int.natCast_add, Int.cast_ofNat_Int, Int.natCast_one, List.getElem?_cons_zero, List.getElem?_cons_succ] at t1 t2 t3 ix0 ix1 ix2 ix3
  cases r with
  | nil =>
    simp only [List.getElem?_cons_zero, List.getElem?_cons_succ, List.getElem?_nil] at t1 t2 t3 ix1 ix2 ix3
    have hd : decG [a] = (65533, 1) := by simp only [decG]; (repeat' split) <;> first | rfl | (exfalso; omega) | (simp; omega)
    simp -dsimp -implicitDefEqProofs (maxSteps := 1000000) (disch := omega) [condP_pos, condP_neg, optP_pos, decide_eq_true, decide_eq_false, wrap_i64, Int.natCast_inj, tn1, tn2, tn3, ix0, ix1, ix2, ix3, t1, t2, t3, tlB, or64_6, or64_12, or64_18, wrap_u8, hd]
  | cons b r =>
    simp only [List.getElem?_cons_zero, List.getElem?_cons_succ, List.getElem?_nil] at t1 t2 t3 ix1 ix2 ix3
    have hb' := u8_lt b
    by_cases h1 : 128 ≤ b.toNat ∧ b.toNat < 192
    · have hd : decG (a :: b :: r) = (((a.toNat : Int) - 192) * 64 + ((b.toNat : Int) - 128), 2) := by simp only [decG]; (repeat' split) <;> first | rfl | (exfalso; omega) | (simp; omega)
      simp -dsimp -implicitDefEqProofs (maxSteps := 1000000) (disch := omega) [condP_pos, condP_neg, optP_pos, decide_eq_true, decide_eq_false, wrap_i64, Int.natCast_inj, tn1, tn2, tn3, ix0, ix1, ix2, ix3, t1, t2, t3, tlB, or64_6, or64_12, or64_18, wrap_u8, hd]
    · have hd : decG (a :: b :: r) = (65533, 1) := by simp only [decG]; (repeat' split) <;> first | rfl | (exfalso; omega) | (simp; omega)
      by_cases h3 : 128 ≤ b.toNat <;> simp -dsimp -implicitDefEqProofs (maxSteps := 1000000) (disch := omega) [condP_pos, condP_neg, optP_pos, decide_eq_true, decide_eq_false, wrap_i64, Int.natCast_inj, tn1, tn2, tn3, ix0, ix1, ix2, ix3, t1, t2, t3, tlB, or64_6, or64_12, or64_18, wrap_u8, hd]
set_option maxHeartbeats 4000000 in
theorem rdec_e (pre : List UInt8) (a : UInt8) (r : List UInt8) (hl : pre.length + r.length < 100000000) (ha : 224 ≤ a.toNat ∧ a.toNat < 240) : v.run 55 [bs (pre ++ a :: r), i64 pre.length] [] = some (.tup [i64 (decG (a :: r)).1, i64 (decG (a :: r)).2], []) := by
  refine run_wp (by rw [hv]; exact rfl) ?_
  have ha' := u8_lt a
  have t1 := run_tail hv (pre ++ a :: r) (pre.length + 1) (by omega)
  have t2 := run_tail hv (pre ++ a :: r) (pre.length + 2) (by omega)
  have t3 := run_tail hv (pre ++ a :: r) (pre.length + 3) (by omega)
  rw [get_off] at t1 t2 t3
  have ix0 := get_off0 pre (a :: r)
  have ix1 := get_off pre (a :: r) 1
  have ix2 := get_off pre (a :: r) 2
  have ix3 := get_off pre (a :: r) 3
  simp only [Int.natCast_add, Int.cast_ofNat_Int, Int.natCast_one, List.getElem?_cons_zero, List.getElem?_cons_succ] at t1 t2 t3 ix0 ix1 ix2 ix3
  cases r with
  | nil =>
    simp only [List.getElem?_cons_zero, List.getElem?_cons_succ, List.getElem?_nil] at t1 t2 t3 ix1 ix2 ix3
    have hd : decG [a] = (65533, 1) := by simp only [decG]; (repeat' split) <;> first | rfl | (exfalso; omega) | (simp; omega)
    simp -dsimp -implicitDefEqProofs (maxSteps := 1000000) (disch := omega) [condP_pos, condP_neg, optP_pos, decide_eq_true, decide_eq_false, wrap_i64, Int.natCast_inj, tn1, tn2, tn3, ix0, ix1, ix2, ix3, t1, t2, t3, tlB, or64_6, or64_12, or64_18, wrap_u8, hd]
  | cons b r =>
    simp only [List.getElem?_cons_zero, List.getElem?_cons_succ, List.getElem?_nil] at t1 t2 t3 ix1 ix2 ix3
    have hb' := u8_lt b
    cases r with
    | nil =>
      simp only [List.getElem?_cons_zero, List.getElem?_cons_succ, List.getElem?_nil] at t1 t2 t3 ix1 ix2 ix3
      have hd : decG [a, b] = (65533, 1) := by simp only [decG]; (repeat' split) <;> first | rfl | (exfalso; omega) | (simp; omega)
      by_cases h1 : 128 ≤ b.toNat <;> by_cases h2 : b.toNat < 192 <;> first | (exfalso; omega) | simp -dsimp -implicitDefEqProofs (maxSteps := 1000000) (disch := omega) [condP_pos, condP_neg, optP_pos, decide_eq_true, decide_eq_false, wrap_i64, Int.natCast_inj, tn1, tn2, tn3, ix0, ix1, ix2, ix3, t1, t2, t3, tlB, or64_6, or64_12, or64_18, wrap_u8, hd]
    | cons c r =>
      simp only [List.getElem?_cons_zero, List.getElem?_cons_succ, List.getElem?_nil] at t1 t2 t3 ix1 ix2 ix3
      have hc' := u8_lt c
      by_cases h1 : 128 ≤ b.toNat ∧ b.toNat < 192
      · by_cases h2 : 128 ≤ c.toNat ∧ c.toNat < 192
        · by_cases h3 : 2048 ≤ ((a.toNat : Int) - 224) * 4096 + ((b.toNat : Int) - 128) * 64 + ((c.toNat : Int) - 128)
          · by_cases h4 : ((a.toNat : Int) - 224) * 4096 + ((b.toNat : Int) - 128) * 64 + ((c.toNat : Int) - 128) < 55296
            · have hd : decG (a :: b :: c :: r) = (((a.toNat : Int) - 224) * 4096 + ((b.toNat : Int) - 128) * 64 + ((c.toNat : Int) - 128), 3) := by simp only [decG]; (repeat' split) <;> first | rfl | (exfalso; omega) | (simp; omega)
              simp -dsimp -implicitDefEqProofs (maxSteps := 1000000) (disch := omega) [condP_pos, condP_neg, optP_pos, decide_eq_true, decide_eq_false, wrap_i64, Int.natCast_inj, tn1, tn2, tn3, ix0, ix1, ix2, ix3, t1, t2, t3, tlB, or64_6, or64_12, or64_18, wrap_u8, hd]
            · by_cases h5 : ((a.toNat : Int) - 224) * 4096 + ((b.toNat : Int) - 128) * 64 + ((c.toNat : Int) - 128) ≤ 57343
              · have hd : decG (a :: b :: c :: r) = (65533, 1) := by simp only [decG]; (repeat' split) <;> first | rfl | (exfalso; omega) | (simp; omega)
                simp -dsimp -implicitDefEqProofs (maxSteps := 1000000) (disch := omega) [condP_pos, condP_neg, optP_pos, decide_eq_true, decide_eq_false, wrap_i64, Int.natCast_inj, tn1, tn2, tn3, ix0, ix1, ix2, ix3, t1, t2, t3, tlB, or64_6, or64_12, or64_18, wrap_u8, hd]
              · have hd : decG (a :: b :: c :: r) = (((a.toNat : Int) - 224) * 4096 + ((b.toNat : Int) - 128) * 64 + ((c.toNat : Int) - 128), 3) := by simp only [decG]; (repeat' split) <;> first | rfl | (exfalso; omega) | (simp; omega)
                simp -dsimp -implicitDefEqProofs (maxSteps := 1000000) (disch := omega) [condP_pos, condP_neg, optP_pos, decide_eq_true, decide_eq_false, wrap_i64, Int.natCast_inj, tn1, tn2, tn3, ix0, ix1, ix2, ix3, t1, t2, t3, tlB, or64_6, or64_12, or64_18, wrap_u8, hd]
          · have hd : decG (a :: b :: c :: r) = (65533, 1) := by simp only [decG]; (repeat' split) <;> first | rfl | (exfalso; omega) | (simp; omega)
            simp -dsimp -implicitDefEqProofs (maxSteps := 1000000) (disch := omega) [condP_pos, condP_neg, optP_pos, decide_eq_true, decide_eq_false, wrap_i64, Int.natCast_inj, tn1, tn2, tn3, ix0, ix1, ix2, ix3, t1, t2, t3, tlB, or64_6, or64_12, or64_18, wrap_u8, hd]
        · have hd : decG (a :: b :: c :: r) = (65533, 1) := by simp only [decG]; (repeat' split) <;> first | rfl | (exfalso; omega) | (simp; omega)
          by_cases h3 : 128 ≤ c.toNat <;> simp -dsimp -implicitDefEqProofs (maxSteps := 1000000) (disch := omega) [condP_pos, condP_neg, optP_pos, decide_eq_true, decide_eq_false, wrap_i64, Int.natCast_inj, tn1, tn2, tn3, ix0, ix1, ix2, ix3, t1, t2, t3, tlB, or64_6, or64_12, or64_18, wrap_u8, hd]
      · have hd : decG (a :: b :: c :: r) = (65533, 1) := by simp only [decG]; (repeat' split) <;> first | rfl | (exfalso; omega) | (simp; omega)
        by_cases h3 : 128 ≤ b.toNat <;> simp -dsimp -implicitDefEqProofs (maxSteps := 1000000) (disch := omega) [condP_pos, condP_neg, optP_pos, decide_eq_true, decide_eq_false, wrap_i64, Int.natCast_inj, tn1, tn2, tn3, ix0, ix1, ix2, ix3, t1, t2, t3, tlB, or64_6, or64_12, or64_18, wrap_u8, hd]
set_option maxHeartbeats 4000000 in
theorem rdec_f (pre : List UInt8) (a : UInt8) (r : List UInt8) (hl : pre.length + r.length < 100000000) (ha : 240 ≤ a.toNat ∧ a.toNat < 245) : v.run 55 [bs (pre ++ a :: r), i64 pre.length] [] = some (.tup [i64 (decG (a :: r)).1, i64 (decG (a :: r)).2], []) := by
  refine run_wp (by rw [hv]; exact rfl) ?_
  have ha' := u8_lt a
  have t1 := run_tail hv (pre ++ a :: r) (pre.length + 1) (by omega)
  have t2 := run_tail hv (pre ++ a :: r) (pre.length + 2) (by omega)
  have t3 := run_tail hv (pre ++ a :: r) (pre.length + 3) (by omega)
  rw [get_off] at t1 t2 t3
  have ix0 := get_off0 pre (a :: r)
  have ix1 := get_off pre (a :: r) 1
  have ix2 := get_off pre (a :: r) 2
  have ix3 := get_off pre (a :: r) 3
  simp only [Int.natCast_add, Int.cast_ofNat_Int, Int.natCast_one, List.getElem?_cons_zero, List.getElem?_cons_succ] at t1 t2 t3 ix0 ix1 ix2 ix3
  cases r with
  | nil =>
    simp only [List.getElem?_cons_zero, List.getElem?_cons_succ, List.getElem?_nil] at t1 t2 t3 ix1 ix2 ix3
    have hd : decG [a] = (65533, 1) := by simp only [decG]; (repeat' split) <;> first | rfl | (exfalso; omega) | (simp; omega)
    simp -dsimp -implicitDefEqProofs (maxSteps := 1000000) (disch := omega) [condP_pos, condP_neg, optP_pos, decide_eq_true, decide_eq_false, wrap_i64, Int.natCast_inj, tn1, tn2, tn3, ix0, ix1, ix2, ix3, t1, t2, t3, tlB, or64_6, or64_12, or64_18, wrap_u8, hd]
  | cons b r =>
    simp only [List.getElem?_cons_zero, List.getElem?_cons_succ, List.getElem?_nil] at t1 t2 t3 ix1 ix2 ix3
    have hb' := u8_lt b
    cases r with
    | nil =>
      simp only [List.getElem?_cons_zero, List.getElem?_cons_succ, List.getElem?_nil] at t1 t2 t3 ix1 ix2 ix3
      have hd : decG [a, b] = (65533, 1) := by simp only [decG]; (repeat' split) <;> first | rfl | (exfalso; omega) | (simp; omega)
      by_cases h1 : 128 ≤ b.toNat <;> by_cases h2 : b.toNat < 192 <;> first | (exfalso; omega) | simp -dsimp -implicitDefEqProofs (maxSteps := 1000000) (disch := omega) [condP_pos, condP_neg, optP_pos, decide_eq_true, decide_eq_false, wrap_i64, Int.natCast_inj, tn1, tn2, tn3, ix0, ix1, ix2, ix3, t1, t2, t3, tlB, or64_6, or64_12, or64_18, wrap_u8, hd]
    | cons c r =>
      simp only [List.getElem?_cons_zero, List.getElem?_cons_succ, List.getElem?_nil] at t1 t2 t3 ix1 ix2 ix3
      have hc' := u8_lt c
      cases r with
      | nil =>
        simp only [List.getElem?_cons_zero, List.getElem?_cons_succ, List.getElem?_nil] at t1 t2 t3 ix1 ix2 ix3
        have hd : decG [a, b, c] = (65533, 1) := by simp only [decG]; (repeat' split) <;> first | rfl | (exfalso; omega) | (simp; omega)
        by_cases h1 : 128 ≤ b.toNat <;> by_cases h2 : b.toNat < 192 <;> by_cases h3 : 128 ≤ c.toNat <;> by_cases h4 : c.toNat < 192 <;> first | (exfalso; omega) | simp -dsimp -implicitDefEqProofs (maxSteps := 1000000) (disch := omega) [condP_pos, condP_neg, optP_pos, decide_eq_true, decide_eq_false, wrap_i64, Int.natCast_inj, tn1, tn2, tn3, ix0, ix1, ix2, ix3, t1, t2, t3, tlB, or64_6, or64_12, or64_18, wrap_u8, hd]
      | cons d r =>
        simp only [List.getElem?_cons_zero, List.getElem?_cons_succ, List.getElem?_nil] at t1 t2 t3 ix1 ix2 ix3
        have hd' := u8_lt d
        by_cases h1 : 128 ≤ b.toNat ∧ b.toNat < 192
        · by_cases h2 : 128 ≤ c.toNat ∧ c.toNat < 192
          · by_cases h6 : 128 ≤ d.toNat ∧ d.toNat < 192
            · by_cases h3 : 65536 ≤ ((a.toNat : Int) - 240) * 262144 + ((b.toNat : Int) - 128) * 4096 + ((c.toNat : Int) - 128) * 64 + ((d.toNat : Int) - 128)
              · by_cases h4 : ((a.toNat : Int) - 240) * 262144 + ((b.toNat : Int) - 128) * 4096 + ((c.toNat : Int) - 128) * 64 + ((d.toNat : Int) - 128) ≤ 1114111
                · have hd : decG (a :: b :: c :: d :: r) = (((a.toNat : Int) - 240) * 262144 + ((b.toNat : Int) - 128) * 4096 + ((c.toNat : Int) - 128) * 64 + ((d.toNat : Int) - 128), 4) := by simp only [decG]; (repeat' split) <;> first | rfl | (exfalso; omega) | (simp; omega)
                  simp -dsimp -implicitDefEqProofs (maxSteps := 1000000) (disch := omega) [condP_pos, condP_neg, optP_pos, decide_eq_true, decide_eq_false, wrap_i64, Int.natCast_inj, tn1, tn2, tn3, ix0, ix1, ix2, ix3, t1, t2, t3, tlB, or64_6, or64_12, or64_18, wrap_u8, hd]
                · have hd : decG (a :: b :: c :: d :: r) = (65533, 1) := by simp only [decG]; (repeat' split) <;> first | rfl | (exfalso; omega) | (simp; omega)
                  simp -dsimp -implicitDefEqProofs (maxSteps := 1000000) (disch := omega) [condP_pos, condP_neg, optP_pos, decide_eq_true, decide_eq_false, wrap_i64, Int.natCast_inj, tn1, tn2, tn3, ix0, ix1, ix2, ix3, t1, t2, t3, tlB, or64_6, or64_12, or64_18, wrap_u8, hd]
              · have hd : decG (a :: b :: c :: d :: r) = (65533, 1) := by simp only [decG]; (repeat' split) <;> first | rfl | (exfalso; omega) | (simp; omega)
                simp -dsimp -implicitDefEqProofs (maxSteps := 1000000) (disch := omega) [condP_pos, condP_neg, optP_pos, decide_eq_true, decide_eq_false, wrap_i64, Int.natCast_inj, tn1, tn2, tn3, ix0, ix1, ix2, ix3, t1, t2, t3, tlB, or64_6, or64_12, or64_18, wrap_u8, hd]
            · have hd : decG (a :: b :: c :: d :: r) = (65533, 1) := by simp only [decG]; (repeat' split) <;> first | rfl | (exfalso; omega) | (simp; omega)
              by_cases h3 : 128 ≤ d.toNat <;> simp -dsimp -implicitDefEqProofs (maxSteps := 1000000) (disch := omega) [condP_pos, condP_neg, optP_pos, decide_eq_true, decide_eq_false, wrap_i64, Int.natCast_inj, tn1, tn2, tn3, ix0, ix1, ix2, ix3, t1, t2, t3, tlB, or64_6, or64_12, or64_18, wrap_u8, hd]
          · have hd : decG (a :: b :: c :: d :: r) = (65533, 1) := by simp only [decG]; (repeat' split) <;> first | rfl | (exfalso; omega) | (simp; omega)
            by_cases h3 : 128 ≤ c.toNat <;> simp -dsimp -implicitDefEqProofs (maxSteps := 1000000) (disch := omega) [condP_pos, condP_neg, optP_pos, decide_eq_true, decide_eq_false, wrap_i64, Int.natCast_inj, tn1, tn2, tn3, ix0, ix1, ix2, ix3, t1, t2, t3, tlB, or64_6, or64_12, or64_18, wrap_u8, hd]
        · have hd : decG (a :: b :: c :: d :: r) = (65533, 1) := by simp only [decG]; (repeat' split) <;> first | rfl | (exfalso; omega) | (simp; omega)
          by_cases h3 : 128 ≤ b.toNat <;> simp -dsimp -implicitDefEqProofs (maxSteps := 1000000) (disch := omega) [condP_pos, condP_neg, optP_pos, decide_eq_true, decide_eq_false, wrap_i64, Int.natCast_inj, tn1, tn2, tn3, ix0, ix1, ix2, ix3, t1, t2, t3, tlB, or64_6, or64_12, or64_18, wrap_u8, hd]
theorem run_rdecode (pre : List UInt8) (a : UInt8) (r : List UInt8) (hl : pre.length + r.length < 100000000) : v.run 55 [bs (pre ++ a :: r), i64 pre.length] [] = some (.tup [i64 (decG (a :: r)).1, i64 (decG (a :: r)).2], []) := by
  by_cases h1 : a.toNat < 128
  · exact rdec_a hv pre a r hl h1
  by_cases h2 : a.toNat < 194
  · exact rdec_x hv pre a r hl (.inl ⟨by omega, h2⟩)
  by_cases h3 : a.toNat < 224
  · exact rdec_c2 hv pre a r hl ⟨by omega, h3⟩
  by_cases h4 : a.toNat < 240
  · exact rdec_e hv pre a r hl ⟨by omega, h4⟩
  by_cases h5 : a.toNat < 245
  · exact rdec_f hv pre a r hl ⟨by omega, h5⟩
  · exact rdec_x hv pre a r hl (.inr (by omega))
end Go.Vai

set_option linter.unusedVariables false
set_option linter.unusedSimpArgs false
set_option linter.unnecessarySimpa false
set_option linter.unusedSectionVars false
namespace Go.Vai
variable {v : Env} (hv : v.T = Tt)
/-! The reference's runes. -/
include hv
def S16 (l : List UInt8) (x : List Int × List UInt8 × List UInt8) : St :=
  { sl := [(0, bs l), (3, .osl 0 1 0 x.1.length), (4, i64 x.2.1.length)], hp := [(0, some (.arr 1 (x.1.map eI)))], nx := 1 }
set_option maxHeartbeats 1000000 in
theorem run_rrunes (l : List UInt8) (hl : l.length < 100000000) : v.run 16 [bs l] [] = some (rw_ ((runesG l).map eI), []) := by
  refine run_wp (by rw [hv]; exact rfl) ?_
  simp -dsimp -implicitDefEqProofs (maxSteps := 1000000) (disch := omega) [condP_pos, condP_neg, optP_pos, decide_eq_true, decide_eq_false, wrap_i64, Int.natCast_inj]
  refine wp_inv (S16 l) (fun x => x.2.1 ++ x.2.2 = l ∧ x.1 ++ runesG x.2.2 = runesG l ∧ x.1.length ≤ x.2.1.length) (fun x => x.2.2.length) ([], [], l) (by simp) (by simp -dsimp -implicitDefEqProofs (maxSteps := 1000000) (disch := omega) [condP_pos, condP_neg, optP_pos, decide_eq_true, decide_eq_false, wrap_i64, Int.natCast_inj, S16]) ?_
  rintro ⟨acc, pre, rest⟩ ⟨h0, h1, h2⟩
  simp only at h0 h1 h2
  rw [← h1]
  have hlen0 : pre.length + rest.length = l.length := by rw [← h0]; simp
  cases rest with
  | nil => 
    simp only [List.length_nil] at hlen0
    simp -dsimp -implicitDefEqProofs (maxSteps := 1000000) (disch := omega) [condP_pos, condP_neg, optP_pos, decide_eq_true, decide_eq_false, wrap_i64, Int.natCast_inj, S16, runesG_nil]
  | cons a r =>
    simp only [List.length_cons] at hlen0
    have hd := run_rdecode hv pre a r (by omega)
    rw [h0] at hd
    have hp := decG_pos a r
    have hle := decG_le a r
    have hr := decG_rng a r
    rw [runesG_cons] at h1 ⊢
    generalize hD : decG (a :: r) = D at *
    obtain ⟨x, n⟩ := D
    simp only at hp hle hr h1 hd ⊢
    have hlen : ((a :: r).drop n).length = r.length + 1 - n := by simp
    have hsp : (pre ++ (a :: r).take n) ++ (a :: r).drop n = l := by rw [List.append_assoc, List.take_append_drop]; exact h0
    have hsl : (pre ++ (a :: r).take n).length = pre.length + n := by simp; omega
    by_cases hx : x = 9 ∨ x = 10 ∨ x = 13 ∨ x = 160
    · have hm : mapR x = 32 := by simp [mapR, hx]
      have hh : hidG 32 = false := by decide
      rw [hm, hh] at h1
      rw [hm, hh]
      have hrh := run_rhidden hv 32 (by omega)
      rw [hh] at hrh
      rcases hx with rfl | rfl | rfl | rfl <;>
      · simp -dsimp -implicitDefEqProofs (maxSteps := 1000000) (disch := omega) [condP_pos, condP_neg, optP_pos, decide_eq_true, decide_eq_false, wrap_i64, Int.natCast_inj, S16, hd, hrh]
        refine again (acc ++ [32], pre ++ (a :: r).take n, (a :: r).drop n) ?_ ?_ ?_
        · refine ⟨hsp, by simpa using h1, ?_⟩
          simp only [hsl, List.length_append, List.length_singleton]; omega
        · simp only [hlen]; simp; omega
        · simp -dsimp -implicitDefEqProofs (maxSteps := 1000000) (disch := omega) [condP_pos, condP_neg, optP_pos, decide_eq_true, decide_eq_false, wrap_i64, Int.natCast_inj, S16, eI, hsl]
    · have hm : mapR x = x := by simp [mapR, hx]
      rw [hm] at h1
      rw [hm]
      have hrh := run_rhidden hv x (by omega)
      have n1 : ¬ x = 9 := fun e => hx (by simp [e])
      have n2 : ¬ x = 10 := fun e => hx (by simp [e])
      have n3 : ¬ x = 13 := fun e => hx (by simp [e])
      have n4 : ¬ x = 160 := fun e => hx (by simp [e])
      cases hh : hidG x with
      | true =>
        rw [hh] at h1 hrh
        simp -dsimp -implicitDefEqProofs (maxSteps := 1000000) (disch := omega) [condP_pos, condP_neg, optP_pos, decide_eq_true, decide_eq_false, wrap_i64, Int.natCast_inj, S16, hd, hrh, n1, n2, n3, n4]
        refine again (acc, pre ++ (a :: r).take n, (a :: r).drop n) ?_ ?_ ?_
        · refine ⟨hsp, by simpa using h1, ?_⟩
          simp only [hsl]; omega
        · simp only [hlen]; simp; omega
        · simp -dsimp -implicitDefEqProofs (maxSteps := 1000000) (disch := omega) [condP_pos, condP_neg, optP_pos, decide_eq_true, decide_eq_false, wrap_i64, Int.natCast_inj, S16, eI, hsl]
      | false =>
        rw [hh] at h1 hrh
        simp -dsimp -implicitDefEqProofs (maxSteps := 1000000) (disch := omega) [condP_pos, condP_neg, optP_pos, decide_eq_true, decide_eq_false, wrap_i64, Int.natCast_inj, S16, hd, hrh, n1, n2, n3, n4]
        refine again (acc ++ [x], pre ++ (a :: r).take n, (a :: r).drop n) ?_ ?_ ?_
        · refine ⟨hsp, by simpa using h1, ?_⟩
          simp only [hsl, List.length_append, List.length_singleton]; omega
        · simp only [hlen]; simp; omega
        · simp -dsimp -implicitDefEqProofs (maxSteps := 1000000) (disch := omega) [condP_pos, condP_neg, optP_pos, decide_eq_true, decide_eq_false, wrap_i64, Int.natCast_inj, S16, eI, hsl]
omit hv
def S3 (a : List Int × List Int) : St :=
  { sl := [(3, bo true), (4, rw_ ((a.1 ++ a.2).map eI)), (5, rw_ ((a.1 ++ a.2).map eI)), (6, i64 a.1.length)], hp := [], nx := 0 }
theorem law_runes (l : List UInt8) : V.run 3 [bs l] [] = some (bo true, []) := by
  refine run_wp (by rw [V_T]; exact rfl) ?_
  by_cases h : l.length ≤ 4000
  · have h1 := run_runes V_T V_G0 V_G1 l (by omega)
    have h2 := run_rrunes V_T l (by omega)
    have h3 := runesG_len l
    generalize runesG l = R at *
    simp -dsimp -implicitDefEqProofs (maxSteps := 1000000) (disch := omega) [condP_pos, condP_neg, optP_pos, decide_eq_true, decide_eq_false, wrap_i64, Int.natCast_inj, run_awake, h, h1, h2]
    refine wp_inv S3 (fun a => a.1 ++ a.2 = R) (fun a => a.2.length) ([], R) (by simp) (by simp -dsimp -implicitDefEqProofs (maxSteps := 1000000) (disch := omega) [condP_pos, condP_neg, optP_pos, decide_eq_true, decide_eq_false, wrap_i64, Int.natCast_inj, S3]) ?_
    rintro ⟨pre, rest⟩ rfl
    cases rest with
    | nil => simp -dsimp -implicitDefEqProofs (maxSteps := 1000000) (disch := omega) [condP_pos, condP_neg, optP_pos, decide_eq_true, decide_eq_false, wrap_i64, Int.natCast_inj, S3]
    | cons p rest =>
      simp at h3
      simp -dsimp -implicitDefEqProofs (maxSteps := 1000000) (disch := omega) [condP_pos, condP_neg, optP_pos, decide_eq_true, decide_eq_false, wrap_i64, Int.natCast_inj, S3]
      refine again (pre ++ [p], rest) ?_ ?_ ?_
      · simp
      · simp
      · simp -dsimp -implicitDefEqProofs (maxSteps := 1000000) (disch := omega) [condP_pos, condP_neg, optP_pos, decide_eq_true, decide_eq_false, wrap_i64, Int.natCast_inj, S3]
  · simp -dsimp -implicitDefEqProofs (maxSteps := 1000000) (disch := omega) [condP_pos, condP_neg, optP_pos, decide_eq_true, decide_eq_false, wrap_i64, Int.natCast_inj, run_awake, h]
end Go.Vai
