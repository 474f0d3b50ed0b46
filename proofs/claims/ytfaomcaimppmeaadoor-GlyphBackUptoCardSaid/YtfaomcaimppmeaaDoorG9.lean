/-
  What functions of layer 5 and of its reference compute: equations of the abstract run.
-/
import Derived.Test.YtfaomcaimppmeaaDoorGc
set_option linter.unusedVariables false
set_option linter.unusedSimpArgs false
set_option linter.unnecessarySimpa false
set_option linter.unusedSectionVars false
namespace Go.Vai
theorem gAcc_len : gAcc.length = 32 := rfl
theorem acc0 : List.take 2 (List.map AV.fz gAcc) = [u8 128, u8 191] := rfl
theorem acc1 : List.take 2 (List.drop 2 (List.map AV.fz gAcc)) = [u8 160, u8 191] := rfl
theorem acc2 : List.take 2 (List.drop 4 (List.map AV.fz gAcc)) = [u8 128, u8 159] := rfl
theorem acc3 : List.take 2 (List.drop 6 (List.map AV.fz gAcc)) = [u8 144, u8 191] := rfl
theorem acc4 : List.take 2 (List.drop 8 (List.map AV.fz gAcc)) = [u8 128, u8 143] := rfl
theorem w241 : IntKind.i32.wrap 517543559168 = -2147483648 := by rfl
theorem fd241 : Int.fdiv (-2147483648) 2147483648 = -1 := by rfl
variable {v : Env} (hv : v.T = Tt) (hG0 : v.G 0 = some gFirst) (hG1 : v.G 1 = some gAcc)
include hv hG0 hG1
set_option maxHeartbeats 4000000 in
theorem slow_x1 (a : UInt8) (r : List UInt8) (hl : r.length < 1000000000) (ha : 128 ≤ a.toNat ∧ a.toNat < 194) : v.run 81 [bs (a :: r)] [] = some (.tup [i32 (decG (a :: r)).1, i64 (decG (a :: r)).2], []) := by
  refine run_wp (by rw [hv]; exact rfl) ?_
  have hK : firstF a.toNat = 241 := by unfold firstF; (repeat' split) <;> omega
  have ha' := u8_lt a
  have hd : decG (a :: r) = (65533, 1) := by simp only [decG]; (repeat' split) <;> first | rfl | (exfalso; omega) | (simp; omega)
  simp -dsimp -implicitDefEqProofs (maxSteps := 1000000) (disch := omega) [condP_pos, condP_neg, optP_pos, decide_eq_true, decide_eq_false, wrap_i64, Int.natCast_inj, hG0, hG1, gFirst_get, u8_lt, hK, gAcc_len, acc0, acc1, acc2, acc3, acc4, and63, and31, and15, and7, w241, fd241, sh3, sh4, sh5, or32_6, or32_12, or32_18, wrap_i32, wrap_u8, hd]
set_option maxHeartbeats 4000000 in
theorem slow_x2 (a : UInt8) (r : List UInt8) (hl : r.length < 1000000000) (ha : 245 ≤ a.toNat) : v.run 81 [bs (a :: r)] [] = some (.tup [i32 (decG (a :: r)).1, i64 (decG (a :: r)).2], []) := by
  refine run_wp (by rw [hv]; exact rfl) ?_
  have hK : firstF a.toNat = 241 := by unfold firstF; (repeat' split) <;> omega
  have ha' := u8_lt a
  have hd : decG (a :: r) = (65533, 1) := by simp only [decG]; (repeat' split) <;> first | rfl | (exfalso; omega) | (simp; omega)
  simp -dsimp -implicitDefEqProofs (maxSteps := 1000000) (disch := omega) [condP_pos, condP_neg, optP_pos, decide_eq_true, decide_eq_false, wrap_i64, Int.natCast_inj, hG0, hG1, gFirst_get, u8_lt, hK, gAcc_len, acc0, acc1, acc2, acc3, acc4, and63, and31, and15, and7, w241, fd241, sh3, sh4, sh5, or32_6, or32_12, or32_18, wrap_i32, wrap_u8, hd]
set_option maxHeartbeats 4000000 in
theorem slow_c2 (a : UInt8) (r : List UInt8) (hl : r.length < 1000000000) (ha : 194 ≤ a.toNat ∧ a.toNat < 224) : v.run 81 [bs (a :: r)] [] = some (.tup [i32 (decG (a :: r)).1, i64 (decG (a :: r)).2], []) := by
  refine run_wp (by rw [hv]; exact rfl) ?_
  have hK : firstF a.toNat = 2 := by unfold firstF; (repeat' split) <;> omega
  have ha' := u8_lt a
  cases r with
  | nil =>
    have hd : decG ([a]) = (65533, 1) := by simp only [decG]; (repeat' split) <;> first | rfl | (exfalso; omega) | (simp; omega)
    simp -dsimp -implicitDefEqProofs (maxSteps := 1000000) (disch := omega) [condP_pos, condP_neg, optP_pos, decide_eq_true, decide_eq_false, wrap_i64, Int.natCast_inj, hG0, hG1, gFirst_get, u8_lt, hK, gAcc_len, acc0, acc1, acc2, acc3, acc4, and63, and31, and15, and7, w241, fd241, sh3, sh4, sh5, or32_6, or32_12, or32_18, wrap_i32, wrap_u8, hd]
  | cons b r =>
    simp at hl
    have hb' := u8_lt b
    by_cases h1 : 128 ≤ b.toNat
    · by_cases h2 : b.toNat ≤ 191
      · have hd : decG (a :: b :: r) = (((a.toNat : Int) - 192) * 64 + ((b.toNat : Int) - 128), 2) := by simp only [decG]; (repeat' split) <;> first | rfl | (exfalso; omega) | (simp; omega)
        simp -dsimp -implicitDefEqProofs (maxSteps := 1000000) (disch := omega) [condP_pos, condP_neg, optP_pos, decide_eq_true, decide_eq_false, wrap_i64, Int.natCast_inj, hG0, hG1, gFirst_get, u8_lt, hK, gAcc_len, acc0, acc1, acc2, acc3, acc4, and63, and31, and15, and7, w241, fd241, sh3, sh4, sh5, or32_6, or32_12, or32_18, wrap_i32, wrap_u8, hd]
        omega
      · have hd : decG (a :: b :: r) = (65533, 1) := by simp only [decG]; (repeat' split) <;> first | rfl | (exfalso; omega) | (simp; omega)
        simp -dsimp -implicitDefEqProofs (maxSteps := 1000000) (disch := omega) [condP_pos, condP_neg, optP_pos, decide_eq_true, decide_eq_false, wrap_i64, Int.natCast_inj, hG0, hG1, gFirst_get, u8_lt, hK, gAcc_len, acc0, acc1, acc2, acc3, acc4, and63, and31, and15, and7, w241, fd241, sh3, sh4, sh5, or32_6, or32_12, or32_18, wrap_i32, wrap_u8, hd]
    · have hd : decG (a :: b :: r) = (65533, 1) := by simp only [decG]; (repeat' split) <;> first | rfl | (exfalso; omega) | (simp; omega)
      simp -dsimp -implicitDefEqProofs (maxSteps := 1000000) (disch := omega) [condP_pos, condP_neg, optP_pos, decide_eq_true, decide_eq_false, wrap_i64, Int.natCast_inj, hG0, hG1, gFirst_get, u8_lt, hK, gAcc_len, acc0, acc1, acc2, acc3, acc4, and63, and31, and15, and7, w241, fd241, sh3, sh4, sh5, or32_6, or32_12, or32_18, wrap_i32, wrap_u8, hd]
set_option maxHeartbeats 4000000 in
theorem slow_e0 (a : UInt8) (r : List UInt8) (hl : r.length < 1000000000) (ha : a.toNat = 224) : v.run 81 [bs (a :: r)] [] = some (.tup [i32 (decG (a :: r)).1, i64 (decG (a :: r)).2], []) := by
  refine run_wp (by rw [hv]; exact rfl) ?_
  have hK : firstF a.toNat = 19 := by unfold firstF; (repeat' split) <;> omega
  have ha' := u8_lt a
  cases r with
  | nil =>
    have hd : decG ([a]) = (65533, 1) := by simp only [decG]; (repeat' split) <;> first | rfl | (exfalso; omega) | (simp; omega)
    simp -dsimp -implicitDefEqProofs (maxSteps := 1000000) (disch := omega) [condP_pos, condP_neg, optP_pos, decide_eq_true, decide_eq_false, wrap_i64, Int.natCast_inj, hG0, hG1, gFirst_get, u8_lt, hK, gAcc_len, acc0, acc1, acc2, acc3, acc4, and63, and31, and15, and7, w241, fd241, sh3, sh4, sh5, or32_6, or32_12, or32_18, wrap_i32, wrap_u8, hd]
  | cons b r =>
    simp at hl
    have hb' := u8_lt b
    cases r with
    | nil =>
      have hd : decG ([a, b]) = (65533, 1) := by simp only [decG]; (repeat' split) <;> first | rfl | (exfalso; omega) | (simp; omega)
      simp -dsimp -implicitDefEqProofs (maxSteps := 1000000) (disch := omega) [condP_pos, condP_neg, optP_pos, decide_eq_true, decide_eq_false, wrap_i64, Int.natCast_inj, hG0, hG1, gFirst_get, u8_lt, hK, gAcc_len, acc0, acc1, acc2, acc3, acc4, and63, and31, and15, and7, w241, fd241, sh3, sh4, sh5, or32_6, or32_12, or32_18, wrap_i32, wrap_u8, hd]
    | cons c r =>
      simp at hl
      have hc' := u8_lt c
      by_cases h1 : 160 ≤ b.toNat ∧ b.toNat ≤ 191
      · by_cases h2 : 128 ≤ c.toNat ∧ c.toNat ≤ 191
        · have hd : decG (a :: b :: c :: r) = (((a.toNat : Int) - 224) * 4096 + ((b.toNat : Int) - 128) * 64 + ((c.toNat : Int) - 128), 3) := by simp only [decG]; (repeat' split) <;> first | rfl | (exfalso; omega) | (simp; omega)
          simp -dsimp -implicitDefEqProofs (maxSteps := 1000000) (disch := omega) [condP_pos, condP_neg, optP_pos, decide_eq_true, decide_eq_false, wrap_i64, Int.natCast_inj, hG0, hG1, gFirst_get, u8_lt, hK, gAcc_len, acc0, acc1, acc2, acc3, acc4, and63, and31, and15, and7, w241, fd241, sh3, sh4, sh5, or32_6, or32_12, or32_18, wrap_i32, wrap_u8, hd]
          omega
        · have hd : decG (a :: b :: c :: r) = (65533, 1) := by simp only [decG]; (repeat' split) <;> first | rfl | (exfalso; omega) | (simp; omega)
          by_cases h3 : 128 ≤ c.toNat <;> simp -dsimp -implicitDefEqProofs (maxSteps := 1000000) (disch := omega) [condP_pos, condP_neg, optP_pos, decide_eq_true, decide_eq_false, wrap_i64, Int.natCast_inj, hG0, hG1, gFirst_get, u8_lt, hK, gAcc_len, acc0, acc1, acc2, acc3, acc4, and63, and31, and15, and7, w241, fd241, sh3, sh4, sh5, or32_6, or32_12, or32_18, wrap_i32, wrap_u8, hd]
      · have hd : decG (a :: b :: c :: r) = (65533, 1) := by simp only [decG]; (repeat' split) <;> first | rfl | (exfalso; omega) | (simp; omega)
        by_cases h3 : 160 ≤ b.toNat <;> simp -dsimp -implicitDefEqProofs (maxSteps := 1000000) (disch := omega) [condP_pos, condP_neg, optP_pos, decide_eq_true, decide_eq_false, wrap_i64, Int.natCast_inj, hG0, hG1, gFirst_get, u8_lt, hK, gAcc_len, acc0, acc1, acc2, acc3, acc4, and63, and31, and15, and7, w241, fd241, sh3, sh4, sh5, or32_6, or32_12, or32_18, wrap_i32, wrap_u8, hd]
set_option maxHeartbeats 4000000 in
theorem slow_e1 (a : UInt8) (r : List UInt8) (hl : r.length < 1000000000) (ha : 225 ≤ a.toNat ∧ a.toNat < 237) : v.run 81 [bs (a :: r)] [] = some (.tup [i32 (decG (a :: r)).1, i64 (decG (a :: r)).2], []) := by
  refine run_wp (by rw [hv]; exact rfl) ?_
  have hK : firstF a.toNat = 3 := by unfold firstF; (repeat' split) <;> omega
  have ha' := u8_lt a
  cases r with
  | nil =>
    have hd : decG ([a]) = (65533, 1) := by simp only [decG]; (repeat' split) <;> first | rfl | (exfalso; omega) | (simp; omega)
    simp -dsimp -implicitDefEqProofs (maxSteps := 1000000) (disch := omega) [condP_pos, condP_neg, optP_pos, decide_eq_true, decide_eq_false, wrap_i64, Int.natCast_inj, hG0, hG1, gFirst_get, u8_lt, hK, gAcc_len, acc0, acc1, acc2, acc3, acc4, and63, and31, and15, and7, w241, fd241, sh3, sh4, sh5, or32_6, or32_12, or32_18, wrap_i32, wrap_u8, hd]
  | cons b r =>
    simp at hl
    have hb' := u8_lt b
    cases r with
    | nil =>
      have hd : decG ([a, b]) = (65533, 1) := by simp only [decG]; (repeat' split) <;> first | rfl | (exfalso; omega) | (simp; omega)
      simp -dsimp -implicitDefEqProofs (maxSteps := 1000000) (disch := omega) [condP_pos, condP_neg, optP_pos, decide_eq_true, decide_eq_false, wrap_i64, Int.natCast_inj, hG0, hG1, gFirst_get, u8_lt, hK, gAcc_len, acc0, acc1, acc2, acc3, acc4, and63, and31, and15, and7, w241, fd241, sh3, sh4, sh5, or32_6, or32_12, or32_18, wrap_i32, wrap_u8, hd]
    | cons c r =>
      simp at hl
      have hc' := u8_lt c
      by_cases h1 : 128 ≤ b.toNat ∧ b.toNat ≤ 191
      · by_cases h2 : 128 ≤ c.toNat ∧ c.toNat ≤ 191
        · have hd : decG (a :: b :: c :: r) = (((a.toNat : Int) - 224) * 4096 + ((b.toNat : Int) - 128) * 64 + ((c.toNat : Int) - 128), 3) := by simp only [decG]; (repeat' split) <;> first | rfl | (exfalso; omega) | (simp; omega)
          simp -dsimp -implicitDefEqProofs (maxSteps := 1000000) (disch := omega) [condP_pos, condP_neg, optP_pos, decide_eq_true, decide_eq_false, wrap_i64, Int.natCast_inj, hG0, hG1, gFirst_get, u8_lt, hK, gAcc_len, acc0, acc1, acc2, acc3, acc4, and63, and31, and15, and7, w241, fd241, sh3, sh4, sh5, or32_6, or32_12, or32_18, wrap_i32, wrap_u8, hd]
          omega
        · have hd : decG (a :: b :: c :: r) = (65533, 1) := by simp only [decG]; (repeat' split) <;> first | rfl | (exfalso; omega) | (simp; omega)
          by_cases h3 : 128 ≤ c.toNat <;> simp -dsimp -implicitDefEqProofs (maxSteps := 1000000) (disch := omega) [condP_pos, condP_neg, optP_pos, decide_eq_true, decide_eq_false, wrap_i64, Int.natCast_inj, hG0, hG1, gFirst_get, u8_lt, hK, gAcc_len, acc0, acc1, acc2, acc3, acc4, and63, and31, and15, and7, w241, fd241, sh3, sh4, sh5, or32_6, or32_12, or32_18, wrap_i32, wrap_u8, hd]
      · have hd : decG (a :: b :: c :: r) = (65533, 1) := by simp only [decG]; (repeat' split) <;> first | rfl | (exfalso; omega) | (simp; omega)
        by_cases h3 : 128 ≤ b.toNat <;> simp -dsimp -implicitDefEqProofs (maxSteps := 1000000) (disch := omega) [condP_pos, condP_neg, optP_pos, decide_eq_true, decide_eq_false, wrap_i64, Int.natCast_inj, hG0, hG1, gFirst_get, u8_lt, hK, gAcc_len, acc0, acc1, acc2, acc3, acc4, and63, and31, and15, and7, w241, fd241, sh3, sh4, sh5, or32_6, or32_12, or32_18, wrap_i32, wrap_u8, hd]
set_option maxHeartbeats 4000000 in
theorem slow_ed (a : UInt8) (r : List UInt8) (hl : r.length < 1000000000) (ha : a.toNat = 237) : v.run 81 [bs (a :: r)] [] = some (.tup [i32 (decG (a :: r)).1, i64 (decG (a :: r)).2], []) := by
  refine run_wp (by rw [hv]; exact rfl) ?_
  have hK : firstF a.toNat = 35 := by unfold firstF; (repeat' split) <;> omega
  have ha' := u8_lt a
  cases r with
  | nil =>
    have hd : decG ([a]) = (65533, 1) := by simp only [decG]; (repeat' split) <;> first | rfl | (exfalso; omega) | (simp; omega)
    simp -dsimp -implicitDefEqProofs (maxSteps := 1000000) (disch := omega) [condP_pos, condP_neg, optP_pos, decide_eq_true, decide_eq_false, wrap_i64, Int.natCast_inj, hG0, hG1, gFirst_get, u8_lt, hK, gAcc_len, acc0, acc1, acc2, acc3, acc4, and63, and31, and15, and7, w241, fd241, sh3, sh4, sh5, or32_6, or32_12, or32_18, wrap_i32, wrap_u8, hd]
  | cons b r =>
    simp at hl
    have hb' := u8_lt b
    cases r with
    | nil =>
      have hd : decG ([a, b]) = (65533, 1) := by simp only [decG]; (repeat' split) <;> first | rfl | (exfalso; omega) | (simp; omega)
      simp -dsimp -implicitDefEqProofs (maxSteps := 1000000) (disch := omega) [condP_pos, condP_neg, optP_pos, decide_eq_true, decide_eq_false, wrap_i64, Int.natCast_inj, hG0, hG1, gFirst_get, u8_lt, hK, gAcc_len, acc0, acc1, acc2, acc3, acc4, and63, and31, and15, and7, w241, fd241, sh3, sh4, sh5, or32_6, or32_12, or32_18, wrap_i32, wrap_u8, hd]
    | cons c r =>
      simp at hl
      have hc' := u8_lt c
      by_cases h1 : 128 ≤ b.toNat ∧ b.toNat ≤ 159
      · by_cases h2 : 128 ≤ c.toNat ∧ c.toNat ≤ 191
        · have hd : decG (a :: b :: c :: r) = (((a.toNat : Int) - 224) * 4096 + ((b.toNat : Int) - 128) * 64 + ((c.toNat : Int) - 128), 3) := by simp only [decG]; (repeat' split) <;> first | rfl | (exfalso; omega) | (simp; omega)
          simp -dsimp -implicitDefEqProofs (maxSteps := 1000000) (disch := omega) [condP_pos, condP_neg, optP_pos, decide_eq_true, decide_eq_false, wrap_i64, Int.natCast_inj, hG0, hG1, gFirst_get, u8_lt, hK, gAcc_len, acc0, acc1, acc2, acc3, acc4, and63, and31, and15, and7, w241, fd241, sh3, sh4, sh5, or32_6, or32_12, or32_18, wrap_i32, wrap_u8, hd]
          omega
        · have hd : decG (a :: b :: c :: r) = (65533, 1) := by simp only [decG]; (repeat' split) <;> first | rfl | (exfalso; omega) | (simp; omega)
          by_cases h3 : 128 ≤ c.toNat <;> simp -dsimp -implicitDefEqProofs (maxSteps := 1000000) (disch := omega) [condP_pos, condP_neg, optP_pos, decide_eq_true, decide_eq_false, wrap_i64, Int.natCast_inj, hG0, hG1, gFirst_get, u8_lt, hK, gAcc_len, acc0, acc1, acc2, acc3, acc4, and63, and31, and15, and7, w241, fd241, sh3, sh4, sh5, or32_6, or32_12, or32_18, wrap_i32, wrap_u8, hd]
      · have hd : decG (a :: b :: c :: r) = (65533, 1) := by simp only [decG]; (repeat' split) <;> first | rfl | (exfalso; omega) | (simp; omega)
        by_cases h3 : 128 ≤ b.toNat <;> simp -dsimp -implicitDefEqProofs (maxSteps := 1000000) (disch := omega) [condP_pos, condP_neg, optP_pos, decide_eq_true, decide_eq_false, wrap_i64, Int.natCast_inj, hG0, hG1, gFirst_get, u8_lt, hK, gAcc_len, acc0, acc1, acc2, acc3, acc4, and63, and31, and15, and7, w241, fd241, sh3, sh4, sh5, or32_6, or32_12, or32_18, wrap_i32, wrap_u8, hd]
set_option maxHeartbeats 4000000 in
theorem slow_ee (a : UInt8) (r : List UInt8) (hl : r.length < 1000000000) (ha : 238 ≤ a.toNat ∧ a.toNat < 240) : v.run 81 [bs (a :: r)] [] = some (.tup [i32 (decG (a :: r)).1, i64 (decG (a :: r)).2], []) := by
  refine run_wp (by rw [hv]; exact rfl) ?_
  have hK : firstF a.toNat = 3 := by unfold firstF; (repeat' split) <;> omega
  have ha' := u8_lt a
  cases r with
  | nil =>
    have hd : decG ([a]) = (65533, 1) := by simp only [decG]; (repeat' split) <;> first | rfl | (exfalso; omega) | (simp; omega)
    simp -dsimp -implicitDefEqProofs (maxSteps := 1000000) (disch := omega) [condP_pos, condP_neg, optP_pos, decide_eq_true, decide_eq_false, wrap_i64, Int.natCast_inj, hG0, hG1, gFirst_get, u8_lt, hK, gAcc_len, acc0, acc1, acc2, acc3, acc4, and63, and31, and15, and7, w241, fd241, sh3, sh4, sh5, or32_6, or32_12, or32_18, wrap_i32, wrap_u8, hd]
  | cons b r =>
    simp at hl
    have hb' := u8_lt b
    cases r with
    | nil =>
      have hd : decG ([a, b]) = (65533, 1) := by simp only [decG]; (repeat' split) <;> first | rfl | (exfalso; omega) | (simp; omega)
      simp -dsimp -implicitDefEqProofs (maxSteps := 1000000) (disch := omega) [condP_pos, condP_neg, optP_pos, decide_eq_true, decide_eq_false, wrap_i64, Int.natCast_inj, hG0, hG1, gFirst_get, u8_lt, hK, gAcc_len, acc0, acc1, acc2, acc3, acc4, and63, and31, and15, and7, w241, fd241, sh3, sh4, sh5, or32_6, or32_12, or32_18, wrap_i32, wrap_u8, hd]
    | cons c r =>
      simp at hl
      have hc' := u8_lt c
      by_cases h1 : 128 ≤ b.toNat ∧ b.toNat ≤ 191
      · by_cases h2 : 128 ≤ c.toNat ∧ c.toNat ≤ 191
        · have hd : decG (a :: b :: c :: r) = (((a.toNat : Int) - 224) * 4096 + ((b.toNat : Int) - 128) * 64 + ((c.toNat : Int) - 128), 3) := by simp only [decG]; (repeat' split) <;> first | rfl | (exfalso; omega) | (simp; omega)
          simp -dsimp -implicitDefEqProofs (maxSteps := 1000000) (disch := omega) [condP_pos, condP_neg, optP_pos, decide_eq_true, decide_eq_false, wrap_i64, Int.natCast_inj, hG0, hG1, gFirst_get, u8_lt, hK, gAcc_len, acc0, acc1, acc2, acc3, acc4, and63, and31, and15, and7, w241, fd241, sh3, sh4, sh5, or32_6, or32_12, or32_18, wrap_i32, wrap_u8, hd]
          omega
        · have hd : decG (a :: b :: c :: r) = (65533, 1) := by simp only [decG]; (repeat' split) <;> first | rfl | (exfalso; omega) | (simp; omega)
          by_cases h3 : 128 ≤ c.toNat <;> simp -dsimp -implicitDefEqProofs (maxSteps := 1000000) (disch := omega) [condP_pos, condP_neg, optP_pos, decide_eq_true, decide_eq_false, wrap_i64, Int.natCast_inj, hG0, hG1, gFirst_get, u8_lt, hK, gAcc_len, acc0, acc1, acc2, acc3, acc4, and63, and31, and15, and7, w241, fd241, sh3, sh4, sh5, or32_6, or32_12, or32_18, wrap_i32, wrap_u8, hd]
      · have hd : decG (a :: b :: c :: r) = (65533, 1) := by simp only [decG]; (repeat' split) <;> first | rfl | (exfalso; omega) | (simp; omega)
        by_cases h3 : 128 ≤ b.toNat <;> simp -dsimp -implicitDefEqProofs (maxSteps := 1000000) (disch := omega) [condP_pos, condP_neg, optP_pos, decide_eq_true, decide_eq_false, wrap_i64, Int.natCast_inj, hG0, hG1, gFirst_get, u8_lt, hK, gAcc_len, acc0, acc1, acc2, acc3, acc4, and63, and31, and15, and7, w241, fd241, sh3, sh4, sh5, or32_6, or32_12, or32_18, wrap_i32, wrap_u8, hd]
set_option maxHeartbeats 4000000 in
theorem slow_f0 (a : UInt8) (r : List UInt8) (hl : r.length < 1000000000) (ha : a.toNat = 240) : v.run 81 [bs (a :: r)] [] = some (.tup [i32 (decG (a :: r)).1, i64 (decG (a :: r)).2], []) := by
  refine run_wp (by rw [hv]; exact rfl) ?_
  have hK : firstF a.toNat = 52 := by unfold firstF; (repeat' split) <;> omega
  have ha' := u8_lt a
  cases r with
  | nil =>
    have hd : decG ([a]) = (65533, 1) := by simp only [decG]; (repeat' split) <;> first | rfl | (exfalso; omega) | (simp; omega)
    simp -dsimp -implicitDefEqProofs (maxSteps := 1000000) (disch := omega) [condP_pos, condP_neg, optP_pos, decide_eq_true, decide_eq_false, wrap_i64, Int.natCast_inj, hG0, hG1, gFirst_get, u8_lt, hK, gAcc_len, acc0, acc1, acc2, acc3, acc4, and63, and31, and15, and7, w241, fd241, sh3, sh4, sh5, or32_6, or32_12, or32_18, wrap_i32, wrap_u8, hd]
  | cons b r =>
    simp at hl
    have hb' := u8_lt b
    cases r with
    | nil =>
      have hd : decG ([a, b]) = (65533, 1) := by simp only [decG]; (repeat' split) <;> first | rfl | (exfalso; omega) | (simp; omega)
      simp -dsimp -implicitDefEqProofs (maxSteps := 1000000) (disch := omega) [condP_pos, condP_neg, optP_pos, decide_eq_true, decide_eq_false, wrap_i64, Int.natCast_inj, hG0, hG1, gFirst_get, u8_lt, hK, gAcc_len, acc0, acc1, acc2, acc3, acc4, and63, and31, and15, and7, w241, fd241, sh3, sh4, sh5, or32_6, or32_12, or32_18, wrap_i32, wrap_u8, hd]
    | cons c r =>
      simp at hl
      have hc' := u8_lt c
      cases r with
      | nil =>
        have hd : decG ([a, b, c]) = (65533, 1) := by simp only [decG]; (repeat' split) <;> first | rfl | (exfalso; omega) | (simp; omega)
        simp -dsimp -implicitDefEqProofs (maxSteps := 1000000) (disch := omega) [condP_pos, condP_neg, optP_pos, decide_eq_true, decide_eq_false, wrap_i64, Int.natCast_inj, hG0, hG1, gFirst_get, u8_lt, hK, gAcc_len, acc0, acc1, acc2, acc3, acc4, and63, and31, and15, and7, w241, fd241, sh3, sh4, sh5, or32_6, or32_12, or32_18, wrap_i32, wrap_u8, hd]
      | cons d r =>
        simp at hl
        have hd' := u8_lt d
        by_cases h1 : 144 ≤ b.toNat ∧ b.toNat ≤ 191
        · by_cases h2 : 128 ≤ c.toNat ∧ c.toNat ≤ 191
          · by_cases h4 : 128 ≤ d.toNat ∧ d.toNat ≤ 191
            · have hd : decG (a :: b :: c :: d :: r) = (((a.toNat : Int) - 240) * 262144 + ((b.toNat : Int) - 128) * 4096 + ((c.toNat : Int) - 128) * 64 + ((d.toNat : Int) - 128), 4) := by simp only [decG]; (repeat' split) <;> first | rfl | (exfalso; omega) | (simp; omega)
              simp -dsimp -implicitDefEqProofs (maxSteps := 1000000) (disch := omega) [condP_pos, condP_neg, optP_pos, decide_eq_true, decide_eq_false, wrap_i64, Int.natCast_inj, hG0, hG1, gFirst_get, u8_lt, hK, gAcc_len, acc0, acc1, acc2, acc3, acc4, and63, and31, and15, and7, w241, fd241, sh3, sh4, sh5, or32_6, or32_12, or32_18, wrap_i32, wrap_u8, hd]
              omega
            · have hd : decG (a :: b :: c :: d :: r) = (65533, 1) := by simp only [decG]; (repeat' split) <;> first | rfl | (exfalso; omega) | (simp; omega)
              by_cases h3 : 128 ≤ d.toNat <;> simp -dsimp -implicitDefEqProofs (maxSteps := 1000000) (disch := omega) [condP_pos, condP_neg, optP_pos, decide_eq_true, decide_eq_false, wrap_i64, Int.natCast_inj, hG0, hG1, gFirst_get, u8_lt, hK, gAcc_len, acc0, acc1, acc2, acc3, acc4, and63, and31, and15, and7, w241, fd241, sh3, sh4, sh5, or32_6, or32_12, or32_18, wrap_i32, wrap_u8, hd]
          · have hd : decG (a :: b :: c :: d :: r) = (65533, 1) := by simp only [decG]; (repeat' split) <;> first | rfl | (exfalso; omega) | (simp; omega)
            by_cases h3 : 128 ≤ c.toNat <;> simp -dsimp -implicitDefEqProofs (maxSteps := 1000000) (disch := omega) [condP_pos, condP_neg, optP_pos, decide_eq_true, decide_eq_false, wrap_i64, Int.natCast_inj, hG0, hG1, gFirst_get, u8_lt, hK, gAcc_len, acc0, acc1, acc2, acc3, acc4, and63, and31, and15, and7, w241, fd241, sh3, sh4, sh5, or32_6, or32_12, or32_18, wrap_i32, wrap_u8, hd]
        · have hd : decG (a :: b :: c :: d :: r) = (65533, 1) := by simp only [decG]; (repeat' split) <;> first | rfl | (exfalso; omega) | (simp; omega)
          by_cases h3 : 144 ≤ b.toNat <;> simp -dsimp -implicitDefEqProofs (maxSteps := 1000000) (disch := omega) [condP_pos, condP_neg, optP_pos, decide_eq_true, decide_eq_false, wrap_i64, Int.natCast_inj, hG0, hG1, gFirst_get, u8_lt, hK, gAcc_len, acc0, acc1, acc2, acc3, acc4, and63, and31, and15, and7, w241, fd241, sh3, sh4, sh5, or32_6, or32_12, or32_18, wrap_i32, wrap_u8, hd]
set_option maxHeartbeats 4000000 in
theorem slow_f1 (a : UInt8) (r : List UInt8) (hl : r.length < 1000000000) (ha : 241 ≤ a.toNat ∧ a.toNat < 244) : v.run 81 [bs (a :: r)] [] = some (.tup [i32 (decG (a :: r)).1, i64 (decG (a :: r)).2], []) := by
  refine run_wp (by rw [hv]; exact rfl) ?_
  have hK : firstF a.toNat = 4 := by unfold firstF; (repeat' split) <;> omega
  have ha' := u8_lt a
  cases r with
  | nil =>
    have hd : decG ([a]) = (65533, 1) := by simp only [decG]; (repeat' split) <;> first | rfl | (exfalso; omega) | (simp; omega)
    simp -dsimp -implicitDefEqProofs (maxSteps := 1000000) (disch := omega) [condP_pos, condP_neg, optP_pos, decide_eq_true, decide_eq_false, wrap_i64, Int.natCast_inj, hG0, hG1, gFirst_get, u8_lt, hK, gAcc_len, acc0, acc1, acc2, acc3, acc4, and63, and31, and15, and7, w241, fd241, sh3, sh4, sh5, or32_6, or32_12, or32_18, wrap_i32, wrap_u8, hd]
  | cons b r =>
    simp at hl
    have hb' := u8_lt b
    cases r with
    | nil =>
      have hd : decG ([a, b]) = (65533, 1) := by simp only [decG]; (repeat' split) <;> first | rfl | (exfalso; omega) | (simp; omega)
      simp -dsimp -implicitDefEqProofs (maxSteps := 1000000) (disch := omega) [condP_pos, condP_neg, optP_pos, decide_eq_true, decide_eq_false, wrap_i64, Int.natCast_inj, hG0, hG1, gFirst_get, u8_lt, hK, gAcc_len, acc0, acc1, acc2, acc3, acc4, and63, and31, and15, and7, w241, fd241, sh3, sh4, sh5, or32_6, or32_12, or32_18, wrap_i32, wrap_u8, hd]
    | cons c r =>
      simp at hl
      have hc' := u8_lt c
      cases r with
      | nil =>
        have hd : decG ([a, b, c]) = (65533, 1) := by simp only [decG]; (repeat' split) <;> first | rfl | (exfalso; omega) | (simp; omega)
        simp -dsimp -implicitDefEqProofs (maxSteps := 1000000) (disch := omega) [condP_pos, condP_neg, optP_pos, decide_eq_true, decide_eq_false, wrap_i64, Int.natCast_inj, hG0, hG1, gFirst_get, u8_lt, hK, gAcc_len, acc0, acc1, acc2, acc3, acc4, and63, and31, and15, and7, w241, fd241, sh3, sh4, sh5, or32_6, or32_12, or32_18, wrap_i32, wrap_u8, hd]
      | cons d r =>
        simp at hl
        have hd' := u8_lt d
        by_cases h1 : 128 ≤ b.toNat ∧ b.toNat ≤ 191
        · by_cases h2 : 128 ≤ c.toNat ∧ c.toNat ≤ 191
          · by_cases h4 : 128 ≤ d.toNat ∧ d.toNat ≤ 191
            · have hd : decG (a :: b :: c :: d :: r) = (((a.toNat : Int) - 240) * 262144 + ((b.toNat : Int) - 128) * 4096 + ((c.toNat : Int) - 128) * 64 + ((d.toNat : Int) - 128), 4) := by simp only [decG]; (repeat' split) <;> first | rfl | (exfalso; omega) | (simp; omega)
              simp -dsimp -implicitDefEqProofs (maxSteps := 1000000) (disch := omega) [condP_pos, condP_neg, optP_pos, decide_eq_true, decide_eq_false, wrap_i64, Int.natCast_inj, hG0, hG1, gFirst_get, u8_lt, hK, gAcc_len, acc0, acc1, acc2, acc3, acc4, and63, and31, and15, and7, w241, fd241, sh3, sh4, sh5, or32_6, or32_12, or32_18, wrap_i32, wrap_u8, hd]
              omega
            · have hd : decG (a :: b :: c :: d :: r) = (65533, 1) := by simp only [decG]; (repeat' split) <;> first | rfl | (exfalso; omega) | (simp; omega)
              by_cases h3 : 128 ≤ d.toNat <;> simp -dsimp -implicitDefEqProofs (maxSteps := 1000000) (disch := omega) [condP_pos, condP_neg, optP_pos, decide_eq_true, decide_eq_false, wrap_i64, Int.natCast_inj, hG0, hG1, gFirst_get, u8_lt, hK, gAcc_len, acc0, acc1, acc2, acc3, acc4, and63, and31, and15, and7, w241, fd241, sh3, sh4, sh5, or32_6, or32_12, or32_18, wrap_i32, wrap_u8, hd]
          · have hd : decG (a :: b :: c :: d :: r) = (65533, 1) := by simp only [decG]; (repeat' split) <;> first | rfl | (exfalso; omega) | (simp; omega)
            by_cases h3 : 128 ≤ c.toNat <;> simp -dsimp -implicitDefEqProofs (maxSteps := 1000000) (disch := omega) [condP_pos, condP_neg, optP_pos, decide_eq_true, decide_eq_false, wrap_i64, Int.natCast_inj, hG0, hG1, gFirst_get, u8_lt, hK, gAcc_len, acc0, acc1, acc2, acc3, acc4, and63, and31, and15, and7, w241, fd241, sh3, sh4, sh5, or32_6, or32_12, or32_18, wrap_i32, wrap_u8, hd]
        · have hd : decG (a :: b :: c :: d :: r) = (65533, 1) := by simp only [decG]; (repeat' split) <;> first | rfl | (exfalso; omega) | (simp; omega)
          by_cases h3 : 128 ≤ b.toNat <;> simp -dsimp -implicitDefEqProofs (maxSteps := 1000000) (disch := omega) [condP_pos, condP_neg, optP_pos, decide_eq_true, decide_eq_false, wrap_i64, Int.natCast_inj, hG0, hG1, gFirst_get, u8_lt, hK, gAcc_len, acc0, acc1, acc2, acc3, acc4, and63, and31, and15, and7, w241, fd241, sh3, sh4, sh5, or32_6, or32_12, or32_18, wrap_i32, wrap_u8, hd]
set_option maxHeartbeats 4000000 in
theorem slow_f4 (a : UInt8) (r : List UInt8) (hl : r.length < 1000000000) (ha : a.toNat = 244) : v.run 81 [bs (a :: r)] [] = some (.tup [i32 (decG (a :: r)).1, i64 (decG (a :: r)).2], []) := by
  refine run_wp (by rw [hv]; exact rfl) ?_
  have hK : firstF a.toNat = 68 := by unfold firstF; (repeat' split) <;> omega
  have ha' := u8_lt a
  cases r with
  | nil =>
    have hd : decG ([a]) = (65533, 1) := by simp only [decG]; (repeat' split) <;> first | rfl | (exfalso; omega) | (simp; omega)
    simp -dsimp -implicitDefEqProofs (maxSteps := 1000000) (disch := omega) [condP_pos, condP_neg, optP_pos, decide_eq_true, decide_eq_false, wrap_i64, Int.natCast_inj, hG0, hG1, gFirst_get, u8_lt, hK, gAcc_len, acc0, acc1, acc2, acc3, acc4, and63, and31, and15, and7, w241, fd241, sh3, sh4, sh5, or32_6, or32_12, or32_18, wrap_i32, wrap_u8, hd]
  | cons b r =>
    simp at hl
    have hb' := u8_lt b
    cases r with
    | nil =>
      have hd : decG ([a, b]) = (65533, 1) := by simp only [decG]; (repeat' split) <;> first | rfl | (exfalso; omega) | (simp; omega)
      simp -dsimp -implicitDefEqProofs (maxSteps := 1000000) (disch := omega) [condP_pos, condP_neg, optP_pos, decide_eq_true, decide_eq_false, wrap_i64, Int.natCast_inj, hG0, hG1, gFirst_get, u8_lt, hK, gAcc_len, acc0, acc1, acc2, acc3, acc4, and63, and31, and15, and7, w241, fd241, sh3, sh4, sh5, or32_6, or32_12, or32_18, wrap_i32, wrap_u8, hd]
    | cons c r =>
      simp at hl
      have hc' := u8_lt c
      cases r with
      | nil =>
        have hd : decG ([a, b, c]) = (65533, 1) := by simp only [decG]; (repeat' split) <;> first | rfl | (exfalso; omega) | (simp; omega)
        simp -dsimp -implicitDefEqProofs (maxSteps := 1000000) (disch := omega) [condP_pos, condP_neg, optP_pos, decide_eq_true, decide_eq_false, wrap_i64, Int.natCast_inj, hG0, hG1, gFirst_get, u8_lt, hK, gAcc_len, acc0, acc1, acc2, acc3, acc4, and63, and31, and15, and7, w241, fd241, sh3, sh4, sh5, or32_6, or32_12, or32_18, wrap_i32, wrap_u8, hd]
      | cons d r =>
        simp at hl
        have hd' := u8_lt d
        by_cases h1 : 128 ≤ b.toNat ∧ b.toNat ≤ 143
        · by_cases h2 : 128 ≤ c.toNat ∧ c.toNat ≤ 191
          · by_cases h4 : 128 ≤ d.toNat ∧ d.toNat ≤ 191
            · have hd : decG (a :: b :: c :: d :: r) = (((a.toNat : Int) - 240) * 262144 + ((b.toNat : Int) - 128) * 4096 + ((c.toNat : Int) - 128) * 64 + ((d.toNat : Int) - 128), 4) := by simp only [decG]; (repeat' split) <;> first | rfl | (exfalso; omega) | (simp; omega)
              simp -dsimp -implicitDefEqProofs (maxSteps := 1000000) (disch := omega) [condP_pos, condP_neg, optP_pos, decide_eq_true, decide_eq_false, wrap_i64, Int.natCast_inj, hG0, hG1, gFirst_get, u8_lt, hK, gAcc_len, acc0, acc1, acc2, acc3, acc4, and63, and31, and15, and7, w241, fd241, sh3, sh4, sh5, or32_6, or32_12, or32_18, wrap_i32, wrap_u8, hd]
              omega
            · have hd : decG (a :: b :: c :: d :: r) = (65533, 1) := by simp only [decG]; (repeat' split) <;> first | rfl | (exfalso; omega) | (simp; omega)
              by_cases h3 : 128 ≤ d.toNat <;> simp -dsimp -implicitDefEqProofs (maxSteps := 1000000) (disch := omega) [condP_pos, condP_neg, optP_pos, decide_eq_true, decide_eq_false, wrap_i64, Int.natCast_inj, hG0, hG1, gFirst_get, u8_lt, hK, gAcc_len, acc0, acc1, acc2, acc3, acc4, and63, and31, and15, and7, w241, fd241, sh3, sh4, sh5, or32_6, or32_12, or32_18, wrap_i32, wrap_u8, hd]
          · have hd : decG (a :: b :: c :: d :: r) = (65533, 1) := by simp only [decG]; (repeat' split) <;> first | rfl | (exfalso; omega) | (simp; omega)
            by_cases h3 : 128 ≤ c.toNat <;> simp -dsimp -implicitDefEqProofs (maxSteps := 1000000) (disch := omega) [condP_pos, condP_neg, optP_pos, decide_eq_true, decide_eq_false, wrap_i64, Int.natCast_inj, hG0, hG1, gFirst_get, u8_lt, hK, gAcc_len, acc0, acc1, acc2, acc3, acc4, and63, and31, and15, and7, w241, fd241, sh3, sh4, sh5, or32_6, or32_12, or32_18, wrap_i32, wrap_u8, hd]
        · have hd : decG (a :: b :: c :: d :: r) = (65533, 1) := by simp only [decG]; (repeat' split) <;> first | rfl | (exfalso; omega) | (simp; omega)
          by_cases h3 : 128 ≤ b.toNat <;> simp -dsimp -implicitDefEqProofs (maxSteps := 1000000) (disch := omega) [condP_pos, condP_neg, optP_pos, decide_eq_true, decide_eq_false, wrap_i64, Int.natCast_inj, hG0, hG1, gFirst_get, u8_lt, hK, gAcc_len, acc0, acc1, acc2, acc3, acc4, and63, and31, and15, and7, w241, fd241, sh3, sh4, sh5, or32_6, or32_12, or32_18, wrap_i32, wrap_u8, hd]
theorem run_slow (a : UInt8) (r : List UInt8) (hl : r.length < 1000000000) (ha : 128 ≤ a.toNat) : v.run 81 [bs (a :: r)] [] = some (.tup [i32 (decG (a :: r)).1, i64 (decG (a :: r)).2], []) := by
  by_cases h1 : a.toNat < 194
  · exact slow_x1 hv hG0 hG1 a r hl ⟨ha, h1⟩
  by_cases h2 : a.toNat < 224
  · exact slow_c2 hv hG0 hG1 a r hl ⟨by omega, h2⟩
  by_cases h3 : a.toNat = 224
  · exact slow_e0 hv hG0 hG1 a r hl h3
  by_cases h4 : a.toNat < 237
  · exact slow_e1 hv hG0 hG1 a r hl ⟨by omega, h4⟩
  by_cases h5 : a.toNat = 237
  · exact slow_ed hv hG0 hG1 a r hl h5
  by_cases h6 : a.toNat < 240
  · exact slow_ee hv hG0 hG1 a r hl ⟨by omega, h6⟩
  by_cases h7 : a.toNat = 240
  · exact slow_f0 hv hG0 hG1 a r hl h7
  by_cases h8 : a.toNat < 244
  · exact slow_f1 hv hG0 hG1 a r hl ⟨by omega, h8⟩
  by_cases h9 : a.toNat = 244
  · exact slow_f4 hv hG0 hG1 a r hl h9
  · exact slow_x2 hv hG0 hG1 a r hl (by omega)
end Go.Vai
