/-
  What functions of layer 5 and of its reference compute: equations of the abstract run.
-/
import Derived.Test.YtfaomcaimppmeaaDoorGc
set_option linter.unusedVariables false
set_option linter.unusedSimpArgs false
set_option linter.unnecessarySimpa false
set_option linter.unusedSectionVars false
namespace Go.Vai
theorem gAcc_len : gAcc.length = 32 := rfl
theorem acc0 : List.take 2 (List.map AV.fz gAcc) = [u8 128, u8 191] := rfl
theorem acc1 : List.take 2 (List.drop 2 (List.map AV.fz gAcc)) = [u8 160, u8 191] := rfl
theorem acc2 : List.take 2 (List.drop 4 (List.map AV.fz gAcc)) = [u8 128, u8 159] := rfl
theorem acc3 : List.take 2 (List.drop 6 (List.map AV.fz gAcc)) = [u8 144, u8 191] := rfl
theorem acc4 : List.take 2 (List.drop 8 (List.map AV.fz gAcc)) = [u8 128, u8 143] := rfl
theorem w241 : IntKind.i32.wrap 517543559168 = -2147483648 := by rfl
theorem fd241 : Int.fdiv (-2147483648) 2147483648 = -1 := by rfl
variable {v : Env} (hv : v.T = Tt) (hG0 : v.G 0 = some gFirst) (hG1 : v.G 1 = some gAcc)
include hv hG0 hG1
set_option maxHeartbeats 4000000 in
theorem slow_x1 (a : UInt8) (r : List UInt8) (hl : r.length < 1000000000) (ha : 128 ≤ a.toNat ∧ a.toNat < 194) : v.run 81 [bs (a :: r)] [] = some (.tup [i32 (decG (a :: r)).1, i64 (decG (a :: r)).2], []) := by
  refine run_wp (by rw [hv]; exact rfl) ?_
  have hK : firstF a.toNat = 241 := by unfold firstF; (repeat' split) <;> omega
  have ha' := u8_lt a
  have hd : decG (a :: r) = (65533, 1) := by simp only [decG]; (repeat' split) <;> first | rfl | (exfalso; omega) | (simp; omega)
  simp -dsimp -implicitDefEqProofs (maxSteps := 1000000) (disch := omega) [condP_pos, condP_neg, optP_pos, decide_eq_true, decide_eq_false, wrap_i64, Int.natCast_inj, hG0, hG1, gFirst_get, u8_lt, hK, gAcc_len, acc0, acc1, acc2, acc3, acc4, and63, and31, and15, and7, w241, fd241, sh3, sh4, sh5, or32_6, or32_12, or32_18, wrap_i32, wrap_u8, hd]
set_option maxHeartbeats 4000000 in
theorem slow_x2 (a : UInt8) (r : List UInt8) (hl : r.length < 1000000000) (ha : 245 ≤ a.toNat) : v.run 81 [bs (a :: r)] [] = some (.tup [i32 (decG (a :: r)).1, i64 (decG (a :: r)).2], []) := by
  refine run_wp (by rw [hv]; exact rfl) ?_
  have hK : firstF a.toNat = 241 := by unfold firstF; (repeat' split) <;> omega
  have ha' := u8_lt a
  have hd : decG (a :: r) = (65533, 1) := by simp only [decG]; (repeat' split) <;> first | rfl | (exfalso; omega) | (simp; omega)
  simp -dsimp -implicitDefEqProofs (maxSteps := 1000000) (disch := omega) [condP_pos, condP_neg, optP_pos, decide_eq_true, decide_eq_false, wrap_i64, Int.natCast_inj, hG0, hG1, gFirst_get, u8_lt, hK, gAcc_len, acc0, acc1, acc2, acc3, acc4, and63, and31, and15, and7, w241, fd241, sh3, sh4, sh5, or32_6, or32_12, or32_18, wrap_i32, wrap_u8, hd]
set_option maxHeartbeats 4000000 in
theorem slow_c2 (a : UInt8) (r : List UInt8) (hl : r.length < 1000000000) (ha : 194 ≤ a.toNat ∧ a.toNat < 224) : v.run 81 [bs (a :: r)] [] = some (.tup [i32 (decG (a :: r)).1, i64 (decG (a :: r)).2], []) := by
  refine run_wp (by rw [hv]; exact rfl) ?_
  have hK : firstF a.toNat = 2 := by unfold firstF; (repeat' split) <;> omega
  have ha' := u8_lt a
  cases r with
  | nil =>
    have hd : decG ([a]) = (65533, 1) := by simp only [decG]; (repeat' split) <;> first | rfl | (exfalso; omega) | (simp; omega)
    simp -dsimp -implicitDefEqProofs (maxSteps := 1000000) (disch := omega) [condP_pos, condP_neg, optP_pos, decide_eq_true, decide_eq_false, wrap_i64, Int.natCast_inj, hG0, hG1, gFirst_get, u8_lt, hK, gAcc_len, acc0, acc1, acc2, acc3, acc4, and63, and31, and15, and7, w241, fd241, sh3, sh4, sh5, or32_6, or32_12, or32_18, wrap_i32, wrap_u8, hd]
  | cons b r =>
    simp at hl
    have hb' := u8_lt b
    by_cases h1 : 128 ≤ b.toNat
    · by_cases h2 : b.toNat ≤ 191
      · have hd : decG (a :: b :: r) = (((a.toNat : Int) - 192) * 64 + ((b.toNat : Int) - 128), 2) := by simp only [decG]; (repeat' split) <;> first | rfl | (exfalso; omega) | (simp; omega)
        simp -dsimp -implicitDefEqProofs (maxSteps := 1000000) (disch := omega) [condP_pos, condP_neg, optP_pos, decide_eq_true, decide_eq_false, wrap_i64, Int.natCast_inj, hG0, hG1, gFirst_get, u8_lt, hK, gAcc_len, acc0, acc1, acc2, acc3, acc4, and63, and31, and15, and7, w241, fd241, sh3, sh4, sh5, or32_6, or32_12, or32_18, wrap_i32, wrap_u8, hd]
        omega
      · have hd : decG (a :: b :: r) = (65533, 1) := by simp only [decG]; (repeat' split) <;> first | rfl | (exfalso; omega) | (simp; omega)
        simp -dsimp -implicitDefEqProofs (maxSteps := 1000000) (disch := omega) [condP_pos, condP_neg, optP_pos, decide_eq_true, decide_eq_false, wrap_i64, Int.natCast_inj, hG0, hG1, gFirst_get, u8_lt, hK, gAcc_len, acc0, acc1, acc2, acc3, acc4, and63, and31, and15, and7, w241, fd241, sh3, sh4, sh5, or32_6, or32_12, or32_18, wrap_i32, wrap_u8, hd]
    · have hd : decG (a :: b :: r) = (65533, 1) := by simp only [decG]; (repeat' split) <;> first | rfl | (exfalso; omega) | (simp; omega)
      simp -dsimp -implicitDefEqProofs (maxSteps := 1000000) (disch := omega) [condP_pos, condP_neg, optP_pos, decide_eq_true, decide_eq_false, wrap_i64, Int.natCast_inj, hG0, hG1, gFirst_get, u8_lt, hK, gAcc_len, acc0, acc1, acc2, acc3, acc4, and63, and31, and15, and7, w241, fd241, sh3, sh4, sh5, or32_6, or32_12, or32_18, wrap_i32, wrap_u8, hd]
set_option maxHeartbeats 4000000 in
theorem slow_e0 (a : UInt8) (r : List UInt8) (hl : r.length < 1000000000) (ha : a.toNat = 224) : v.run 81 [bs (a :: r)] [] = some (.tup [i32 (decG (a :: r)).1, i64 (decG (a :: r)).2], []) := by
  refine run_wp (by rw [hv]; exact rfl) ?_
  have hK : firstF a.toNat = 19 := by unfold firstF; (repeat' split) <;> omega
  have ha' := u8_lt a
  cases r with
  | nil =>
    have hd : decG ([a]) = (65533, 1) := by simp only [decG]; (repeat' split) <;> first | rfl | (exfalso; omega) | (simp; omega)
    simp -dsimp -implicitDefEqProofs (maxSteps := 1000000) (disch := omega) [condP_pos, condP_neg, optP_pos, decide_eq_true, decide_eq_false, wrap_i64, Int.natCast_inj, hG0, hG1, gFirst_get, u8_lt, hK, gAcc_len, acc0, acc1, acc2, acc3, acc4, and63, and31, and15, and7, w241, fd241, sh3, sh4, sh5, or32_6, or32_12, or32_18, wrap_i32, wrap_u8, hd]
  | cons b r =>
    simp at hl
    have hb' := u8_lt b
    cases r with
    | nil =>
      have hd : decG ([a, b]) = (65533, 1) := by simp only [decG]; (repeat' split) <;> first | rfl | (exfalso; omega) | (simp; omega)
      simp -dsimp -implicitDefEqProofs (maxSteps := 1000000) (disch := omega) [condP_pos, condP_neg, optP_pos, decide_eq_true, decide_eq_false, wrap_i64, Int.natCast_inj, hG0, hG1, gFirst_get, u8_lt, hK, gAcc_len, acc0, acc1, acc2, acc3, acc4, and63, and31, and15, and7, w241, fd241, sh3, sh4, sh5, or32_6, or32_12, or32_18, wrap_i32, wrap_u8, hd]
    | cons c r =>
      simp at hl
      have hc' := u8_lt c
      by_cases h1 : 160 ≤ b.toNat ∧ b.toNat ≤ 191
      · by_cases h2 : 128 ≤ c.toNat ∧ c.toNat ≤ 191
        · have hd : decG (a :: b :: c :: r) = (((a.toNat : Int) - 224) * 4096 + ((b.toNat : Int) - 128) * 64 + ((c.toNat : Int) - 128), 3) := by simp only [decG]; (repeat' split) <;> first | rfl | (exfalso; omega) | (simp; omega)
          simp -dsimp -implicitDefEqProofs (maxSteps := 1000000) (disch := omega) [condP_pos, condP_neg, optP_pos, decide_eq_true, decide_eq_false, wrap_i64, Int.natCast_inj, hG0, hG1, gFirst_get, u8_lt, hK, gAcc_len, acc0, acc1, acc2, acc3, acc4, and63, and31, and15, and7, w241, fd241, sh3, sh4, sh5, or32_6, or32_12, or32_18, wrap_i32, wrap_u8, hd]
          omega
        · have hd : decG (a :: b :: c :: r) = (65533, 1) := by simp only [decG]; (repeat' split) <;> first | rfl | (exfalso; omega) | (simp; omega)
          by_cases h3 : 128 ≤ c.toNat <;> simp -dsimp -implicitDefEqProofs (maxSteps := 1000000) (disch := omega) [condP_pos, condP_neg, optP_pos, decide_eq_true, decide_eq_false, wrap_i64, Int.natCast_inj, hG0, hG1, gFirst_get, u8_lt, hK, gAcc_len, acc0, acc1, acc2, acc3, acc4, and63, and31, and15, and7, w241, fd241, sh3, sh4, sh5, or32_6, or32_12, or32_18, wrap_i32, wrap_u8, hd]
      · have hd : decG (a :: b :: c :: r) = (65533, 1) := by simp only [decG]; (repeat' split) <;> first | rfl | (exfalso; omega) | (simp; omega)
        by_cases h3 : 160 ≤ b.toNat <;> simp -dsimp -implicitDefEqProofs (maxSteps := 1000000) (disch := omega) [condP_pos, condP_neg, optP_pos, decide_eq_true, decide_eq_false, wrap_i64, Int.natCast_inj, hG0, hG1, gFirst_get, u8_lt, hK, gAcc_len, acc0, acc1, acc2, acc3, acc4, and63, and31, and15, and7, w241, fd241, sh3, sh4, sh5, or32_6, or32_12, or32_18, wrap_i32, wrap_u8, hd]
set_option maxHeartbeats 4000000 in
theorem slow_e1 (a : UInt8) (r : List UInt8) (hl : r.length < 1000000000) (ha : 225 ≤ a.toNat ∧ a.toNat < 237) : v.run 81 [bs (a :: r)] [] = some (.tup [i32 (decG (a :: r)).1, i64 (decG (a :: r)).2], []) := by
  refine run_wp (by rw [hv]; exact rfl) ?_
  have hK : firstF a.toNat = 3 := by unfold firstF; (repeat' split) <;> omega
  have ha' := u8_lt a
  cases r with
  | nil =>
    have hd : decG ([a]) = (65533, 1) := by simp only [decG]; (repeat' split) <;> first | rfl | (exfalso; omega) | (simp; omega)
    simp -dsimp -implicitDefEqProofs (maxSteps := 1000000) (disch := omega) [condP_pos, condP_neg, optP_pos, decide_eq_true, decide_eq_false, wrap_i64, Int.natCast_inj, hG0, hG1, gFirst_get, u8_lt, hK, gAcc_len, acc0, acc1, acc2, acc3, acc4, and63, and31, and15, and7, w241, fd241, sh3, sh4, sh5, or32_6, or32_12, or32_18, wrap_i32, wrap_u8, hd]
  | cons b r =>
    simp at hl
    have hb' := u8_lt b
    cases r with
    | nil =>
      have hd : decG ([a, b]) = (65533, 1) := by simp only [decG]; (repeat' split) <;> first | rfl | (exfalso; omega) | (simp; omega)
      simp -dsimp -implicitDefEqProofs (maxSteps := 1000000) (disch := omega) [condP_pos, condP_neg, optP_pos, decide_eq_true, decide_eq_false, wrap_i64, Int.natCast_inj, hG0, hG1, gFirst_get, u8_lt, hK, gAcc_len, acc0, acc1, acc2, acc3, acc4, and63, and31, and15, and7, w241, fd241, sh3, sh4, sh5, or32_6, or32_12, or32_18, wrap_i32, wrap_u8, hd]
    | cons c r =>
      simp at hl
      have hc' := u8_lt c
      by_cases h1 : 128 ≤ b.toNat ∧ b.toNat ≤ 191
      · by_cases h2 : 128 ≤ c.toNat ∧ c.toNat ≤ 191
        · have hd : decG (a :: b :: c :: r) = (((a.toNat : Int) - 224) * 4096 + ((b.toNat : Int) - 128) * 64 + ((c.toNat : Int) - 128), 3) := by simp only [decG]; (repeat' split) <;> first | rfl | (exfalso; omega) | (simp; omega)
          simp -dsimp -implicitDefEqProofs (maxSteps := 1000000) (disch := omega) [condP_pos, condP_neg, optP_pos, decide_eq_true, decide_eq_false, wrap_i64, Int.natCast_inj, hG0, hG1, gFirst_get, u8_lt, hK, gAcc_len, acc0, acc1, acc2, acc3, acc4, and63, and31, and15, and7, w241, fd241, sh3, sh4, sh5, or32_6, or32_12, or32_18, wrap_i32, wrap_u8, hd]
          omega
        · have hd : decG (a :: b :: c :: r) = (65533, 1) := by simp only [decG]; (repeat' split) <;> first | rfl | (exfalso; omega) | (simp; omega)
          by_cases h3 : 128 ≤ c.toNat <;> simp -dsimp -implicitDefEqProofs (maxSteps := 1000000) (disch := omega) [condP_pos, condP_neg, optP_pos, decide_eq_true, decide_eq_false, wrap_i64, Int.natCast_inj, hG0, hG1, gFirst_get, u8_lt, hK, gAcc_len, acc0, acc1, acc2, acc3, acc4, and63, and31, and15, and7, w241, fd241, sh3, sh4, sh5, or32_6, or32_12, or32_18, wrap_i32, wrap_u8, hd]
      · have hd : decG (a :: b :: c :: r) = (65533, 1) := by simp only [decG]; (repeat' split) <;> first | rfl | (exfalso; omega) | (simp; omega)
        by_cases h3 : 128 ≤ b.toNat <;> simp -dsimp -implicitDefEqProofs (maxSteps := 1000000) (disch := omega) [condP_pos, condP_neg, optP_pos, decide_eq_true, decide_eq_false, wrap_i64, Int.natCast_inj, hG0, hG1, gFirst_get, u8_lt, hK, gAcc_len, acc0, acc1, acc2, acc3, acc4, and63, and31, and15, and7, w241, fd241, sh3, sh4, sh5, or32_6, or32_12, or32_18, wrap_i32, wrap_u8, hd]
set_option maxHeartbeats 4000000 in
theorem slow_ed (a : UInt8) (r : List UInt8) (hl : r.length < 1000000000) (ha : a.toNat = 237) : v.run 81 [bs (a :: r)] [] = some (.tup [i32 (decG (a :: r)).1, i64 (decG (a :: r)).2], []) := by
  refine run_wp (by rw [hv]; exact rfl) ?_
  have hK : firstF a.toNat = 35 := by unfold firstF; (repeat' split) <;> omega
  have ha' := u8_lt a
  cases r with
  | nil =>
    have hd : decG ([a]) = (65533, 1) := by simp only [decG]; (repeat' split) <;> first | rfl | (exfalso; omega) | (simp; omega)
    simp -dsimp -implicitDefEqProofs (maxSteps := 1000000) (disch := omega) [condP_pos, condP_neg, optP_pos, decide_eq_true, decide_eq_false, wrap_i64, Int.natCast_inj, hG0, hG1, gFirst_get, u8_lt, hK, gAcc_len, acc0, acc1, acc2, acc3, acc4, and63, and31, and15, and7, w241, fd241, sh3, sh4, sh5, or32_6, or32_12, or32_18, wrap_i32, wrap_u8, hd]
  | cons b r =>
    simp at hl
    have hb' := u8_lt b
    cases r with
    | nil =>
      have hd : decG ([a, b]) = (65533, 1) := by simp only [decG]; (repeat' split) <;> first | rfl | (exfalso; omega) | (simp; omega)
      simp -dsimp -implicitDefEqProofs (maxSteps := 1000000) (disch := omega) [condP_pos, condP_neg, optP_pos, decide_eq_true, decide_eq_false, wrap_i64, Int.natCast_inj, hG0, hG1, gFirst_get, u8_lt, hK, gAcc_len, acc0, acc1, acc2, acc3, acc4, and63, and31, and15, and7, w241, fd241, sh3, sh4, sh5, or32_6, or32_12, or32_18, wrap_i32, wrap_u8, hd]
    | cons c r =>
      simp at hl
      have hc' := u8_lt c
      by_cases h1 : 128 ≤ b.toNat ∧ b.toNat ≤ 159
      · by_cases h2 : 128 ≤ c.toNat ∧ c.toNat ≤ 191
        · have hd : decG (a :: b :: c :: r) = (((a.toNat : Int) - 224) * 4096 + ((b.toNat : Int) - 128) * 64 + ((c.toNat : Int) - 128), 3) := by simp only [decG]; (repeat' split) <;> first | rfl | (exfalso; omega) | (simp; omega)
          simp -dsimp -implicitDefEqProofs (maxSteps := 1000000) (disch := omega) [condP_pos, condP_neg, optP_pos, decide_eq_true, decide_eq_false, wrap_i64, Int.natCast_inj, hG0, hG1, gFirst_get, u8_lt, hK, gAcc_len, acc0, acc1, acc2, acc3, acc4, and63, and31, and15, and7, w241, fd241, sh3, sh4, sh5, or32_6, or32_12, or32_18, wrap_i32, wrap_u8, hd]
          omega
        · have hd : decG (a :: b :: c :: r) = (65533, 1) := by simp only [decG]; (repeat' split) <;> first | rfl | (exfalso; omega) | (simp; omega)
          by_cases h3 : 128 ≤ c.toNat <;> simp -dsimp -implicitDefEqProofs (maxSteps := 1000000) (disch := omega) [condP_pos, condP_neg, optP_pos, decide_eq_true, decide_eq_false, wrap_i64, Int.natCast_inj, hG0, hG1, gFirst_get, u8_lt, hK, gAcc_len, acc0, acc1, acc2, acc3, acc4, and63, and31, and15, and7, w241, fd241, sh3, sh4, sh5, or32_6, or32_12, or32_18, wrap_i32, wrap_u8, hd]
      · have hd : decG (a :: b :: c :: r) = (65533, 1) := by simp only [decG]; (repeat' split) <;> first | rfl | (exfalso; omega) | (simp; omega)
        by_cases h3 : 128 ≤ b.toNat <;> simp -dsimp -implicitDefEqProofs (maxSteps := 1000000) (disch := omega) [condP_pos, condP_neg, optP_pos, decide_eq_true, decide_eq_false, wrap_i64, Int.natCast_inj, hG0, hG1, gFirst_get, u8_lt, hK, gAcc_len, acc0, acc1, acc2, acc3, acc4, and63, and31, and15, and7, w241, fd241, sh3, sh4, sh5, or32_6, or32_12, or32_18, wrap_i32, wrap_u8, hd]
set_option maxHeartbeats 4000000 in
theorem slow_ee (a : UInt8) (r : List UInt8) (hl : r.length < 1000000000) (ha : 238 ≤ a.toNat ∧ a.toNat < 240) : v.run 81 [bs (a :: r)] [] = some (.tup [i32 (decG (a :: r)).1, i64 (decG (a :: r)).2], []) := by
  refine run_wp (by rw [hv]; exact rfl) ?_
  have hK : firstF a.toNat = 3 := by unfold firstF; (repeat' split) <;> omega
  have ha' := u8_lt a
  cases r with
  | nil =>
    have hd : decG ([a]) = (65533, 1) := by simp only [decG]; (repeat' split) <;> first | rfl | (exfalso; omega) | (simp; omega)
    simp -dsimp -implicitDefEqProofs (maxSteps := 1000000) (disch := omega) [condP_pos, condP_neg, optP_pos, decide_eq_true, decide_eq_false, wrap_i64, Int.natCast_inj, hG0, hG1, gFirst_get, u8_lt, hK, gAcc_len, acc0, acc1, acc2, acc3, acc4, and63, and31, and15, and7, w241, fd241, sh3, sh4, sh5, or32_6, or32_12, or32_18, wrap_i32, wrap_u8, hd]
  | cons b r =>
    simp at hl
    have hb' := u8_lt b
    cases r with
    | nil =>
      have hd : decG ([a, b]) = (65533, 1) := by simp only [decG]; (repeat' split) <;> first | rfl | (exfalso; omega) | (simp; omega)
      simp -dsimp -implicitDefEqProofs (maxSteps := 1000000) (disch := omega) [condP_pos, condP_neg, optP_pos, decide_eq_true, decide_eq_false, wrap_i64, Int.natCast_inj, hG0, hG1, gFirst_get, u8_lt, hK, gAcc_len, acc0, acc1, acc2, acc3, acc4, and63, and31, and15, and7, w241, fd241, sh3, sh4, sh5, or32_6, or32_12, or32_18, wrap_i32, wrap_u8, hd]
    | cons c r =>
      simp at hl
      have hc' := u8_lt c
      by_cases h1 : 128 ≤ b.toNat ∧ b.toNat ≤ 191
      · by_cases h2 : 128 ≤ c.toNat ∧ c.toNat ≤ 191
        · have hd : decG (a :: b :: c :: r) = (((a.toNat : Int) - 224) * 4096 + ((b.toNat : Int) - 128) * 64 + ((c.toNat : Int) - 128), 3) := by simp only [decG]; (repeat' split) <;> first | rfl | (exfalso; omega) | (simp; omega)
          simp -dsimp -implicitDefEqProofs (maxSteps := 1000000) (disch := omega) [condP_pos, condP_neg, optP_pos, decide_eq_true, decide_eq_false, wrap_i64, Int.natCast_inj, hG0, hG1, gFirst_get, u8_lt, hK, gAcc_len, acc0, acc1, acc2, acc3, acc4, and63, and31, and15, and7, w241, fd241, sh3, sh4, sh5, or32_6, or32_12, or32_18, wrap_i32, wrap_u8, hd]
          omega
        · have hd : decG (a :: b :: c :: r) = (65533, 1) := by simp only [decG]; (repeat' split) <;> first | rfl | (exfalso; omega) | (simp; omega)
          by_cases h3 : 128 ≤ c.toNat <;> simp -dsimp -implicitDefEqProofs (maxSteps := 1000000) (disch := omega) [condP_pos, condP_neg, optP_pos, decide_eq_true, decide_eq_false, wrap_i64, Int.natCast_inj, hG0, hG1, gFirst_get, u8_lt, hK, gAcc_len, acc0, acc1, acc2, acc3, acc4, and63, and31, and15, and7, w241, fd241, sh3, sh4, sh5, or32_6, or32_12, or32_18, wrap_i32, wrap_u8, hd]
      · have hd : decG (a :: b :: c :: r) = (65533, 1) := by simp only [decG]; (repeat' split) <;> first | rfl | (exfalso; omega) | (simp; omega)
        by_cases h3 : 128 ≤ b.toNat <;> simp -dsimp -implicitDefEqProofs (maxSteps := 1000000) (disch := omega) [condP_pos, condP_neg, optP_pos, decide_eq_true, decide_eq_false, wrap_i64, Int.natCast_inj, hG0, hG1, gFirst_get, u8_lt, hK, gAcc_len, acc0, acc1, acc2, acc3, acc4, and63, and31, and15, and7, w241, fd241, sh3, sh4, sh5, or32_6, or32_12, or32_18, wrap_i32, wrap_u8, hd]
set_option maxHeartbeats 4000000 in
theorem slow_f0 (a : UInt8) (r : List UInt8) (hl : r.length < 1000000000) (ha : a.toNat = 240) : v.run 81 [bs (a :: r)] [] = some (.tup [i32 (decG (a :: r)).1, i64 (decG (a :: r)).2], []) := by
  refine run_wp (by rw [hv]; exact rfl) ?_
  have hK : firstF a.toNat = 52 := by unfold firstF; (repeat' split) <;> omega
  have ha' := u8_lt a
  cases r with
  | nil =>
    have hd : decG ([a]) = (65533, 1) := by simp only [decG]; (repeat' split) <;> first | rfl | (exfalso; omega) | (simp; omega)
    simp -dsimp -implicitDefEqProofs (maxSteps := 1000000) (disch := omega) [condP_pos, condP_neg, optP_pos, decide_eq_true, decide_eq_false, wrap_i64, Int.natCast_inj, hG0, hG1, gFirst_get, u8_lt, hK, gAcc_len, acc0, acc1, acc2, acc3, acc4, and63, and31, and15, and7, w241, fd241, sh3, sh4, sh5, or32_6, or32_12, or32_18, wrap_i32, wrap_u8, hd]
  | cons b r =>
    simp at hl
    have hb' := u8_lt b
    cases r with
    | nil =>
      have hd : decG ([a, b]) = (65533, 1) := by simp only [decG]; (repeat' split) <;> first | rfl | (exfalso; omega) | (simp; omega)
      simp -dsimp -implicitDefEqProofs (maxSteps := 1000000) (disch := omega) [condP_pos, condP_neg, optP_pos, decide_eq_true, decide_eq_false, wrap_i64, Int.natCast_inj, hG0, hG1, gFirst_get, u8_lt, hK, gAcc_len, acc0, acc1, acc2, acc3, acc4, and63, and31, and15, and7, w241, fd241, sh3, sh4, sh5, or32_6, or32_12, or32_18, wrap_i32, wrap_u8, hd]
    | cons c r =>
      simp at hl
      have hc' := u8_lt c
      cases r with
      | nil =>
        have hd : decG ([a, b, c]) = (65533, 1) := by simp only [decG]; (repeat' split) <;> first | rfl | (exfalso; omega) | (simp; omega)
        simp -dsimp -implicitDefEqProofs (maxSteps := 1000000) (disch := omega) [condP_pos, condP_neg, optP_pos, decide_eq_true, decide_eq_false, wrap_i64, Int.natCast_inj, hG0, hG1, gFirst_get, u8_lt, hK, gAcc_len, acc0, acc1, acc2, acc3, acc4, and63, and31, and15, and7, w241, fd241, sh3, sh4, sh5, or32_6, or32_12, or32_18, wrap_i32, wrap_u8, hd]
      | cons d r =>
        simp at hl
        have hd' := u8_lt d
        by_cases h1 : 144 ≤ b.toNat ∧ b.toNat ≤ 191
        · by_cases h2 : 128 ≤ c.toNat ∧ c.toNat ≤ 191
          · by_cases h4 : 128 ≤ d.toNat ∧ d.toNat ≤ 191
            · have hd : decG (a :: b :: c :: d :: r) = (((a.toNat : Int) - 240) * 262144 + ((b.toNat : Int) - 128) * 4096 + ((c.toNat : Int) - 128) * 64 + ((d.toNat : Int) - 128), 4) := by simp only [decG]; (repeat' split) <;> first | rfl | (exfalso; omega) | (simp; omega)
              simp -dsimp -implicitDefEqProofs (maxSteps := 1000000) (disch := omega) [condP_pos, condP_neg, optP_pos, decide_eq_true, decide_eq_false, wrap_i64, Int.natCast_inj, hG0, hG1, gFirst_get, u8_lt, hK, gAcc_len, acc0, acc1, acc2, acc3, acc4, and63, and31, and15, and7, w241, fd241, sh3, sh4, sh5, or32_6, or32_12, or32_18, wrap_i32, wrap_u8, hd]
              omega
            · have hd : decG (a :: b :: c :: d :: r) = (65533, 1) := by simp only [decG]; (repeat' split) <;> first | rfl | (exfalso; omega) | (simp; omega)
              by_cases h3 : 128 ≤ d.toNat <;> simp -dsimp -implicitDefEqProofs (maxSteps := 1000000) (disch := omega) [condP_pos, condP_neg, optP_pos, decide_eq_true, decide_eq_false, wrap_i64, Int.natCast_inj, hG0, hG1, gFirst_get, u8_lt, hK, gAcc_len, acc0, acc1, acc2, acc3, acc4, and63, and31, and15, and7, w241, fd241, sh3, sh4, sh5, or32_6, or32_12, or32_18, wrap_i32, wrap_u8, hd]
          · have hd : decG (a :: b :: c :: d :: r) = (65533, 1) := by simp only [decG]; (repeat' split) <;> first | rfl | (exfalso; omega) | (simp; omega)
            by_cases h3 : 128 ≤ c.toNat <;> simp -dsimp -implicitDefEqProofs (maxSteps := 1000000) (disch := omega) [condP_pos, condP_neg, optP_pos, decide_eq_true, decide_eq_false, wrap_i64, Int.natCast_inj, hG0, hG1, gFirst_get, u8_lt, hK, gAcc_len, acc0, acc1, acc2, acc3, acc4, and63, and31, and15, and7, w241, fd241, sh3, sh4, sh5, or32_6, or32_12, or32_18, wrap_i32, wrap_u8, hd]
        · have hd : decG (a :: b :: c :: d :: r) = (65533, 1) := by simp only [decG]; (repeat' split) <;> first | rfl | (exfalso; omega) | (simp; omega)
          by_cases h3 : 144 ≤ b.toNat <;> simp -dsimp -implicitDefEqProofs (maxSteps := 1000000) (disch := omega) [condP_pos, condP_neg, optP_pos, decide_eq_true, decide_eq_false, wrap_i64, Int.natCast_inj, hG0, hG1, gFirst_get, u8_lt, hK, gAcc_len, acc0, acc1, acc2, acc3, acc4, and63, and31, and15, and7, w241, fd241, sh3, sh4, sh5, or32_6, or32_12, or32_18, wrap_i32, wrap_u8, hd]
set_option maxHeartbeats 4000000 in
theorem slow_f1 (a : UInt8) (r : List UInt8) (hl : r.length < 1000000000) (ha : 241 ≤ a.toNat ∧ a.toNat < 244) : v.run 81 [bs (a :: r)] [] = some (.tup [i32 (decG (a :: r)).1, i64 (decG (a :: r)).2], []) := by
  refine run_wp (by rw [hv]; exact rfl) ?_
  have hK : firstF a.toNat = 4 := by unfold firstF; (repeat' split) <;> omega
  have ha' := u8_lt a
  cases r with
  | nil =>
    have hd : decG ([a]) = (65533, 1) := by simp only [decG]; (repeat' split) <;> first | rfl | (exfalso; omega) | (simp; omega)
    simp -dsimp -implicitDefEqProofs (maxSteps := 1000000) (disch := omega) [condP_pos, condP_neg, optP_pos, decide_eq_true, decide_eq_false, wrap_i64, Int.natCast_inj, hG0, hG1, gFirst_get, u8_lt, hK, gAcc_len, acc0, acc1, acc2, acc3, acc4, and63, and31, and15, and7, w241, fd241, sh3, sh4, sh5, or32_6, or32_12, or32_18, wrap_i32, wrap_u8, hd]
  | cons b r =>
    simp at hl
    have hb' := u8_lt b
    cases r with
    | nil =>
      have hd : decG ([a, b]) = (65533, 1) := by simp only [decG]; (repeat' split) <;> first | rfl | (exfalso; omega) | (simp; omega)
      simp -dsimp -implicitDefEqProofs (maxSteps := 1000000) (disch := omega) [condP_pos, condP_neg, optP_pos, decide_eq_true, decide_eq_false, wrap_i64, Int.natCast_inj, hG0, hG1, gFirst_get, u8_lt, hK, gAcc_len, acc0, acc1, acc2, acc3, acc4, and63, and31, and15, and7, w241, fd241, sh3, sh4, sh5, or32_6, or32_12, or32_18, wrap_i32, wrap_u8, hd]
    | cons c r =>
      simp at hl
      have hc' := u8_lt c
      cases r with
      | nil =>
        have hd : decG ([a, b, c]) = (65533, 1) := by simp only [decG]; (repeat' split) <;> first | rfl | (exfalso; omega) | (simp; omega)
        simp -dsimp -implicitDefEqProofs (maxSteps := 1000000) (disch := omega) [condP_pos, condP_neg, optP_pos, decide_eq_true, decide_eq_false, wrap_i64, Int.natCast_inj, hG0, hG1, gFirst_get, u8_lt, hK, gAcc_len, acc0, acc1, acc2, acc3, acc4, and63, and31, and15, and7, w241, fd241, sh3, sh4, sh5, or32_6, or32_12, or32_18, wrap_i32, wrap_u8, hd]
      | cons d r =>
        simp at hl
        have hd' := u8_lt d
        by_cases h1 : 128 ≤ b.toNat ∧ b.toNat ≤ 191
        · by_cases h2 : 128 ≤ c.toNat ∧ c.toNat ≤ 191
          · by_cases h4 : 128 ≤ d.toNat ∧ d.toNat ≤ 191
            · have hd : decG (a :: b :: c :: d :: r) = (((a.toNat : Int) - 240) * 262144 + ((b.toNat : Int) - 128) * 4096 + ((c.toNat : Int) - 128) * 64 + ((d.toNat : Int) - 128), 4) := by simp only [decG]; (repeat' split) <;> first | rfl | (exfalso; omega) | (simp; omega)
              simp -dsimp -implicitDefEqProofs (maxSteps := 1000000) (disch := omega) [condP_pos, condP_neg, optP_pos, decide_eq_true, decide_eq_false, wrap_i64, Int.natCast_inj, hG0, hG1, gFirst_get, u8_lt, hK, gAcc_len, acc0, acc1, acc2, acc3, acc4, and63, and31, and15, and7, w241, fd241, sh3, sh4, sh5, or32_6, or32_12, or32_18, wrap_i32, wrap_u8, hd]
              omega
            · have hd : decG (a :: b :: c :: d :: r) = (65533, 1) := by simp only [decG]; (repeat' split) <;> first | rfl | (exfalso; omega) | (simp; omega)
              by_cases h3 : 128 ≤ d.toNat <;> simp -dsimp -implicitDefEqProofs (maxSteps := 1000000) (disch := omega) [condP_pos, condP_neg, optP_pos, decide_eq_true, decide_eq_false, wrap_i64, Int.natCast_inj, hG0, hG1, gFirst_get, u8_lt, hK, gAcc_len, acc0, acc1, acc2, acc3, acc4, and63, and31, and15, and7, w241, fd241, sh3, sh4, sh5, or32_6, or32_12, or32_18, wrap_i32, wrap_u8, hd]
          · have hd : decG (a :: b :: c :: d :: r) = (65533, 1) := by simp only [decG]; (repeat' split) <;> first | rfl | (exfalso; omega) | (simp; omega)
            by_cases h3 : 128 ≤ c.toNat <;> simp -dsimp -implicitDefEqProofs (maxSteps := 1000000) (disch := omega) [condP_pos, condP_neg, optP_pos, decide_eq_true, decide_eq_false, wrap_i64, Int.natCast_inj, hG0, hG1, gFirst_get, u8_lt, hK, gAcc_len, acc0, acc1, acc2, acc3, acc4, and63, and31, and15, and7, w241, fd241, sh3, sh4, sh5, or32_6, or32_12, or32_18, wrap_i32, wrap_u8, hd]
        · have hd : decG (a :: b :: c :: d :: r) = (65533, 1) := by simp only [decG]; (repeat' split) <;> first | rfl | (exfalso; omega) | (simp; omega)
          by_cases h3 : 128 ≤ b.toNat <;> simp -dsimp -implicitDefEqProofs (maxSteps := 1000000) (disch := omega) [condP_pos, condP_neg, optP_pos, decide_eq_true, decide_eq_false, wrap_i64, Int.natCast_inj, hG0, hG1, gFirst_get, u8_lt, hK, gAcc_len, acc0, acc1, acc2, acc3, acc4, and63, and31, and15, and7, w241, fd241, sh3, sh4, sh5, or32_6, or32_12, or32_18, wrap_i32, wrap_u8, hd]
set_option maxHeartbeats 4000000 in
theorem slow_f4 (a : UInt8) (r : List UInt8) (hl : r.length < 1000000000) (ha : a.toNat = 244) : v.run 81 [bs (a :: r)] [] = some (.tup [i32 (decG (a :: r)).1, i64 (decG (a :: r)).2], []) := by
  refine run_wp (by rw [hv]; exact rfl) ?_
  have hK : firstF a.toNat = 68 := by unfold firstF; (repeat' split) <;> omega
  have ha' := u8_lt a
  cases r with
  | nil =>
    have hd : decG ([a]) = (65533, 1) := by simp only [decG]; (repeat' split) <;> first | rfl | (exfalso; omega) | (simp; omega)
    simp -dsimp -implicitDefEqProofs (maxSteps := 1000000) (disch := omega) [condP_pos, condP_neg, optP_pos, decide_eq_true, decide_eq_false, wrap_i64, Int.natCast_inj, hG0, hG1, gFirst_get, u8_lt, hK, gAcc_len, acc0, acc1, acc2, acc3, acc4, and63, and31, and15, and7, w241, fd241, sh3, sh4, sh5, or32_6, or32_12, or32_18, wrap_i32, wrap_u8, hd]
  | cons b r =>
    simp at hl
    have hb' := u8_lt b
    cases r with
    | nil =>
      have hd : decG ([a, b]) = (65533, 1) := by simp only [decG]; (repeat' split) <;> first | rfl | (exfalso; omega) | (simp; omega)
      simp -dsimp -implicitDefEqProofs (maxSteps := 1000000) (disch := omega) [condP_pos, condP_neg, optP_pos, decide_eq_true, decide_eq_false, wrap_i64, Int.natCast_inj, hG0, hG1, gFirst_get, u8_lt, hK, gAcc_len, acc0, acc1, acc2, acc3, acc4, and63, and31, and15, and7, w241, fd241, sh3, sh4, sh5, or32_6, or32_12, or32_18, wrap_i32, wrap_u8, hd]
    | cons c r =>
      simp at hl
      have hc' := u8_lt c
      cases r with
      | nil =>
        have hd : decG ([a, b, c]) = (65533, 1) := by simp only [decG]; (repeat' split) <;> first | rfl | (exfalso; omega) | (simp; omega)
        simp -dsimp -implicitDefEqProofs (maxSteps := 1000000) (disch := omega) [condP_pos, condP_neg, optP_pos, decide_eq_true, decide_eq_false, wrap_i64, Int.natCast_inj, hG0, hG1, gFirst_get, u8_lt, hK, gAcc_len, acc0, acc1, acc2, acc3, acc4, and63, and31, and15, and7, w241, fd241, sh3, sh4, sh5, or32_6, or32_12, or32_18, wrap_i32, wrap_u8, hd]
      | cons d r =>
        simp at hl
        have hd' := u8_lt d
        by_cases h1 : 128 ≤ b.toNat ∧ b.toNat ≤ 143
        · by_cases h2 : 128 ≤ c.toNat ∧ c.toNat ≤ 191
          · by_cases h4 : 128 ≤ d.toNat ∧ d.toNat ≤ 191
            · have hd : decG (a :: b :: c :: d :: r) = (((a.toNat : Int) - 240) * 262144 + ((b.toNat : Int) - 128) * 4096 + ((c.toNat : Int) - 128) * 64 + ((d.toNat : Int) - 128), 4) := by simp only [decG]; (repeat' split) <;> first | rfl | (exfalso; omega) | (simp; omega)
              simp -dsimp -implicitDefEqProofs (maxSteps := 1000000) (disch := omega) [condP_pos, condP_neg, optP_pos, decide_eq_true, decide_eq_false, wrap_i64, Int.natCast_inj, hG0, hG1, gFirst_get, u8_lt, hK, gAcc_len, acc0, acc1, acc2, acc3, acc4, and63, and31, and15, and7, w241, fd241, sh3, sh4, sh5, or32_6, or32_12, or32_18, wrap_i32, wrap_u8, hd]
              omega
            · have hd : decG (a :: b :: c :: d :: r) = (65533, 1) := by simp only [decG]; (repeat' split) <;> first | rfl | (exfalso; omega) | (simp; omega)
              by_cases h3 : 128 ≤ d.toNat <;> simp -dsimp -implicitDefEqProofs (maxSteps := 1000000) (disch := omega) [condP_pos, condP_neg, optP_pos, decide_eq_true, decide_eq_false, wrap_i64, Int.natCast_inj, hG0, hG1, gFirst_get, u8_lt, hK, gAcc_len, acc0, acc1, acc2, acc3, acc4, and63, and31, and15, and7, w241, fd241, sh3, sh4, sh5, or32_6, or32_12, or32_18, wrap_i32, wrap_u8, hd]
          · have hd : decG (a :: b :: c :: d :: r) = (65533, 1) := by simp only [decG]; (repeat' split) <;> first | rfl | (exfalso; omega) | (simp; omega)
            by_cases h3 : 128 ≤ c.toNat <;> simp -dsimp -implicitDefEqProofs (maxSteps := 1000000) (disch := omega) [condP_pos, condP_neg, optP_pos, decide_eq_true, decide_eq_false, wrap_i64, Int.natCast_inj, hG0, hG1, gFirst_get, u8_lt, hK, gAcc_len, acc0, acc1, acc2, acc3, acc4, and63, and31, and15, and7, w241, fd241, sh3, sh4, sh5, or32_6, or32_12, or32_18, wrap_i32, wrap_u8, hd]
        · have hd : decG (a :: b :: c :: d :: r) = (65533, 1) := by simp only [decG]; (repeat' split) <;> first | rfl | (exfalso; omega) | (simp; omega)
          by_cases h3 : 128 ≤ b.toNat <;> simp -dsimp -implicitDefEqProofs (maxSteps := 1000000) (disch := omega) [condP_pos, condP_neg, optP_pos, decide_eq_true, decide_eq_false, wrap_i64, Int.natCast_inj, hG0, hG1, gFirst_get, u8_lt, hK, gAcc_len, acc0, acc1, acc2, acc3, acc4, and63, and31, and15, and7, w241, fd241, sh3, sh4, sh5, or32_6, or32_12, or32_18, wrap_i32, wrap_u8, hd]
theorem run_slow (a : UInt8) (r : List UInt8) (hl : r.length < 1000000000) (ha : 128 ≤ a.toNat) : v.run 81 [bs (a :: r)] [] = some (.tup [i32 (decG (a :: r)).1, i64 (decG (a :: r)).2], []) := by
  by_cases h1 : a.toNat < 194
  · exact slow_x1 hv hG0 hG1 a r hl ⟨ha, h1⟩
  by_cases h2 : a.toNat < 224
  · exact slow_c2 hv hG0 hG1 a r hl ⟨by omega, h2⟩
  by_cases h3 : a.toNat = 224
  · exact slow_e0 hv hG0 hG1 a r hl h3
  by_cases h4 : a.toNat < 237
  · exact slow_e1 hv hG0 hG1 a r hl ⟨by omega, h4⟩
  by_cases h5 : a.toNat = 237
  · exact slow_ed hv hG0 hG1 a r hl h5
  by_cases h6 : a.toNat < 240
  · exact slow_ee hv hG0 hG1 a r hl ⟨by omega, h6⟩
  by_cases h7 : a.toNat = 240
  · exact slow_f0 hv hG0 hG1 a r hl h7
  by_cases h8 : a.toNat < 244
  · exact slow_f1 hv hG0 hG1 a r hl ⟨by omega, h8⟩
  by_cases h9 : a.toNat = 244
  · exact slow_f4 hv hG0 hG1 a r hl h9
  · exact slow_x2 hv hG0 hG1 a r hl (by omega)
end Go.Vai

set_option linter.unusedVariables false
set_option linter.unusedSimpArgs false
set_option linter.unnecessarySimpa false
set_option linter.unusedSectionVars false
namespace Go.Vai
theorem decG_pos (a : UInt8) (r : List UInt8) : 1 ≤ (decG (a :: r)).2 := by
  simp only [decG]
  (repeat' split) <;> simp
theorem decG_le (a : UInt8) (r : List UInt8) : (decG (a :: r)).2 ≤ r.length + 1 := by
  simp only [decG]
  (repeat' split) <;> simp
theorem decG_rng (a : UInt8) (r : List UInt8) : 0 ≤ (decG (a :: r)).1 ∧ (decG (a :: r)).1 ≤ 1114111 := by
  have := u8_lt a
  simp only [decG]
  (repeat' split) <;> simp only <;> omega
def mapR (x : Int) : Int := if x = 9 ∨ x = 10 ∨ x = 13 ∨ x = 160 then 32 else x
def runesF : Nat → List UInt8 → List Int
  | 0, _ => []
  | _ + 1, [] => []
  | n + 1, a :: r => if hidG (mapR (decG (a :: r)).1) = true then runesF n ((a :: r).drop (decG (a :: r)).2) else mapR (decG (a :: r)).1 :: runesF n ((a :: r).drop (decG (a :: r)).2)
theorem runesF_fuel : ∀ (n m : Nat) (l : List UInt8), l.length ≤ n → l.length ≤ m → runesF n l = runesF m l
  | 0, m, l, h, _ => by
    obtain rfl : l = [] := List.eq_nil_of_length_eq_zero (by omega)
    cases m <;> rfl
  | n + 1, 0, l, _, h => by
    obtain rfl : l = [] := List.eq_nil_of_length_eq_zero (by omega)
    rfl
  | n + 1, m + 1, [], _, _ => rfl
  | n + 1, m + 1, a :: r, h1, h2 => by
    have hp := decG_pos a r
    have := runesF_fuel n m ((a :: r).drop (decG (a :: r)).2) (by simp at *; omega) (by simp at *; omega)
    simp only [runesF, this]
def runesG (l : List UInt8) : List Int := runesF l.length l
theorem runesG_nil : runesG [] = [] := rfl
theorem runesG_cons (a : UInt8) (r : List UInt8) : runesG (a :: r) = if hidG (mapR (decG (a :: r)).1) = true then runesG ((a :: r).drop (decG (a :: r)).2) else mapR (decG (a :: r)).1 :: runesG ((a :: r).drop (decG (a :: r)).2) := by
  have hp := decG_pos a r
  unfold runesG
  rw [List.length_cons]
  simp only [runesF]
  rw [runesF_fuel r.length ((a :: r).drop (decG (a :: r)).2).length _ (by simp; omega) (Nat.le_refl _)]
def eI (x : Int) : List FV := [.sc (.int .i64 x)]
@[simp] theorem eI_len (x : Int) : (eI x).length = 1 := rfl
@[simp] theorem eI_map {β : Type} (f : FV → β) (x : Int) : (eI x).map f = [f (.sc (.int .i64 x))] := rfl
variable {v : Env} (hv : v.T = Tt) (hG0 : v.G 0 = some gFirst) (hG1 : v.G 1 = some gAcc)
include hv hG0 hG1
theorem run_decode (a : UInt8) (r : List UInt8) (hl : r.length < 1000000000) : v.run 53 [bs (a :: r)] [] = some (.tup [i32 (decG (a :: r)).1, i64 (decG (a :: r)).2], []) := by
  refine run_wp (by rw [hv]; exact rfl) ?_
  have ha' := u8_lt a
  by_cases h : a.toNat < 128
  · have hd : decG (a :: r) = ((a.toNat : Int), 1) := by simp [decG, h]
    simp -dsimp -implicitDefEqProofs (maxSteps := 1000000) (disch := omega) [condP_pos, condP_neg, optP_pos, decide_eq_true, decide_eq_false, wrap_i64, Int.natCast_inj, hd, wrap_i32]
  · simp -dsimp -implicitDefEqProofs (maxSteps := 1000000) (disch := omega) [condP_pos, condP_neg, optP_pos, decide_eq_true, decide_eq_false, wrap_i64, Int.natCast_inj, run_slow hv hG0 hG1 a r hl (by omega)]
def S15 (x : List Int × List UInt8) : St :=
  { sl := [(0, bs x.2), (3, .osl 0 1 0 x.1.length)], hp := [(0, some (.arr 1 (x.1.map eI)))], nx := 1 }
set_option maxHeartbeats 1000000 in
theorem run_runes (l : List UInt8) (hl : l.length < 1000000000) : v.run 15 [bs l] [] = some (rw_ ((runesG l).map eI), []) := by
  refine run_wp (by rw [hv]; exact rfl) ?_
  simp -dsimp -implicitDefEqProofs (maxSteps := 1000000) (disch := omega) [condP_pos, condP_neg, optP_pos, decide_eq_true, decide_eq_false, wrap_i64, Int.natCast_inj]
  refine wp_inv S15 (fun x => x.1 ++ runesG x.2 = runesG l ∧ x.1.length + x.2.length ≤ l.length) (fun x => x.2.length) ([], l) (by simp) (by simp -dsimp -implicitDefEqProofs (maxSteps := 1000000) (disch := omega) [condP_pos, condP_neg, optP_pos, decide_eq_true, decide_eq_false, wrap_i64, Int.natCast_inj, S15]) ?_
  rintro ⟨acc, rest⟩ ⟨h1, h2⟩
  simp only at h1 h2
  rw [← h1]
  cases rest with
  | nil => simp -dsimp -implicitDefEqProofs (maxSteps := 1000000) (disch := omega) [condP_pos, condP_neg, optP_pos, decide_eq_true, decide_eq_false, wrap_i64, Int.natCast_inj, S15, runesG_nil]
  | cons a r =>
    simp at h2
    have hd := run_decode hv hG0 hG1 a r (by omega)
    have hp := decG_pos a r
    have hle := decG_le a r
    have hr := decG_rng a r
    rw [runesG_cons] at h1 ⊢
    generalize hD : decG (a :: r) = D at *
    obtain ⟨x, n⟩ := D
    simp only at hp hle hr h1 ⊢
    have ht : (l.length : Int) < 1000000000 := by omega
    have hlen : ((a :: r).drop n).length = r.length + 1 - n := by simp
    by_cases hx : x = 9 ∨ x = 10 ∨ x = 13 ∨ x = 160
    · have hm : mapR x = 32 := by simp [mapR, hx]
      have hh : hidG 32 = false := by decide
      rw [hm, hh] at h1
      rw [hm, hh]
      have hrh := run_hidden hv 32
      rw [hh] at hrh
      rcases hx with rfl | rfl | rfl | rfl <;>
      · simp -dsimp -implicitDefEqProofs (maxSteps := 1000000) (disch := omega) [condP_pos, condP_neg, optP_pos, decide_eq_true, decide_eq_false, wrap_i64, Int.natCast_inj, S15, hd, hrh]
        refine again (acc ++ [32], (a :: r).drop n) ?_ ?_ ?_
        · refine ⟨by simpa using h1, ?_⟩
          simp only [hlen]; simp; omega
        · simp only [hlen]; simp; omega
        · simp -dsimp -implicitDefEqProofs (maxSteps := 1000000) (disch := omega) [condP_pos, condP_neg, optP_pos, decide_eq_true, decide_eq_false, wrap_i64, Int.natCast_inj, S15, eI]
    · have hm : mapR x = x := by simp [mapR, hx]
      rw [hm] at h1
      rw [hm]
      have hrh := run_hidden hv x
      have n1 : ¬ x = 9 := fun e => hx (by simp [e])
      have n2 : ¬ x = 10 := fun e => hx (by simp [e])
      have n3 : ¬ x = 13 := fun e => hx (by simp [e])
      have n4 : ¬ x = 160 := fun e => hx (by simp [e])
      cases hh : hidG x with
      | true =>
        rw [hh] at h1 hrh
        simp -dsimp -implicitDefEqProofs (maxSteps := 1000000) (disch := omega) [condP_pos, condP_neg, optP_pos, decide_eq_true, decide_eq_false, wrap_i64, Int.natCast_inj, S15, hd, hrh, n1, n2, n3, n4]
        refine again (acc, (a :: r).drop n) ?_ ?_ ?_
        · refine ⟨by simpa using h1, ?_⟩
          simp only [hlen]; omega
        · simp only [hlen]; simp; omega
        · simp -dsimp -implicitDefEqProofs (maxSteps := 1000000) (disch := omega) [condP_pos, condP_neg, optP_pos, decide_eq_true, decide_eq_false, wrap_i64, Int.natCast_inj, S15, eI]
      | false =>
        rw [hh] at h1 hrh
        simp -dsimp -implicitDefEqProofs (maxSteps := 1000000) (disch := omega) [condP_pos, condP_neg, optP_pos, decide_eq_true, decide_eq_false, wrap_i64, Int.natCast_inj, S15, hd, hrh, n1, n2, n3, n4]
        refine again (acc ++ [x], (a :: r).drop n) ?_ ?_ ?_
        · refine ⟨by simpa using h1, ?_⟩
          simp only [hlen]; simp; omega
        · simp only [hlen]; simp; omega
        · simp -dsimp -implicitDefEqProofs (maxSteps := 1000000) (disch := omega) [condP_pos, condP_neg, optP_pos, decide_eq_true, decide_eq_false, wrap_i64, Int.natCast_inj, S15, eI]
end Go.Vai

set_option linter.unusedVariables false
set_option linter.unusedSimpArgs false
set_option linter.unnecessarySimpa false
set_option linter.unusedSectionVars false
namespace Go.Vai
def sqG (x y w h : Int) : Ol := [(x, y), (x + w, y), (x + w, y + h), (x, y + h)]
def drawnL : List UInt8 := [50, 50, 50, 48, 50, 53, 53, 48, 48, 48, 53, 55, 53, 55, 53, 51, 54, 55, 51, 54, 53, 49, 50, 52, 53, 50, 53, 50, 53, 51, 50, 50, 48, 48, 48, 49, 50, 50, 50, 49, 52, 50, 50, 50, 52, 48, 53, 50, 53, 48, 48, 50, 55, 50, 48, 48, 48, 48, 50, 52, 48, 48, 55, 48, 48, 48, 48, 48, 48, 50, 49, 49, 50, 52, 52, 55, 53, 53, 53, 55, 50, 54, 50, 50, 55, 55, 49, 55, 52, 55, 55, 49, 55, 49, 55, 53, 53, 55, 49, 49, 55, 52, 55, 49, 55, 55, 52, 55, 53, 55, 55, 49, 49, 49, 49, 55, 53, 55, 53, 55, 55, 53, 55, 49, 55, 48, 50, 48, 50, 48, 48, 50, 48, 50, 52, 49, 50, 52, 50, 49, 48, 55, 48, 55, 48, 52, 50, 49, 50, 52, 55, 49, 50, 48, 50, 55, 53, 55, 52, 55, 50, 53, 55, 53, 53, 54, 53, 54, 53, 54, 51, 52, 52, 52, 51, 54, 53, 53, 53, 54, 55, 52, 54, 52, 55, 55, 52, 54, 52, 52, 51, 52, 53, 53, 51, 53, 53, 55, 53, 53, 55, 50, 50, 50, 55, 49, 49, 49, 53, 50, 53, 53, 54, 53, 53, 52, 52, 52, 52, 55, 53, 55, 55, 53, 53, 54, 53, 53, 53, 53, 50, 53, 53, 53, 50, 54, 53, 54, 52, 52, 50, 53, 53, 54, 51, 54, 53, 54, 53, 53, 51, 52, 50, 49, 54, 55, 50, 50, 50, 50, 53, 53, 53, 53, 55, 53, 53, 53, 53, 50, 53, 53, 55, 55, 53, 53, 53, 50, 53, 53, 53, 53, 50, 50, 50, 55, 49, 50, 52, 55, 54, 52, 52, 52, 54, 52, 52, 50, 49, 49, 51, 49, 49, 49, 51, 50, 53, 48, 48, 48, 48, 48, 48, 48, 55, 52, 50, 48, 48, 48]
def drawnLast : List UInt8 := [51, 50, 54, 50, 51, 50, 50, 50, 50, 50, 54, 50, 51, 50, 54, 48, 51, 54, 48, 48]
def digitsG (x : Int) : List UInt8 :=
  let y := if 97 ≤ x ∧ x ≤ 122 then x - 32 else x
  if 123 ≤ y then (drawnLast.take (5 * (y - 123) + 5).toNat).drop (5 * (y - 123)).toNat else (drawnL.take (5 * (y - 33) + 5).toNat).drop (5 * (y - 33)).toNat
def colSq (row : Nat) (c : UInt8) (col m : Int) : List Ol := if bandI .u8 (IntKind.u8.wrap ((c.toNat : Int) - 48)) m = 0 then [] else [sqG (4 * col) (4 * row) 4 4]
def rowG (row : Nat) (c : UInt8) : List Ol := colSq row c 0 4 ++ (colSq row c 1 2 ++ colSq row c 2 1)
def outG : Nat → List UInt8 → List Ol
  | _, [] => []
  | row, c :: r => rowG row c ++ outG (row + 1) r
def glyphG (x : Int) : Gl := (16, outG 0 (digitsG x), [])
def plainGl (k : Nat) : List Gl := (16, [sqG 0 0 12 20, sqG 4 4 4 12], []) :: (16, [], []) :: (List.range k).map fun (i : Nat) => glyphG (33 + i)
def plainRn (k : Nat) : List Pt := (32, 1) :: (List.range k).map fun (i : Nat) => ((33 + i : Int), (2 + i : Int))
def plainF : Font := (plainGl 94, plainRn 94)
@[simp] theorem plainGl_len (k : Nat) : (plainGl k).length = k + 2 := by simp [plainGl]
@[simp] theorem plainRn_len (k : Nat) : (plainRn k).length = k + 1 := by simp [plainRn]
theorem plainGl_succ (k : Nat) : plainGl (k + 1) = plainGl k ++ [glyphG (33 + k)] := by simp [plainGl, List.range_succ]
theorem plainRn_succ (k : Nat) : plainRn (k + 1) = plainRn k ++ [((33 + k : Int), (2 + k : Int))] := by simp [plainRn, List.range_succ]
theorem colSq_len (row : Nat) (c : UInt8) (a m : Int) : (colSq row c a m).length ≤ 1 := by
  unfold colSq
  split <;> simp
theorem rowG_len (row : Nat) (c : UInt8) : (rowG row c).length ≤ 3 := by
  have h1 := colSq_len row c 0 4
  have h2 := colSq_len row c 1 2
  have h3 := colSq_len row c 2 1
  simp only [rowG, List.length_append]
  omega
theorem outG_len : ∀ (n : Nat) (l : List UInt8), (outG n l).length ≤ 3 * l.length
  | _, [] => Nat.zero_le _
  | n, c :: r => by
    have h1 := rowG_len n c
    have h2 := outG_len (n + 1) r
    simp only [outG, List.length_append, List.length_cons]
    omega
theorem digits_len (x : Int) (h : 33 ≤ x ∧ x ≤ 126) : (digitsG x).length = 5 := by
  have h1 : drawnL.length = 320 := by kernel_rfl
  have h2 : drawnLast.length = 20 := by kernel_rfl
  unfold digitsG
  simp only
  split <;> split <;> simp only [List.length_drop, List.length_take, h1, h2] <;> omega
variable {v : Env} (hv : v.T = Tt)
include hv
theorem run_square (x y w h : Int) (hx : -1000000 ≤ x ∧ x ≤ 1000000) (hy : -1000000 ≤ y ∧ y ≤ 1000000) (hw : -1000000 ≤ w ∧ w ≤ 1000000) (hh : -1000000 ≤ h ∧ h ≤ 1000000) : v.run 67 [i64 x, i64 y, i64 w, i64 h] [] = some (rw_ ((sqG x y w h).map ePt), []) := by
  refine run_wp (by rw [hv]; exact rfl) ?_
  simp -dsimp -implicitDefEqProofs (maxSteps := 1000000) (disch := omega) [condP_pos, condP_neg, optP_pos, decide_eq_true, decide_eq_false, wrap_i64, Int.natCast_inj, sqG, ePt]
set_option maxRecDepth 4000 in
set_option maxHeartbeats 2000000 in
theorem run_digits (x : Int) (h : 33 ≤ x ∧ x ≤ 126) : v.run 68 [i64 x] [] = some (bs (digitsG x), []) := by
  refine run_wp (by rw [hv]; exact rfl) ?_
  have hL : ∀ t : List UInt8, t = drawnL → True := fun _ _ => trivial
  by_cases h1 : 97 ≤ x
  · by_cases h2 : x ≤ 122
    · have h3 : ¬ 123 ≤ x - 32 := by omega
      simp -dsimp -implicitDefEqProofs (maxSteps := 1000000) (disch := omega) [condP_pos, condP_neg, optP_pos, decide_eq_true, decide_eq_false, wrap_i64, Int.natCast_inj, h1, h2, h3, digitsG]
      simp [drawnL]
    · have h3 : 123 ≤ x := by omega
      simp -dsimp -implicitDefEqProofs (maxSteps := 1000000) (disch := omega) [condP_pos, condP_neg, optP_pos, decide_eq_true, decide_eq_false, wrap_i64, Int.natCast_inj, h1, h2, h3, digitsG]
      simp [drawnLast]
  · have h3 : ¬ 123 ≤ x := by omega
    simp -dsimp -implicitDefEqProofs (maxSteps := 1000000) (disch := omega) [condP_pos, condP_neg, optP_pos, decide_eq_true, decide_eq_false, wrap_i64, Int.natCast_inj, h1, h3, digitsG]
    simp [drawnL]
def S40 (k : Nat) : St :=
  { sl := [(0, .bp 0 0), (1, .bp 1 0), (2, i64 (33 + k))],
    hp := [(0, some (.box [.emp, .emp])), (1, some (.box [.osl 2 3 0 (k + 2), .osl 3 2 0 (k + 1)])), (2, some (.arr 3 ((plainGl k).map eGl))), (3, some (.arr 2 ((plainRn k).map ePt)))], nx := 4 }
def T40 (k : Nat) (x : List UInt8 × List UInt8 × List Ol) : St :=
  { sl := [(0, .bp 0 0), (1, .bp 1 0), (2, i64 (33 + k)), (3, .bp 4 0), (27, .osl 6 1 0 (x.1 ++ x.2.1).length), (28, i64 (x.1 ++ x.2.1).length), (29, i64 x.1.length)],
    hp := [(0, some (.box [.emp, .emp])), (1, some (.box [.osl 2 3 0 (k + 2), .osl 3 2 0 (k + 1)])), (2, some (.arr 3 ((plainGl k).map eGl))), (3, some (.arr 2 ((plainRn k).map ePt))),
      (4, some (.box [i64 16, .osl 5 1 0 x.2.2.length, .emp])), (5, some (.arr 1 (x.2.2.map eOl))), (6, some (.arr 1 ((x.1 ++ x.2.1).map eB)))], nx := 7 }
def U40 (k : Nat) (q : List UInt8) (c : UInt8) (r : List UInt8) (x : Nat × List Ol) : St :=
  { sl := [(0, .bp 0 0), (1, .bp 1 0), (2, i64 (33 + k)), (3, .bp 4 0), (4, i64 q.length), (5, u8 c.toNat), (27, .osl 6 1 0 (q ++ c :: r).length), (28, i64 (q ++ c :: r).length), (29, i64 q.length), (34, i64 x.1)],
    hp := [(0, some (.box [.emp, .emp])), (1, some (.box [.osl 2 3 0 (k + 2), .osl 3 2 0 (k + 1)])), (2, some (.arr 3 ((plainGl k).map eGl))), (3, some (.arr 2 ((plainRn k).map ePt))),
      (4, some (.box [i64 16, .osl 5 1 0 x.2.length, .emp])), (5, some (.arr 1 (x.2.map eOl))), (6, some (.arr 1 ((q ++ c :: r).map eB)))], nx := 7 }
@[simp] theorem eB_map {β : Type} (f : FV → β) (b : UInt8) : (eB b).map f = [f (.sc (.int .u8 b.toNat))] := rfl
set_option maxHeartbeats 4000000 in
theorem run_plain : v.run 40 [] [] = some (aFont plainF, []) := by
  refine run_wp (by rw [hv]; exact rfl) ?_
  simp -dsimp -implicitDefEqProofs (maxSteps := 1000000) (disch := omega) [condP_pos, condP_neg, optP_pos, decide_eq_true, decide_eq_false, wrap_i64, Int.natCast_inj, run_square hv]
  refine wp_inv S40 (fun k => k ≤ 94) (fun k => 94 - k) 0 (by simp) (by simp -dsimp -implicitDefEqProofs (maxSteps := 1000000) (disch := omega) [condP_pos, condP_neg, optP_pos, decide_eq_true, decide_eq_false, wrap_i64, Int.natCast_inj, S40, plainGl, plainRn, eGl, ePt, eOl]) ?_
  intro k hk
  by_cases h94 : k = 94
  · subst h94
    simp -dsimp -implicitDefEqProofs (maxSteps := 1000000) (disch := omega) [condP_pos, condP_neg, optP_pos, decide_eq_true, decide_eq_false, wrap_i64, Int.natCast_inj, S40]
    exact ⟨List.take_of_length_le (by simp), List.take_of_length_le (by simp)⟩
  · have hdl := digits_len (33 + k) (by omega)
    have hrd := run_digits hv (33 + k) (by omega)
    simp -dsimp -implicitDefEqProofs (maxSteps := 1000000) (disch := omega) [condP_pos, condP_neg, optP_pos, decide_eq_true, decide_eq_false, wrap_i64, Int.natCast_inj, S40, hrd]
    refine wp_inv (T40 k) (fun x => x.1 ++ x.2.1 = digitsG (33 + k) ∧ x.2.2 ++ outG x.1.length x.2.1 = outG 0 (digitsG (33 + k))) (fun x => x.2.1.length) ([], digitsG (33 + k), []) (by simp) (by simp -dsimp -implicitDefEqProofs (maxSteps := 1000000) (disch := omega) [condP_pos, condP_neg, optP_pos, decide_eq_true, decide_eq_false, wrap_i64, Int.natCast_inj, T40]; exact ⟨List.take_of_length_le (by simp), List.take_of_length_le (by simp)⟩) ?_
    rintro ⟨q, r, acc⟩ ⟨d1, d2⟩
    simp only at d1 d2
    have hq5 : q.length + r.length = 5 := by rw [← hdl, ← d1]; simp
    cases r with
    | nil =>
      simp only [outG, List.append_nil] at d2
      have hal : acc.length ≤ 1000 := by
        rw [d2]
        have := outG_len 0 (digitsG (33 + k))
        omega
      simp -dsimp -implicitDefEqProofs (maxSteps := 1000000) (disch := omega) [condP_pos, condP_neg, optP_pos, decide_eq_true, decide_eq_false, wrap_i64, Int.natCast_inj, T40]
      refine again (k + 1) ?_ ?_ ?_
      · omega
      · omega
      · simp -dsimp -implicitDefEqProofs (maxSteps := 1000000) (disch := omega) [condP_pos, condP_neg, optP_pos, decide_eq_true, decide_eq_false, wrap_i64, Int.natCast_inj, S40, plainGl_succ, plainRn_succ, glyphG, ← d2, eGl, ePt]
        exact ⟨by omega, List.take_of_length_le (by simp), List.take_of_length_le (by simp), by omega⟩
    | cons c r =>
      simp at hq5
      have hal : acc.length ≤ 1000 := by
        have h1 := outG_len 0 (digitsG (33 + k))
        have h2 := congrArg List.length d2
        rw [List.length_append] at h2
        omega
      simp -dsimp -implicitDefEqProofs (maxSteps := 1000000) (disch := omega) [condP_pos, condP_neg, optP_pos, decide_eq_true, decide_eq_false, wrap_i64, Int.natCast_inj, T40]
      refine wp_inv (U40 k q c r) (fun x => x.1 ≤ 3 ∧ x.2 = acc ++ (if x.1 = 0 then [] else if x.1 = 1 then colSq q.length c 0 4 else if x.1 = 2 then colSq q.length c 0 4 ++ colSq q.length c 1 2 else rowG q.length c)) (fun x => 3 - x.1) (0, acc) (by simp) (by simp -dsimp -implicitDefEqProofs (maxSteps := 1000000) (disch := omega) [condP_pos, condP_neg, optP_pos, decide_eq_true, decide_eq_false, wrap_i64, Int.natCast_inj, U40]; exact ⟨List.take_of_length_le (by simp), List.take_of_length_le (by simp)⟩) ?_
      rintro ⟨j, w⟩ ⟨e1, e2⟩
      simp only at e1 e2
      have hwl : w.length ≤ 1003 := by
        have h1 := colSq_len q.length c 0 4
        have h2 := colSq_len q.length c 1 2
        have h3 := rowG_len q.length c
        rw [e2]
        simp only [List.length_append]
        (repeat' split) <;> (try simp only [List.length_append, List.length_nil]) <;> omega
      have hj : j = 0 ∨ j = 1 ∨ j = 2 ∨ j = 3 := by omega
      rcases hj with rfl | rfl | rfl | rfl
      · by_cases hb : bandI .u8 (IntKind.u8.wrap ((c.toNat : Int) - 48)) 4 = 0
        · simp -dsimp -implicitDefEqProofs (maxSteps := 1000000) (disch := omega) [condP_pos, condP_neg, optP_pos, decide_eq_true, decide_eq_false, wrap_i64, Int.natCast_inj, U40, binS_and, hb]
          refine again (1, w) ?_ ?_ ?_
          · simp [e2, colSq, hb]
          · simp
          · simp -dsimp -implicitDefEqProofs (maxSteps := 1000000) (disch := omega) [condP_pos, condP_neg, optP_pos, decide_eq_true, decide_eq_false, wrap_i64, Int.natCast_inj, U40]
        · simp -dsimp -implicitDefEqProofs (maxSteps := 1000000) (disch := omega) [condP_pos, condP_neg, optP_pos, decide_eq_true, decide_eq_false, wrap_i64, Int.natCast_inj, U40, binS_and, hb, run_square hv]
          refine again (1, w ++ [sqG 0 (4 * q.length) 4 4]) ?_ ?_ ?_
          · simp [e2, colSq, hb]
          · simp
          · simp -dsimp -implicitDefEqProofs (maxSteps := 1000000) (disch := omega) [condP_pos, condP_neg, optP_pos, decide_eq_true, decide_eq_false, wrap_i64, Int.natCast_inj, U40, eOl]
      · by_cases hb : bandI .u8 (IntKind.u8.wrap ((c.toNat : Int) - 48)) 2 = 0
        · simp -dsimp -implicitDefEqProofs (maxSteps := 1000000) (disch := omega) [condP_pos, condP_neg, optP_pos, decide_eq_true, decide_eq_false, wrap_i64, Int.natCast_inj, U40, binS_and, hb]
          refine again (2, w) ?_ ?_ ?_
          · simp [e2, colSq, hb]
          · simp
          · simp -dsimp -implicitDefEqProofs (maxSteps := 1000000) (disch := omega) [condP_pos, condP_neg, optP_pos, decide_eq_true, decide_eq_false, wrap_i64, Int.natCast_inj, U40]
        · simp -dsimp -implicitDefEqProofs (maxSteps := 1000000) (disch := omega) [condP_pos, condP_neg, optP_pos, decide_eq_true, decide_eq_false, wrap_i64, Int.natCast_inj, U40, binS_and, hb, run_square hv]
          refine again (2, w ++ [sqG 4 (4 * q.length) 4 4]) ?_ ?_ ?_
          · simp [e2, colSq, hb]
          · simp
          · simp -dsimp -implicitDefEqProofs (maxSteps := 1000000) (disch := omega) [condP_pos, condP_neg, optP_pos, decide_eq_true, decide_eq_false, wrap_i64, Int.natCast_inj, U40, eOl]
      · by_cases hb : bandI .u8 (IntKind.u8.wrap ((c.toNat : Int) - 48)) 1 = 0
        · simp -dsimp -implicitDefEqProofs (maxSteps := 1000000) (disch := omega) [condP_pos, condP_neg, optP_pos, decide_eq_true, decide_eq_false, wrap_i64, Int.natCast_inj, U40, binS_and, hb]
          refine again (3, w) ?_ ?_ ?_
          · simp [e2, colSq, rowG, hb]
          · simp
          · simp -dsimp -implicitDefEqProofs (maxSteps := 1000000) (disch := omega) [condP_pos, condP_neg, optP_pos, decide_eq_true, decide_eq_false, wrap_i64, Int.natCast_inj, U40]
        · simp -dsimp -implicitDefEqProofs (maxSteps := 1000000) (disch := omega) [condP_pos, condP_neg, optP_pos, decide_eq_true, decide_eq_false, wrap_i64, Int.natCast_inj, U40, binS_and, hb, run_square hv]
          refine again (3, w ++ [sqG 8 (4 * q.length) 4 4]) ?_ ?_ ?_
          · simp [e2, colSq, rowG, hb]
          · simp
          · simp -dsimp -implicitDefEqProofs (maxSteps := 1000000) (disch := omega) [condP_pos, condP_neg, optP_pos, decide_eq_true, decide_eq_false, wrap_i64, Int.natCast_inj, U40, eOl]
      · simp -dsimp -implicitDefEqProofs (maxSteps := 1000000) (disch := omega) [condP_pos, condP_neg, optP_pos, decide_eq_true, decide_eq_false, wrap_i64, Int.natCast_inj, U40]
        refine again (q ++ [c], r, w) ?_ ?_ ?_
        · refine ⟨by simpa using d1, ?_⟩
          simp only [e2]
          rw [← d2]
          simp [outG]
        · simp
        · simp -dsimp -implicitDefEqProofs (maxSteps := 1000000) (disch := omega) [condP_pos, condP_neg, optP_pos, decide_eq_true, decide_eq_false, wrap_i64, Int.natCast_inj, T40]
end Go.Vai

set_option linter.unusedVariables false
set_option linter.unusedSimpArgs false
set_option linter.unnecessarySimpa false
set_option linter.unusedSectionVars false
namespace Go.Vai
theorem runesF_len : ∀ (n : Nat) (l : List UInt8), (runesF n l).length ≤ l.length
  | 0, _ => Nat.zero_le _
  | _ + 1, [] => Nat.le_refl _
  | n + 1, a :: r => by
    have hp := decG_pos a r
    have := runesF_len n ((a :: r).drop (decG (a :: r)).2)
    simp only [List.length_drop, List.length_cons] at this
    simp only [runesF]
    split <;> simp only [List.length_cons] <;> omega
theorem runesG_len (l : List UInt8) : (runesG l).length ≤ l.length := runesF_len _ _
theorem adv_b (f : Font) (k : Int) : -1048576 ≤ advance f k ∧ advance f k ≤ 1048576 := by
  unfold advance
  split
  · split
    · exact cut_b _
    · omega
  · omega
def lineF (f : Font) : Int → List Int → List Pc
  | _, [] => []
  | p, x :: r => (lookupG f.1.length x f.2, p, 0) :: lineF f (cut (p + advance f (lookupG f.1.length x f.2))) r
def lineE (f : Font) : Int → List Int → Int
  | p, [] => p
  | p, x :: r => lineE f (cut (p + advance f (lookupG f.1.length x f.2))) r
def lineG (f : Font) (l : List UInt8) : List Pc × Int := if f.1.length = 0 then ([], 0) else (lineF f 0 (runesG l), lineE f 0 (runesG l))
variable {v : Env} (hv : v.T = Tt) (hG0 : v.G 0 = some gFirst) (hG1 : v.G 1 = some gAcc)
include hv hG0 hG1
def S35 (f : Font) (x : List Int × List Int × List Pc × Int) : St :=
  { sl := [(2, .bp 0 0), (6, .osl 1 3 0 x.2.2.1.length), (7, i64 x.2.2.2), (16, rw_ ((x.1 ++ x.2.1).map eI)), (17, i64 (x.1 ++ x.2.1).length), (18, i64 x.1.length)],
    hp := [(0, some (.box [rw_ (f.1.map eGl), rw_ (f.2.map ePt)])), (1, some (.arr 3 (x.2.2.1.map ePc)))], nx := 2 }
set_option maxHeartbeats 1000000 in
theorem run_line (f : Font) (l : List UInt8) (hl : l.length < 1000000000) (h1 : f.1.length < 1000000000000) (h2 : f.2.length < 1000000000000) : v.run 35 [aFont f, bs l] [] = some (.tup [rw_ ((lineG f l).1.map ePc), i64 (lineG f l).2], []) := by
  have hLG : ¬ f.1.length = 0 → lineG f l = (lineF f 0 (runesG l), lineE f 0 (runesG l)) := fun h => by simp [lineG, h]
  have hr := run_runes hv hG0 hG1 l hl
  have hrl := runesG_len l
  by_cases h0 : f.1.length = 0
  · have hL0 : lineG f l = ([], 0) := by simp [lineG, h0]
    rw [hL0]
    refine run_wp (by rw [hv]; exact rfl) ?_
    simp -dsimp -implicitDefEqProofs (maxSteps := 1000000) (disch := omega) [condP_pos, condP_neg, optP_pos, decide_eq_true, decide_eq_false, wrap_i64, Int.natCast_inj, h0]
  · rw [hLG h0]
    refine run_wp (by rw [hv]; exact rfl) ?_
    have h00 : ¬ f.1 = [] := fun e => h0 (by rw [e]; rfl)
    simp -dsimp -implicitDefEqProofs (maxSteps := 1000000) (disch := omega) [condP_pos, condP_neg, optP_pos, decide_eq_true, decide_eq_false, wrap_i64, Int.natCast_inj, h0, hr]
    refine wp_inv (S35 f) (fun x => x.1 ++ x.2.1 = runesG l ∧ x.2.2.1.length = x.1.length ∧ (-1048576 ≤ x.2.2.2 ∧ x.2.2.2 ≤ 1048576) ∧ x.2.2.1 ++ lineF f x.2.2.2 x.2.1 = lineF f 0 (runesG l) ∧ lineE f x.2.2.2 x.2.1 = lineE f 0 (runesG l)) (fun x => x.2.1.length) ([], runesG l, [], 0) (by simp) (by simp -dsimp -implicitDefEqProofs (maxSteps := 1000000) (disch := omega) [condP_pos, condP_neg, optP_pos, decide_eq_true, decide_eq_false, wrap_i64, Int.natCast_inj, S35]) ?_
    rintro ⟨pre, rest, acc, p⟩ ⟨e1, e2, e3, e4, e5⟩
    simp only at e1 e2 e3 e4 e5
    have hlen : pre.length + rest.length ≤ l.length := by rw [← e1] at hrl; simpa using hrl
    rw [← e4, ← e5]
    cases rest with
    | nil => simp -dsimp -implicitDefEqProofs (maxSteps := 1000000) (disch := omega) [condP_pos, condP_neg, optP_pos, decide_eq_true, decide_eq_false, wrap_i64, Int.natCast_inj, S35, lineF, lineE]
    | cons x rest =>
      simp at hlen
      have hk := run_lookup hv f x h1 h2
      have ha := run_advance hv f (lookupG f.1.length x f.2)
      have hb := adv_b f (lookupG f.1.length x f.2)
      simp -dsimp -implicitDefEqProofs (maxSteps := 1000000) (disch := omega) [condP_pos, condP_neg, optP_pos, decide_eq_true, decide_eq_false, wrap_i64, Int.natCast_inj, S35, hk, ha, run_cut hv]
      refine again (pre ++ [x], rest, acc ++ [(lookupG f.1.length x f.2, p, 0)], cut (p + advance f (lookupG f.1.length x f.2))) ?_ ?_ ?_
      · refine ⟨by simpa using e1, by simp [e2], cut_b _, ?_, ?_⟩
        · simp [lineF]
        · simp [lineE]
      · simp
      · simp -dsimp -implicitDefEqProofs (maxSteps := 1000000) (disch := omega) [condP_pos, condP_neg, optP_pos, decide_eq_true, decide_eq_false, wrap_i64, Int.natCast_inj, S35, ePc, eI]
end Go.Vai
