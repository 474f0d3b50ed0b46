/-
  What functions of layer 1 and of its reference compute: equations of the abstract run, and plain laws of them.
-/
import Derived.Test.YthejhdkdfjinbaaDoorR2
set_option linter.unusedVariables false
set_option linter.unusedSimpArgs false
set_option linter.unnecessarySimpa false
set_option linter.unusedSectionVars false
namespace Go.Vai
variable {e3 e4 : Value}
/-! Signs are read. -/
def pend (x : Nat) : Nat → List UInt8
  | 2 => [UInt8.ofNat (x / 16)]
  | 3 => [UInt8.ofNat (x / 1024), UInt8.ofNat (x / 4)]
  | _ => []
def b64F : Nat → Nat → List UInt8 → List UInt8
  | x, n, [] => pend x n
  | x, n, c :: r => if sgnI c < 0 then b64F x n r else if n = 3 then UInt8.ofNat ((x * 64 + (sgnI c).toNat) / 65536) :: UInt8.ofNat ((x * 64 + (sgnI c).toNat) / 256) :: UInt8.ofNat (x * 64 + (sgnI c).toNat) :: b64F 0 0 r else b64F (x * 64 + (sgnI c).toNat) (n + 1) r
theorem b64_neg (x n : Nat) (l : List UInt8) (i : Nat) (c : UInt8) (h : i < l.length) (hc : l[i] = c) (hx : sgnI c < 0) : b64F x n (l.drop i) = b64F x n (l.drop (i + 1)) := by
  rw [List.drop_eq_getElem_cons h, hc, b64F, if_pos hx]
theorem b64_less (x n : Nat) (l : List UInt8) (i : Nat) (c : UInt8) (d : Nat) (h : i < l.length) (hc : l[i] = c) (hd : sgnI c = d) (hn : n ≠ 3) : b64F x n (l.drop i) = b64F (x * 64 + d) (n + 1) (l.drop (i + 1)) := by
  rw [List.drop_eq_getElem_cons h, hc, b64F, if_neg (by omega), if_neg hn, hd]
  rfl
theorem b64_four (x : Nat) (l : List UInt8) (i : Nat) (c : UInt8) (d : Nat) (h : i < l.length) (hc : l[i] = c) (hd : sgnI c = d) : b64F x 3 (l.drop i) = UInt8.ofNat ((x * 64 + d) / 65536) :: UInt8.ofNat ((x * 64 + d) / 256) :: UInt8.ofNat (x * 64 + d) :: b64F 0 0 (l.drop (i + 1)) := by
  rw [List.drop_eq_getElem_cons h, hc, b64F, if_neg (by omega), if_pos rfl, hd]
  rfl
theorem or_64 (a b : Nat) (ha : a < 262144) (hb : b < 64) : binS .or (.int .i64 ((a : Int) * 64)) (.int .i64 (b : Int)) = some (.int .i64 ((a * 64 + b : Nat) : Int)) := by
  show (if IntKind.i64 ≠ IntKind.i64 then none else some (Value.int .i64 (IntKind.i64.wrap (((BitVec.ofInt 64 ((a : Int) * 64) ||| BitVec.ofInt 64 (b : Int)).toNat : Nat) : Int)))) = _
  have e : (BitVec.ofInt 64 ((a : Int) * 64) ||| BitVec.ofInt 64 (b : Int)).toNat = a * 64 + b := by
    have e2 : (a : Int) * 64 = ((2 ^ 6 * a : Nat) : Int) := by omega
    rw [e2, BitVec.toNat_or, ofInt_nat64 (by omega), ofInt_nat64 (by omega)]
    have := (Nat.two_pow_add_eq_or_of_lt (i := 6) (show b < 2 ^ 6 by omega) a).symm
    omega
  rw [e, if_neg (by simp), wrap_i64 (by omega) (by omega)]
theorem and_m (a n : Nat) (ha : a < 262144) (hn : n < 20) (m : Int) (hm : m = 2 ^ n - 1) : binS .and (.int .i64 (a : Int)) (.int .i64 m) = some (.int .i64 ((a % 2 ^ n : Nat) : Int)) := by
  show (if IntKind.i64 ≠ IntKind.i64 then none else some (Value.int .i64 (IntKind.i64.wrap (((BitVec.ofInt 64 (a : Int) &&& BitVec.ofInt 64 m).toNat : Nat) : Int)))) = _
  have h1 : (2 : Nat) ^ n ≤ 2 ^ 20 := Nat.pow_le_pow_right (by omega) (by omega)
  have h2 : 0 < (2 : Nat) ^ n := Nat.pow_pos (by omega)
  have e : (BitVec.ofInt 64 (a : Int) &&& BitVec.ofInt 64 m).toNat = a % 2 ^ n := by
    have e2 : m = ((2 ^ n - 1 : Nat) : Int) := by
      rw [hm]
      have h3 : ((2 : Int) ^ n) = ((2 ^ n : Nat) : Int) := by simp
      rw [h3]; omega
    rw [e2, BitVec.toNat_and, ofInt_nat64 (by omega), ofInt_nat64 (by omega), Nat.and_two_pow_sub_one_eq_mod]
  have h4 := Nat.mod_lt a h2
  rw [e, if_neg (by simp), wrap_i64 (by omega) (by omega)]
theorem byte_wrap (y k : Nat) : IntKind.u8.wrap (((y / k : Nat) : Int)) = ((UInt8.ofNat (y / k)).toNat : Int) := by
  simp [IntKind.wrap, IntKind.bits, IntKind.signed]
theorem byte_w (y : Nat) : IntKind.u8.wrap ((y : Int)) = ((UInt8.ofNat y).toNat : Int) := by
  simp [IntKind.wrap, IntKind.bits, IntKind.signed]
theorem fdiv_nat (y k : Nat) : ((y : Int)).fdiv (k : Int) = ((y / k : Nat) : Int) := by
  rw [Int.fdiv_eq_ediv_of_nonneg _ (by omega)]; simp
theorem cut_step (l : List UInt8) (i : Nat) (c : UInt8) (h : i < l.length) (hc : l[i] = c) (hn : ¬ c.toNat = 61) : cutG (l.drop i) = c :: cutG (l.drop (i + 1)) := by
  have h2 : c ≠ 61 := fun e => hn (by rw [e]; rfl)
  unfold cutG
  rw [List.drop_eq_getElem_cons h, hc, List.takeWhile_cons, if_pos (by simp [h2])]
theorem cut_stop (l : List UInt8) (i : Nat) (c : UInt8) (h : i < l.length) (hc : l[i] = c) (hn : c.toNat = 61) : cutG (l.drop i) = [] := by
  have h2 : c = 61 := UInt8.toNat_inj.1 hn
  unfold cutG
  rw [List.drop_eq_getElem_cons h, hc, List.takeWhile_cons, if_neg (by simp [h2])]
def unb64G (l : List UInt8) (left : Int) : List UInt8 × Int := if (spendG left l.length).2 = true then (b64F 0 0 (cutG l), (spendG left l.length).1) else ([], 0)
def S25 (l : List UInt8) (rest : Int) (a : Nat × List UInt8 × Nat × Nat) : St := { sl := [(0, bs l), (6, i64 rest), (8, .osl 0 1 0 a.2.1.length), (9, i64 a.2.2.1), (10, i64 a.2.2.2), (11, i64 a.1)], hp := [(0, some (.arr 1 (a.2.1.map eB)))], nx := 1 }
set_option maxHeartbeats 4000000 in
theorem run_runb64 (l : List UInt8) (left : Int) (hl : l.length ≤ 1000000) (hi : inI left) : (W e3 e4).run 25 [bs l, i64 left] [] = some (.tup [bs (unb64G l left).1, i64 (unb64G l left).2], []) := by
  have c0 := run_rspend (e3 := e3) (e4 := e4) left l.length hi ⟨by omega, by omega⟩
  unfold unb64G
  refine run_wp (by rw [W_T]; exact rfl) ?_
  generalize spendG left l.length = sp at *
  obtain ⟨rest, ok⟩ := sp
  simp only at c0 ⊢
  cases ok with
  | false =>
    rw [if_neg (by simp)]
    simp -dsimp -implicitDefEqProofs (maxSteps := 1000000) (disch := omega) [condP_pos, condP_neg, optP_pos, decide_eq_true, decide_eq_false, wrap_i64, Int.natCast_inj, -BitVec.toNat_xor, -BitVec.toNat_and, -BitVec.toNat_or, -BitVec.toNat_not, -BitVec.toNat_ushiftRight, -BitVec.toNat_shiftLeft, -BitVec.toNat_mul, -UInt8.toNat_xor, -UInt8.toNat_and, -UInt8.toNat_or, -UInt8.toNat_shiftLeft, -UInt8.toNat_shiftRight, c0]
  | true =>
    rw [if_pos rfl]
    simp -dsimp -implicitDefEqProofs (maxSteps := 1000000) (disch := omega) [condP_pos, condP_neg, optP_pos, decide_eq_true, decide_eq_false, wrap_i64, Int.natCast_inj, -BitVec.toNat_xor, -BitVec.toNat_and, -BitVec.toNat_or, -BitVec.toNat_not, -BitVec.toNat_ushiftRight, -BitVec.toNat_shiftLeft, -BitVec.toNat_mul, -UInt8.toNat_xor, -UInt8.toNat_and, -UInt8.toNat_or, -UInt8.toNat_shiftLeft, -UInt8.toNat_shiftRight, c0]
    refine wp_inv (S25 l rest) (fun a => a.1 ≤ l.length ∧ a.2.1 ++ b64F a.2.2.1 a.2.2.2 (cutG (l.drop a.1)) = b64F 0 0 (cutG l) ∧ a.2.1.length ≤ 3 * a.1 ∧ a.2.2.2 ≤ 3 ∧ a.2.2.1 < 64 ^ a.2.2.2) (fun a => l.length - a.1) (0, [], 0, 0) ⟨by simp, by simp, by simp, by simp, by simp⟩ (by simp -dsimp -implicitDefEqProofs (maxSteps := 1000000) (disch := omega) [condP_pos, condP_neg, optP_pos, decide_eq_true, decide_eq_false, wrap_i64, Int.natCast_inj, -BitVec.toNat_xor, -BitVec.toNat_and, -BitVec.toNat_or, -BitVec.toNat_not, -BitVec.toNat_ushiftRight, -BitVec.toNat_shiftLeft, -BitVec.toNat_mul, -UInt8.toNat_xor, -UInt8.toNat_and, -UInt8.toNat_or, -UInt8.toNat_shiftLeft, -UInt8.toNat_shiftRight, S25]) ?_
    rintro ⟨i, o, x, n⟩ ⟨h0, ho, hol, hn, hx⟩
    simp only at h0 ho hol hn hx
    have tk1 : ∀ b, bytesOf' (List.take (o.length + 1) (List.map eB o ++ [eB b])) = some (o ++ [b]) := fun b => by
      rw [List.take_of_length_le (by simp), ← bytesOf_map (o ++ [b]), List.map_append]; rfl
    have tk2 : ∀ b c, bytesOf' (List.take (o.length + 2) (List.map eB o ++ [eB b, eB c])) = some (o ++ [b, c]) := fun b c => by
      rw [List.take_of_length_le (by simp), ← bytesOf_map (o ++ [b, c]), List.map_append]; rfl
    have fin : cutG (l.drop i) = [] → b64F 0 0 (cutG l) = o ++ pend x n := by
      intro e
      rw [← ho, e]
      cases n <;> rfl
    by_cases h : i < l.length
    · obtain ⟨c, hc⟩ : ∃ c, l[i] = c := ⟨_, rfl⟩
      have hcl := c.toNat_lt
      by_cases h61 : c.toNat = 61
      · have hf := fin (cut_stop l i c h hc h61)
        have h61 := eq_true h61
        rw [hf]
        have f1 := fdiv_nat x 16
        have f2 := fdiv_nat x 1024
        have f3 := fdiv_nat x 4
        have w1 := byte_wrap x 16
        have w2 := byte_wrap x 1024
        have w3 := byte_wrap x 4
        have hc4 : n = 0 ∨ n = 1 ∨ n = 2 ∨ n = 3 := by omega
        rcases hc4 with rfl | rfl | rfl | rfl
        · simp only [pend, List.append_nil]
          simp -dsimp -implicitDefEqProofs (maxSteps := 1000000) (disch := omega) [condP_pos, condP_neg, optP_pos, decide_eq_true, decide_eq_false, wrap_i64, Int.natCast_inj, -BitVec.toNat_xor, -BitVec.toNat_and, -BitVec.toNat_or, -BitVec.toNat_not, -BitVec.toNat_ushiftRight, -BitVec.toNat_shiftLeft, -BitVec.toNat_mul, -UInt8.toNat_xor, -UInt8.toNat_and, -UInt8.toNat_or, -UInt8.toNat_shiftLeft, -UInt8.toNat_shiftRight, S25, h, hc, h61]
        · simp only [pend, List.append_nil]
          simp -dsimp -implicitDefEqProofs (maxSteps := 1000000) (disch := omega) [condP_pos, condP_neg, optP_pos, decide_eq_true, decide_eq_false, wrap_i64, Int.natCast_inj, -BitVec.toNat_xor, -BitVec.toNat_and, -BitVec.toNat_or, -BitVec.toNat_not, -BitVec.toNat_ushiftRight, -BitVec.toNat_shiftLeft, -BitVec.toNat_mul, -UInt8.toNat_xor, -UInt8.toNat_and, -UInt8.toNat_or, -UInt8.toNat_shiftLeft, -UInt8.toNat_shiftRight, S25, h, hc, h61]
        · simp only [pend]
          generalize UInt8.ofNat (x / 16) = b1 at *
          generalize x / 16 = y1 at *
          have f1 : (x : Int).fdiv 16 = (y1 : Int) := f1
          simp -dsimp -implicitDefEqProofs (maxSteps := 1000000) (disch := omega) [condP_pos, condP_neg, optP_pos, decide_eq_true, decide_eq_false, wrap_i64, Int.natCast_inj, -BitVec.toNat_xor, -BitVec.toNat_and, -BitVec.toNat_or, -BitVec.toNat_not, -BitVec.toNat_ushiftRight, -BitVec.toNat_shiftLeft, -BitVec.toNat_mul, -UInt8.toNat_xor, -UInt8.toNat_and, -UInt8.toNat_or, -UInt8.toNat_shiftLeft, -UInt8.toNat_shiftRight, S25, h, hc, h61, f1, w1, eB_mk, show o.length + 1 ≤ 140737488355328 by omega, tk1]
        · simp only [pend]
          generalize UInt8.ofNat (x / 1024) = b1 at *
          generalize UInt8.ofNat (x / 4) = b2 at *
          generalize x / 1024 = y1 at *
          generalize x / 4 = y2 at *
          have f2 : (x : Int).fdiv 1024 = (y1 : Int) := f2
          have f3 : (x : Int).fdiv 4 = (y2 : Int) := f3
          simp -dsimp -implicitDefEqProofs (maxSteps := 1000000) (disch := omega) [condP_pos, condP_neg, optP_pos, decide_eq_true, decide_eq_false, wrap_i64, Int.natCast_inj, -BitVec.toNat_xor, -BitVec.toNat_and, -BitVec.toNat_or, -BitVec.toNat_not, -BitVec.toNat_ushiftRight, -BitVec.toNat_shiftLeft, -BitVec.toNat_mul, -UInt8.toNat_xor, -UInt8.toNat_and, -UInt8.toNat_or, -UInt8.toNat_shiftLeft, -UInt8.toNat_shiftRight, S25, h, hc, h61, f2, f3, w2, w3, eB_mk, show o.length + 2 ≤ 140737488355328 by omega, tk2]
      · have hcs := cut_step l i c h hc h61
        have c1 := run_signvalue (e3 := e3) (e4 := e4) c
        have hb := sgnI_le c
        by_cases hneg : sgnI c < 0
        · simp -dsimp -implicitDefEqProofs (maxSteps := 1000000) (disch := omega) [condP_pos, condP_neg, optP_pos, decide_eq_true, decide_eq_false, wrap_i64, Int.natCast_inj, -BitVec.toNat_xor, -BitVec.toNat_and, -BitVec.toNat_or, -BitVec.toNat_not, -BitVec.toNat_ushiftRight, -BitVec.toNat_shiftLeft, -BitVec.toNat_mul, -UInt8.toNat_xor, -UInt8.toNat_and, -UInt8.toNat_or, -UInt8.toNat_shiftLeft, -UInt8.toNat_shiftRight, S25, h, hc, h61, c1, hneg]
          refine again (i + 1, o, x, n) ⟨by simp only; omega, by simp only; rw [← ho, hcs, b64F, if_pos hneg], by simp only; omega, hn, hx⟩ (by simp only; omega) (by simp -dsimp -implicitDefEqProofs (maxSteps := 1000000) (disch := omega) [condP_pos, condP_neg, optP_pos, decide_eq_true, decide_eq_false, wrap_i64, Int.natCast_inj, -BitVec.toNat_xor, -BitVec.toNat_and, -BitVec.toNat_or, -BitVec.toNat_not, -BitVec.toNat_ushiftRight, -BitVec.toNat_shiftLeft, -BitVec.toNat_mul, -UInt8.toNat_xor, -UInt8.toNat_and, -UInt8.toNat_or, -UInt8.toNat_shiftLeft, -UInt8.toNat_shiftRight, S25])
        · obtain ⟨d, hd⟩ : ∃ d : Nat, sgnI c = d := ⟨(sgnI c).toNat, by omega⟩
          rw [hd] at c1
          have hd0 : (sgnI c).toNat = d := by omega
          have hx3 : x < 262144 := by
            have : 64 ^ n ≤ 64 ^ 3 := Nat.pow_le_pow_right (by omega) hn
            omega
          have o1 := or_64 x d hx3 (by omega)
          have hy : x * 64 + d < 64 ^ (n + 1) := by rw [Nat.pow_succ]; omega
          have hst : b64F x n (c :: cutG (l.drop (i + 1))) = if n = 3 then UInt8.ofNat ((x * 64 + d) / 65536) :: UInt8.ofNat ((x * 64 + d) / 256) :: UInt8.ofNat (x * 64 + d) :: b64F 0 0 (cutG (l.drop (i + 1))) else b64F (x * 64 + d) (n + 1) (cutG (l.drop (i + 1))) := by
            rw [b64F, if_neg hneg, hd0]
          generalize x * 64 + d = y at *
          by_cases h3 : n = 3
          · rw [if_pos h3] at hst
            subst h3
            have f1 := fdiv_nat y 65536
            have f2 := fdiv_nat y 256
            have w1 := byte_wrap y 65536
            have w2 := byte_wrap y 256
            have w3 := byte_w y
            generalize UInt8.ofNat (y / 65536) = b1 at *
            generalize UInt8.ofNat (y / 256) = b2 at *
            generalize UInt8.ofNat y = b3 at *
            generalize y / 65536 = y1 at *
            generalize y / 256 = y2 at *
            have f1 : (y : Int).fdiv 65536 = (y1 : Int) := f1
            have f2 : (y : Int).fdiv 256 = (y2 : Int) := f2
            simp -dsimp -implicitDefEqProofs (maxSteps := 1000000) (disch := omega) [condP_pos, condP_neg, optP_pos, decide_eq_true, decide_eq_false, wrap_i64, Int.natCast_inj, -BitVec.toNat_xor, -BitVec.toNat_and, -BitVec.toNat_or, -BitVec.toNat_not, -BitVec.toNat_ushiftRight, -BitVec.toNat_shiftLeft, -BitVec.toNat_mul, -UInt8.toNat_xor, -UInt8.toNat_and, -UInt8.toNat_or, -UInt8.toNat_shiftLeft, -UInt8.toNat_shiftRight, S25, h, hc, h61, c1, o1, f1, f2, w1, w2, w3, eB_mk, show o.length + 3 ≤ 140737488355328 by omega]
            refine again (i + 1, o ++ [b1, b2, b3], 0, 0) ⟨by simp only; omega, by simp only; rw [← ho, hcs, hst, List.append_assoc]; rfl, by simp; omega, by simp, by simp⟩ (by simp only; omega) (by simp -dsimp -implicitDefEqProofs (maxSteps := 1000000) (disch := omega) [condP_pos, condP_neg, optP_pos, decide_eq_true, decide_eq_false, wrap_i64, Int.natCast_inj, -BitVec.toNat_xor, -BitVec.toNat_and, -BitVec.toNat_or, -BitVec.toNat_not, -BitVec.toNat_ushiftRight, -BitVec.toNat_shiftLeft, -BitVec.toNat_mul, -UInt8.toNat_xor, -UInt8.toNat_and, -UInt8.toNat_or, -UInt8.toNat_shiftLeft, -UInt8.toNat_shiftRight, S25])
          · rw [if_neg h3] at hst
            have h4 : ¬ (n : Int) + 1 = 4 := by omega
            simp -dsimp -implicitDefEqProofs (maxSteps := 1000000) (disch := omega) [condP_pos, condP_neg, optP_pos, decide_eq_true, decide_eq_false, wrap_i64, Int.natCast_inj, -BitVec.toNat_xor, -BitVec.toNat_and, -BitVec.toNat_or, -BitVec.toNat_not, -BitVec.toNat_ushiftRight, -BitVec.toNat_shiftLeft, -BitVec.toNat_mul, -UInt8.toNat_xor, -UInt8.toNat_and, -UInt8.toNat_or, -UInt8.toNat_shiftLeft, -UInt8.toNat_shiftRight, S25, h, hc, h61, c1, o1, h4]
            refine again (i + 1, o, y, n + 1) ⟨by simp only; omega, by simp only; rw [← ho, hcs, hst], by simp only; omega, by simp only; omega, hy⟩ (by simp only; omega) (by simp -dsimp -implicitDefEqProofs (maxSteps := 1000000) (disch := omega) [condP_pos, condP_neg, optP_pos, decide_eq_true, decide_eq_false, wrap_i64, Int.natCast_inj, -BitVec.toNat_xor, -BitVec.toNat_and, -BitVec.toNat_or, -BitVec.toNat_not, -BitVec.toNat_ushiftRight, -BitVec.toNat_shiftLeft, -BitVec.toNat_mul, -UInt8.toNat_xor, -UInt8.toNat_and, -UInt8.toNat_or, -UInt8.toNat_shiftLeft, -UInt8.toNat_shiftRight, S25])
    · have hf := fin (by rw [List.drop_of_length_le (by omega)]; rfl)
      rw [hf]
      have f1 := fdiv_nat x 16
      have f2 := fdiv_nat x 1024
      have f3 := fdiv_nat x 4
      have w1 := byte_wrap x 16
      have w2 := byte_wrap x 1024
      have w3 := byte_wrap x 4
      have hc4 : n = 0 ∨ n = 1 ∨ n = 2 ∨ n = 3 := by omega
      rcases hc4 with rfl | rfl | rfl | rfl
      · simp only [pend, List.append_nil]
        simp -dsimp -implicitDefEqProofs (maxSteps := 1000000) (disch := omega) [condP_pos, condP_neg, optP_pos, decide_eq_true, decide_eq_false, wrap_i64, Int.natCast_inj, -BitVec.toNat_xor, -BitVec.toNat_and, -BitVec.toNat_or, -BitVec.toNat_not, -BitVec.toNat_ushiftRight, -BitVec.toNat_shiftLeft, -BitVec.toNat_mul, -UInt8.toNat_xor, -UInt8.toNat_and, -UInt8.toNat_or, -UInt8.toNat_shiftLeft, -UInt8.toNat_shiftRight, S25, h]
      · simp only [pend, List.append_nil]
        simp -dsimp -implicitDefEqProofs (maxSteps := 1000000) (disch := omega) [condP_pos, condP_neg, optP_pos, decide_eq_true, decide_eq_false, wrap_i64, Int.natCast_inj, -BitVec.toNat_xor, -BitVec.toNat_and, -BitVec.toNat_or, -BitVec.toNat_not, -BitVec.toNat_ushiftRight, -BitVec.toNat_shiftLeft, -BitVec.toNat_mul, -UInt8.toNat_xor, -UInt8.toNat_and, -UInt8.toNat_or, -UInt8.toNat_shiftLeft, -UInt8.toNat_shiftRight, S25, h]
      · simp only [pend]
        generalize UInt8.ofNat (x / 16) = b1 at *
        generalize x / 16 = y1 at *
        have f1 : (x : Int).fdiv 16 = (y1 : Int) := f1
        simp -dsimp -implicitDefEqProofs (maxSteps := 1000000) (disch := omega) [condP_pos, condP_neg, optP_pos, decide_eq_true, decide_eq_false, wrap_i64, Int.natCast_inj, -BitVec.toNat_xor, -BitVec.toNat_and, -BitVec.toNat_or, -BitVec.toNat_not, -BitVec.toNat_ushiftRight, -BitVec.toNat_shiftLeft, -BitVec.toNat_mul, -UInt8.toNat_xor, -UInt8.toNat_and, -UInt8.toNat_or, -UInt8.toNat_shiftLeft, -UInt8.toNat_shiftRight, S25, h, f1, w1, eB_mk, show o.length + 1 ≤ 140737488355328 by omega, tk1]
      · simp only [pend]
        generalize UInt8.ofNat (x / 1024) = b1 at *
        generalize UInt8.ofNat (x / 4) = b2 at *
        generalize x / 1024 = y1 at *
        generalize x / 4 = y2 at *
        have f2 : (x : Int).fdiv 1024 = (y1 : Int) := f2
        have f3 : (x : Int).fdiv 4 = (y2 : Int) := f3
        simp -dsimp -implicitDefEqProofs (maxSteps := 1000000) (disch := omega) [condP_pos, condP_neg, optP_pos, decide_eq_true, decide_eq_false, wrap_i64, Int.natCast_inj, -BitVec.toNat_xor, -BitVec.toNat_and, -BitVec.toNat_or, -BitVec.toNat_not, -BitVec.toNat_ushiftRight, -BitVec.toNat_shiftLeft, -BitVec.toNat_mul, -UInt8.toNat_xor, -UInt8.toNat_and, -UInt8.toNat_or, -UInt8.toNat_shiftLeft, -UInt8.toNat_shiftRight, S25, h, f2, f3, w2, w3, eB_mk, show o.length + 2 ≤ 140737488355328 by omega, tk2]
end Go.Vai

set_option linter.unusedVariables false
set_option linter.unusedSimpArgs false
set_option linter.unnecessarySimpa false
set_option linter.unusedSectionVars false
namespace Go.Vai
variable {e3 e4 : Value}
/-! Signs are gathered. -/
def heldB (x : Nat) : Nat → Nat
  | 0 => 0
  | 1 => x
  | 2 => x % 16
  | _ => x % 4
def nbB : Nat → Int
  | 0 => 0
  | 1 => 6
  | 2 => 4
  | _ => 2
def S46 (l : List UInt8) (a : Nat × List UInt8 × Nat × Nat) : St := { sl := [(0, bs l), (1, i64 6), (2, .fn 46 []), (7, .osl 0 1 0 a.2.1.length), (8, i64 (heldB a.2.2.1 a.2.2.2)), (9, i64 (nbB a.2.2.2)), (15, i64 l.length), (16, i64 a.1)], hp := [(0, some (.arr 1 (a.2.1.map eB)))], nx := 1 }
theorem ofNat_mod (a b : Nat) (h : a % 256 = b % 256) : UInt8.ofNat a = UInt8.ofNat b := by
  apply UInt8.toNat_inj.1
  simp
  exact h
set_option maxHeartbeats 4000000 in
theorem run_gather6 (l : List UInt8) (hl : l.length ≤ 1000000) : (W e3 e4).run 41 [bs l, i64 6, .fn 46 []] [] = some (bs (b64F 0 0 l), []) := by
  refine run_wp (by rw [W_T]; exact rfl) ?_
  simp -dsimp -implicitDefEqProofs (maxSteps := 1000000) (disch := omega) [condP_pos, condP_neg, optP_pos, decide_eq_true, decide_eq_false, wrap_i64, Int.natCast_inj, -BitVec.toNat_xor, -BitVec.toNat_and, -BitVec.toNat_or, -BitVec.toNat_not, -BitVec.toNat_ushiftRight, -BitVec.toNat_shiftLeft, -BitVec.toNat_mul, -UInt8.toNat_xor, -UInt8.toNat_and, -UInt8.toNat_or, -UInt8.toNat_shiftLeft, -UInt8.toNat_shiftRight]
  refine wp_inv (S46 l) (fun a => a.1 ≤ l.length ∧ (∃ o, a.2.1 = o ++ pend a.2.2.1 a.2.2.2 ∧ o ++ b64F a.2.2.1 a.2.2.2 (l.drop a.1) = b64F 0 0 l) ∧ a.2.1.length ≤ a.1 ∧ a.2.2.2 ≤ 3 ∧ a.2.2.1 < 64 ^ a.2.2.2) (fun a => l.length - a.1) (0, [], 0, 0) ⟨by simp, ⟨[], by simp [pend], by simp⟩, by simp, by simp, by simp⟩ (by simp -dsimp -implicitDefEqProofs (maxSteps := 1000000) (disch := omega) [condP_pos, condP_neg, optP_pos, decide_eq_true, decide_eq_false, wrap_i64, Int.natCast_inj, -BitVec.toNat_xor, -BitVec.toNat_and, -BitVec.toNat_or, -BitVec.toNat_not, -BitVec.toNat_ushiftRight, -BitVec.toNat_shiftLeft, -BitVec.toNat_mul, -UInt8.toNat_xor, -UInt8.toNat_and, -UInt8.toNat_or, -UInt8.toNat_shiftLeft, -UInt8.toNat_shiftRight, S46, heldB, nbB]) ?_
  rintro ⟨i, q, x, n⟩ ⟨h0, ⟨o, hq, ho⟩, hol, hn, hx⟩
  simp only at h0 hq ho hol hn hx
  by_cases h : i < l.length
  · obtain ⟨c, hc⟩ : ∃ c, l[i] = c := ⟨_, rfl⟩
    have hcl := c.toNat_lt
    have c1 := run_sign (e3 := e3) (e4 := e4) c
    have hb := sgnI_le c
    by_cases hneg : sgnI c < 0
    · simp -dsimp -implicitDefEqProofs (maxSteps := 1000000) (disch := omega) [condP_pos, condP_neg, optP_pos, decide_eq_true, decide_eq_false, wrap_i64, Int.natCast_inj, -BitVec.toNat_xor, -BitVec.toNat_and, -BitVec.toNat_or, -BitVec.toNat_not, -BitVec.toNat_ushiftRight, -BitVec.toNat_shiftLeft, -BitVec.toNat_mul, -UInt8.toNat_xor, -UInt8.toNat_and, -UInt8.toNat_or, -UInt8.toNat_shiftLeft, -UInt8.toNat_shiftRight, S46, h, hc, c1, hneg]
      refine again (i + 1, q, x, n) ⟨by simp only; omega, ⟨o, hq, by simp only; rw [← ho, b64_neg x n l i c h hc hneg]⟩, by simp only; omega, hn, hx⟩ (by simp only; omega) (by simp -dsimp -implicitDefEqProofs (maxSteps := 1000000) (disch := omega) [condP_pos, condP_neg, optP_pos, decide_eq_true, decide_eq_false, wrap_i64, Int.natCast_inj, -BitVec.toNat_xor, -BitVec.toNat_and, -BitVec.toNat_or, -BitVec.toNat_not, -BitVec.toNat_ushiftRight, -BitVec.toNat_shiftLeft, -BitVec.toNat_mul, -UInt8.toNat_xor, -UInt8.toNat_and, -UInt8.toNat_or, -UInt8.toNat_shiftLeft, -UInt8.toNat_shiftRight, S46])
    · obtain ⟨d, hd⟩ : ∃ d : Nat, sgnI c = d := ⟨(sgnI c).toNat, by omega⟩
      rw [hd] at c1
      have hc4 : n = 0 ∨ n = 1 ∨ n = 2 ∨ n = 3 := by omega
      rcases hc4 with rfl | rfl | rfl | rfl
      · have hx0 : x = 0 := by simpa using hx
        subst hx0
        have o1 := or_0 d (by omega)
        have st := b64_less 0 0 l i c d h hc hd (by decide)
        simp -dsimp -implicitDefEqProofs (maxSteps := 1000000) (disch := omega) [condP_pos, condP_neg, optP_pos, decide_eq_true, decide_eq_false, wrap_i64, Int.natCast_inj, -BitVec.toNat_xor, -BitVec.toNat_and, -BitVec.toNat_or, -BitVec.toNat_not, -BitVec.toNat_ushiftRight, -BitVec.toNat_shiftLeft, -BitVec.toNat_mul, -UInt8.toNat_xor, -UInt8.toNat_and, -UInt8.toNat_or, -UInt8.toNat_shiftLeft, -UInt8.toNat_shiftRight, S46, h, hc, c1, heldB, nbB, o1]
        refine again (i + 1, q, 0 * 64 + d, 1) ⟨by simp only; omega, ⟨o, by rw [hq]; rfl, by simp only; rw [← ho, st]⟩, by simp only; omega, by simp, by simp only; omega⟩ (by simp only; omega) (by simp -dsimp -implicitDefEqProofs (maxSteps := 1000000) (disch := omega) [condP_pos, condP_neg, optP_pos, decide_eq_true, decide_eq_false, wrap_i64, Int.natCast_inj, -BitVec.toNat_xor, -BitVec.toNat_and, -BitVec.toNat_or, -BitVec.toNat_not, -BitVec.toNat_ushiftRight, -BitVec.toNat_shiftLeft, -BitVec.toNat_mul, -UInt8.toNat_xor, -UInt8.toNat_and, -UInt8.toNat_or, -UInt8.toNat_shiftLeft, -UInt8.toNat_shiftRight, S46, heldB, nbB])
      · have hx1 : x < 64 := by simpa using hx
        have o1 := or_64 x d (by omega) (by omega)
        have st := b64_less x 1 l i c d h hc hd (by decide)
        have hy : x * 64 + d < 4096 := by omega
        generalize x * 64 + d = y at *
        have f1 : (y : Int).fdiv 16 = ((y / 16 : Nat) : Int) := fdiv_nat y 16
        have w1 := byte_wrap y 16
        have a1 := and_m y 4 (by omega) (by omega) 15 rfl
        have a1 : binS .and (.int .i64 (y : Int)) (.int .i64 15) = some (.int .i64 ((y % 16 : Nat) : Int)) := a1
        have hp : pend y 2 = [UInt8.ofNat (y / 16)] := rfl
        generalize UInt8.ofNat (y / 16) = b1 at *
        generalize y / 16 = y1 at *
        obtain ⟨r, hr⟩ : ∃ r, y % 16 = r := ⟨_, rfl⟩
        rw [hr] at a1
        simp -dsimp -implicitDefEqProofs (maxSteps := 1000000) (disch := omega) [condP_pos, condP_neg, optP_pos, decide_eq_true, decide_eq_false, wrap_i64, Int.natCast_inj, -BitVec.toNat_xor, -BitVec.toNat_and, -BitVec.toNat_or, -BitVec.toNat_not, -BitVec.toNat_ushiftRight, -BitVec.toNat_shiftLeft, -BitVec.toNat_mul, -UInt8.toNat_xor, -UInt8.toNat_and, -UInt8.toNat_or, -UInt8.toNat_shiftLeft, -UInt8.toNat_shiftRight, S46, h, hc, c1, heldB, nbB, o1, f1, w1, a1, eB_mk, show q.length + 1 ≤ 140737488355328 by omega]
        refine again (i + 1, q ++ [b1], y, 2) ⟨by simp only; omega, ⟨o, by simp only; rw [hq, hp]; simp [pend], by simp only; rw [← ho, st]⟩, by simp; omega, by simp, by simp only; omega⟩ (by simp only; omega) (by simp -dsimp -implicitDefEqProofs (maxSteps := 1000000) (disch := omega) [condP_pos, condP_neg, optP_pos, decide_eq_true, decide_eq_false, wrap_i64, Int.natCast_inj, -BitVec.toNat_xor, -BitVec.toNat_and, -BitVec.toNat_or, -BitVec.toNat_not, -BitVec.toNat_ushiftRight, -BitVec.toNat_shiftLeft, -BitVec.toNat_mul, -UInt8.toNat_xor, -UInt8.toNat_and, -UInt8.toNat_or, -UInt8.toNat_shiftLeft, -UInt8.toNat_shiftRight, S46, heldB, nbB, hr])
      · have hx1 : x < 4096 := by simpa using hx
        have o1 := or_64 (x % 16) d (by omega) (by omega)
        have st := b64_less x 2 l i c d h hc hd (by decide)
        have hy : x * 64 + d < 262144 := by omega
        have hz : x % 16 * 64 + d < 1024 := by omega
        have hp : pend x 2 ++ [UInt8.ofNat ((x % 16 * 64 + d) / 4)] = pend (x * 64 + d) 3 := by
          simp only [pend]
          show [_, _] = [_, _]
          rw [show (x * 64 + d) / 1024 = x / 16 by omega, ofNat_mod ((x % 16 * 64 + d) / 4) ((x * 64 + d) / 4) (by omega)]
        have hm : (x % 16 * 64 + d) % 4 = (x * 64 + d) % 4 := by omega
        generalize x * 64 + d = y at *
        obtain ⟨z, hz0⟩ : ∃ z, x % 16 * 64 + d = z := ⟨_, rfl⟩
        rw [hz0] at o1 hz hp hm
        have f1 : (z : Int).fdiv 4 = ((z / 4 : Nat) : Int) := fdiv_nat z 4
        have w1 := byte_wrap z 4
        have a1 := and_m z 2 (by omega) (by omega) 3 rfl
        have a1 : binS .and (.int .i64 (z : Int)) (.int .i64 3) = some (.int .i64 ((z % 4 : Nat) : Int)) := a1
        rw [hm] at a1
        generalize UInt8.ofNat (z / 4) = b1 at *
        generalize z / 4 = y1 at *
        obtain ⟨r, hr⟩ : ∃ r, y % 4 = r := ⟨_, rfl⟩
        obtain ⟨k, hk⟩ : ∃ k, x % 16 = k := ⟨_, rfl⟩
        rw [hr] at a1
        rw [hk] at o1
        simp -dsimp -implicitDefEqProofs (maxSteps := 1000000) (disch := omega) [condP_pos, condP_neg, optP_pos, decide_eq_true, decide_eq_false, wrap_i64, Int.natCast_inj, -BitVec.toNat_xor, -BitVec.toNat_and, -BitVec.toNat_or, -BitVec.toNat_not, -BitVec.toNat_ushiftRight, -BitVec.toNat_shiftLeft, -BitVec.toNat_mul, -UInt8.toNat_xor, -UInt8.toNat_and, -UInt8.toNat_or, -UInt8.toNat_shiftLeft, -UInt8.toNat_shiftRight, S46, h, hc, c1, heldB, nbB, hk, o1, f1, w1, a1, eB_mk, show q.length + 1 ≤ 140737488355328 by omega]
        refine again (i + 1, q ++ [b1], y, 3) ⟨by simp only; omega, ⟨o, by simp only; rw [hq, List.append_assoc, hp], by simp only; rw [← ho, st]⟩, by simp; omega, by simp, by simp only; omega⟩ (by simp only; omega) (by simp -dsimp -implicitDefEqProofs (maxSteps := 1000000) (disch := omega) [condP_pos, condP_neg, optP_pos, decide_eq_true, decide_eq_false, wrap_i64, Int.natCast_inj, -BitVec.toNat_xor, -BitVec.toNat_and, -BitVec.toNat_or, -BitVec.toNat_not, -BitVec.toNat_ushiftRight, -BitVec.toNat_shiftLeft, -BitVec.toNat_mul, -UInt8.toNat_xor, -UInt8.toNat_and, -UInt8.toNat_or, -UInt8.toNat_shiftLeft, -UInt8.toNat_shiftRight, S46, heldB, nbB, hr])
      · have hx1 : x < 262144 := by simpa using hx
        have o1 := or_64 (x % 4) d (by omega) (by omega)
        have st := b64_four x l i c d h hc hd
        have hz : x % 4 * 64 + d < 256 := by omega
        have hp : pend x 3 ++ [UInt8.ofNat (x % 4 * 64 + d)] = [UInt8.ofNat ((x * 64 + d) / 65536), UInt8.ofNat ((x * 64 + d) / 256), UInt8.ofNat (x * 64 + d)] := by
          simp only [pend]
          show [_, _, _] = [_, _, _]
          rw [show (x * 64 + d) / 65536 = x / 1024 by omega, show (x * 64 + d) / 256 = x / 4 by omega, ofNat_mod (x % 4 * 64 + d) (x * 64 + d) (by omega)]
        obtain ⟨z, hz0⟩ : ∃ z, x % 4 * 64 + d = z := ⟨_, rfl⟩
        rw [hz0] at o1 hz hp
        have w1 := byte_w z
        generalize UInt8.ofNat z = b1 at *
        obtain ⟨k, hk⟩ : ∃ k, x % 4 = k := ⟨_, rfl⟩
        rw [hk] at o1
        simp -dsimp -implicitDefEqProofs (maxSteps := 1000000) (disch := omega) [condP_pos, condP_neg, optP_pos, decide_eq_true, decide_eq_false, wrap_i64, Int.natCast_inj, -BitVec.toNat_xor, -BitVec.toNat_and, -BitVec.toNat_or, -BitVec.toNat_not, -BitVec.toNat_ushiftRight, -BitVec.toNat_shiftLeft, -BitVec.toNat_mul, -UInt8.toNat_xor, -UInt8.toNat_and, -UInt8.toNat_or, -UInt8.toNat_shiftLeft, -UInt8.toNat_shiftRight, S46, h, hc, c1, heldB, nbB, hk, o1, w1, and_0, eB_mk, show q.length + 1 ≤ 140737488355328 by omega]
        refine again (i + 1, q ++ [b1], 0, 0) ⟨by simp only; omega, ⟨q ++ [b1], by simp [pend], by simp only; rw [← ho, st, hq, List.append_assoc o, hp, List.append_assoc]; rfl⟩, by simp; omega, by simp, by simp⟩ (by simp only; omega) (by simp -dsimp -implicitDefEqProofs (maxSteps := 1000000) (disch := omega) [condP_pos, condP_neg, optP_pos, decide_eq_true, decide_eq_false, wrap_i64, Int.natCast_inj, -BitVec.toNat_xor, -BitVec.toNat_and, -BitVec.toNat_or, -BitVec.toNat_not, -BitVec.toNat_ushiftRight, -BitVec.toNat_shiftLeft, -BitVec.toNat_mul, -UInt8.toNat_xor, -UInt8.toNat_and, -UInt8.toNat_or, -UInt8.toNat_shiftLeft, -UInt8.toNat_shiftRight, S46, heldB, nbB])
  · have e : q = b64F 0 0 l := by
      rw [← ho, hq, List.drop_of_length_le (by omega)]
      cases n <;> rfl
    rw [← e]
    simp -dsimp -implicitDefEqProofs (maxSteps := 1000000) (disch := omega) [condP_pos, condP_neg, optP_pos, decide_eq_true, decide_eq_false, wrap_i64, Int.natCast_inj, -BitVec.toNat_xor, -BitVec.toNat_and, -BitVec.toNat_or, -BitVec.toNat_not, -BitVec.toNat_ushiftRight, -BitVec.toNat_shiftLeft, -BitVec.toNat_mul, -UInt8.toNat_xor, -UInt8.toNat_and, -UInt8.toNat_or, -UInt8.toNat_shiftLeft, -UInt8.toNat_shiftRight, S46, h]
theorem cut_len (l : List UInt8) : (cutG l).length ≤ l.length := by
  unfold cutG
  exact (List.takeWhile_sublist _).length_le
theorem run_unb64 (l : List UInt8) (left : Int) (hl : l.length ≤ 1000000) (hi : inI left) : (W e3 e4).run 24 [bs l, i64 left] [] = some (.tup [bs (unb64G l left).1, i64 (unb64G l left).2], []) := by
  have c0 := run_spend (e3 := e3) (e4 := e4) left l.length hi ⟨by omega, by omega⟩
  have hcl := cut_len l
  have c1 := run_gather6 (e3 := e3) (e4 := e4) (cutG l) (by omega)
  obtain ⟨r, t, c4⟩ := run_cut (e3 := e3) (e4 := e4) l hl
  have c2 : (W e3 e4).run 44 [bs l] [] = some (bs (b64F 0 0 (cutG l)), []) := by
    refine run_wp (by rw [W_T]; exact rfl) ?_
    simp -dsimp -implicitDefEqProofs (maxSteps := 1000000) (disch := omega) [condP_pos, condP_neg, optP_pos, decide_eq_true, decide_eq_false, wrap_i64, Int.natCast_inj, -BitVec.toNat_xor, -BitVec.toNat_and, -BitVec.toNat_or, -BitVec.toNat_not, -BitVec.toNat_ushiftRight, -BitVec.toNat_shiftLeft, -BitVec.toNat_mul, -UInt8.toNat_xor, -UInt8.toNat_and, -UInt8.toNat_or, -UInt8.toNat_shiftLeft, -UInt8.toNat_shiftRight, c4, c1]
  unfold unb64G
  generalize b64F 0 0 (cutG l) = x at *
  have c3 : (W e3 e4).run 39 [bs l, i64 left, .fn 44 []] [] = some (.tup [bs (if (spendG left l.length).2 = true then (x, (spendG left l.length).1) else ([], 0)).1, i64 (if (spendG left l.length).2 = true then (x, (spendG left l.length).1) else ([], 0)).2], []) := by
    refine run_wp (by rw [W_T]; exact rfl) ?_
    generalize spendG left l.length = sp at *
    obtain ⟨rest, ok⟩ := sp
    simp only at c0 ⊢
    cases ok with
    | false =>
      rw [if_neg (by simp)]
      simp -dsimp -implicitDefEqProofs (maxSteps := 1000000) (disch := omega) [condP_pos, condP_neg, optP_pos, decide_eq_true, decide_eq_false, wrap_i64, Int.natCast_inj, -BitVec.toNat_xor, -BitVec.toNat_and, -BitVec.toNat_or, -BitVec.toNat_not, -BitVec.toNat_ushiftRight, -BitVec.toNat_shiftLeft, -BitVec.toNat_mul, -UInt8.toNat_xor, -UInt8.toNat_and, -UInt8.toNat_or, -UInt8.toNat_shiftLeft, -UInt8.toNat_shiftRight, c0]
    | true =>
      rw [if_pos rfl]
      simp -dsimp -implicitDefEqProofs (maxSteps := 1000000) (disch := omega) [condP_pos, condP_neg, optP_pos, decide_eq_true, decide_eq_false, wrap_i64, Int.natCast_inj, -BitVec.toNat_xor, -BitVec.toNat_and, -BitVec.toNat_or, -BitVec.toNat_not, -BitVec.toNat_ushiftRight, -BitVec.toNat_shiftLeft, -BitVec.toNat_mul, -UInt8.toNat_xor, -UInt8.toNat_and, -UInt8.toNat_or, -UInt8.toNat_shiftLeft, -UInt8.toNat_shiftRight, c0, c2]
  refine run_wp (by rw [W_T]; exact rfl) ?_
  generalize spendG left l.length = sp at *
  obtain ⟨rest, ok⟩ := sp
  cases ok with
  | false =>
    rw [if_neg (by simp)] at c3 ⊢
    simp -dsimp -implicitDefEqProofs (maxSteps := 1000000) (disch := omega) [condP_pos, condP_neg, optP_pos, decide_eq_true, decide_eq_false, wrap_i64, Int.natCast_inj, -BitVec.toNat_xor, -BitVec.toNat_and, -BitVec.toNat_or, -BitVec.toNat_not, -BitVec.toNat_ushiftRight, -BitVec.toNat_shiftLeft, -BitVec.toNat_mul, -UInt8.toNat_xor, -UInt8.toNat_and, -UInt8.toNat_or, -UInt8.toNat_shiftLeft, -UInt8.toNat_shiftRight, c3]
  | true =>
    rw [if_pos rfl] at c3 ⊢
    simp -dsimp -implicitDefEqProofs (maxSteps := 1000000) (disch := omega) [condP_pos, condP_neg, optP_pos, decide_eq_true, decide_eq_false, wrap_i64, Int.natCast_inj, -BitVec.toNat_xor, -BitVec.toNat_and, -BitVec.toNat_or, -BitVec.toNat_not, -BitVec.toNat_ushiftRight, -BitVec.toNat_shiftLeft, -BitVec.toNat_mul, -UInt8.toNat_xor, -UInt8.toNat_and, -UInt8.toNat_or, -UInt8.toNat_shiftLeft, -UInt8.toNat_shiftRight, c3]
theorem law_reads (l : List UInt8) (left : Int) (hi : inI left) : (W e3 e4).run 8 [bs l, i64 left] [] = some (bo true, []) := by
  refine run_wp (by rw [W_T]; exact rfl) ?_
  by_cases h1 : 5000 < l.length
  · simp -dsimp -implicitDefEqProofs (maxSteps := 1000000) (disch := omega) [condP_pos, condP_neg, optP_pos, decide_eq_true, decide_eq_false, wrap_i64, Int.natCast_inj, -BitVec.toNat_xor, -BitVec.toNat_and, -BitVec.toNat_or, -BitVec.toNat_not, -BitVec.toNat_ushiftRight, -BitVec.toNat_shiftLeft, -BitVec.toNat_mul, -UInt8.toNat_xor, -UInt8.toNat_and, -UInt8.toNat_or, -UInt8.toNat_shiftLeft, -UInt8.toNat_shiftRight, run_sane, h1]
  · have c1 := run_unhex (e3 := e3) (e4 := e4) l left (by omega) hi
    have c2 := run_runhex (e3 := e3) (e4 := e4) l left (by omega) hi
    have c3 := run_unb64 (e3 := e3) (e4 := e4) l left (by omega) hi
    have c4 := run_runb64 (e3 := e3) (e4 := e4) l left (by omega) hi
    generalize unhexG l left = a at *
    generalize unb64G l left = b at *
    simp -dsimp -implicitDefEqProofs (maxSteps := 1000000) (disch := omega) [condP_pos, condP_neg, optP_pos, decide_eq_true, decide_eq_false, wrap_i64, Int.natCast_inj, -BitVec.toNat_xor, -BitVec.toNat_and, -BitVec.toNat_or, -BitVec.toNat_not, -BitVec.toNat_ushiftRight, -BitVec.toNat_shiftLeft, -BitVec.toNat_mul, -UInt8.toNat_xor, -UInt8.toNat_and, -UInt8.toNat_or, -UInt8.toNat_shiftLeft, -UInt8.toNat_shiftRight, run_sane, h1, c1, c2, c3, c4]
end Go.Vai
