/-
  What functions of layer 1 and of its reference compute: equations of the abstract run, and plain laws of them.
-/
import Derived.Test.YthejhdkdfjinbaaDoorO1
set_option linter.unusedVariables false
set_option linter.unusedSimpArgs false
set_option linter.unnecessarySimpa false
set_option linter.unusedSectionVars false
namespace Go.Vai
variable {e3 e4 : Value}
/-! Words. -/
def hxI (b : UInt8) : Int := if 48 ≤ b.toNat ∧ b.toNat ≤ 57 then (b.toNat : Int) - 48 else if 97 ≤ b.toNat ∧ b.toNat ≤ 102 then (b.toNat : Int) - 87 else if 65 ≤ b.toNat ∧ b.toNat ≤ 70 then (b.toNat : Int) - 55 else -1
theorem hxI_le (b : UInt8) : -1 ≤ hxI b ∧ hxI b ≤ 15 := by
  unfold hxI
  split
  · omega
  · split
    · omega
    · split <;> omega
theorem run_hexdigit (b : UInt8) : (W e3 e4).run 42 [u8 b.toNat] [] = some (i64 (hxI b), []) := by
  have hb := b.toNat_lt
  refine run_wp (by rw [W_T]; exact rfl) ?_
  unfold hxI
  by_cases h1 : 48 ≤ b.toNat
  · by_cases h2 : b.toNat ≤ 57
    · rw [if_pos ⟨h1, h2⟩]
      simp -dsimp -implicitDefEqProofs (maxSteps := 1000000) (disch := omega) [condP_pos, condP_neg, optP_pos, decide_eq_true, decide_eq_false, wrap_i64, Int.natCast_inj, -BitVec.toNat_xor, -BitVec.toNat_and, -BitVec.toNat_or, -BitVec.toNat_not, -BitVec.toNat_ushiftRight, -BitVec.toNat_shiftLeft, -BitVec.toNat_mul, -UInt8.toNat_xor, -UInt8.toNat_and, -UInt8.toNat_or, -UInt8.toNat_shiftLeft, -UInt8.toNat_shiftRight, h1, h2, wrap_u8]
    · rw [if_neg (by omega)]
      by_cases h3 : 97 ≤ b.toNat
      · by_cases h4 : b.toNat ≤ 102
        · rw [if_pos ⟨h3, h4⟩]
          have e : (b.toNat : Int) - 97 + 10 = b.toNat - 87 := by omega
          simp -dsimp -implicitDefEqProofs (maxSteps := 1000000) (disch := omega) [condP_pos, condP_neg, optP_pos, decide_eq_true, decide_eq_false, wrap_i64, Int.natCast_inj, -BitVec.toNat_xor, -BitVec.toNat_and, -BitVec.toNat_or, -BitVec.toNat_not, -BitVec.toNat_ushiftRight, -BitVec.toNat_shiftLeft, -BitVec.toNat_mul, -UInt8.toNat_xor, -UInt8.toNat_and, -UInt8.toNat_or, -UInt8.toNat_shiftLeft, -UInt8.toNat_shiftRight, h1, h2, h3, h4, wrap_u8, e]
        · rw [if_neg (by omega), if_neg (by omega)]
          have h5 : ¬ b.toNat ≤ 70 := by omega
          have h6 : 65 ≤ b.toNat := by omega
          simp -dsimp -implicitDefEqProofs (maxSteps := 1000000) (disch := omega) [condP_pos, condP_neg, optP_pos, decide_eq_true, decide_eq_false, wrap_i64, Int.natCast_inj, -BitVec.toNat_xor, -BitVec.toNat_and, -BitVec.toNat_or, -BitVec.toNat_not, -BitVec.toNat_ushiftRight, -BitVec.toNat_shiftLeft, -BitVec.toNat_mul, -UInt8.toNat_xor, -UInt8.toNat_and, -UInt8.toNat_or, -UInt8.toNat_shiftLeft, -UInt8.toNat_shiftRight, h1, h2, h3, h4, h5, h6]
      · rw [if_neg (by omega)]
        by_cases h5 : 65 ≤ b.toNat
        · by_cases h6 : b.toNat ≤ 70
          · rw [if_pos ⟨h5, h6⟩]
            have e : (b.toNat : Int) - 65 + 10 = b.toNat - 55 := by omega
            simp -dsimp -implicitDefEqProofs (maxSteps := 1000000) (disch := omega) [condP_pos, condP_neg, optP_pos, decide_eq_true, decide_eq_false, wrap_i64, Int.natCast_inj, -BitVec.toNat_xor, -BitVec.toNat_and, -BitVec.toNat_or, -BitVec.toNat_not, -BitVec.toNat_ushiftRight, -BitVec.toNat_shiftLeft, -BitVec.toNat_mul, -UInt8.toNat_xor, -UInt8.toNat_and, -UInt8.toNat_or, -UInt8.toNat_shiftLeft, -UInt8.toNat_shiftRight, h1, h2, h3, h5, h6, wrap_u8, e]
          · rw [if_neg (by omega)]
            simp -dsimp -implicitDefEqProofs (maxSteps := 1000000) (disch := omega) [condP_pos, condP_neg, optP_pos, decide_eq_true, decide_eq_false, wrap_i64, Int.natCast_inj, -BitVec.toNat_xor, -BitVec.toNat_and, -BitVec.toNat_or, -BitVec.toNat_not, -BitVec.toNat_ushiftRight, -BitVec.toNat_shiftLeft, -BitVec.toNat_mul, -UInt8.toNat_xor, -UInt8.toNat_and, -UInt8.toNat_or, -UInt8.toNat_shiftLeft, -UInt8.toNat_shiftRight, h1, h2, h3, h5, h6]
        · rw [if_neg (by omega)]
          simp -dsimp -implicitDefEqProofs (maxSteps := 1000000) (disch := omega) [condP_pos, condP_neg, optP_pos, decide_eq_true, decide_eq_false, wrap_i64, Int.natCast_inj, -BitVec.toNat_xor, -BitVec.toNat_and, -BitVec.toNat_or, -BitVec.toNat_not, -BitVec.toNat_ushiftRight, -BitVec.toNat_shiftLeft, -BitVec.toNat_mul, -UInt8.toNat_xor, -UInt8.toNat_and, -UInt8.toNat_or, -UInt8.toNat_shiftLeft, -UInt8.toNat_shiftRight, h1, h2, h3, h5]
  · rw [if_neg (by omega), if_neg (by omega), if_neg (by omega)]
    have h3 : ¬ 97 ≤ b.toNat := by omega
    have h5 : ¬ 65 ≤ b.toNat := by omega
    simp -dsimp -implicitDefEqProofs (maxSteps := 1000000) (disch := omega) [condP_pos, condP_neg, optP_pos, decide_eq_true, decide_eq_false, wrap_i64, Int.natCast_inj, -BitVec.toNat_xor, -BitVec.toNat_and, -BitVec.toNat_or, -BitVec.toNat_not, -BitVec.toNat_ushiftRight, -BitVec.toNat_shiftLeft, -BitVec.toNat_mul, -UInt8.toNat_xor, -UInt8.toNat_and, -UInt8.toNat_or, -UInt8.toNat_shiftLeft, -UInt8.toNat_shiftRight, h1, h3, h5]
theorem run_hexvalue (b : UInt8) : (W e3 e4).run 43 [u8 b.toNat] [] = some (i64 (hxI b), []) := by
  have hb := b.toNat_lt
  refine run_wp (by rw [W_T]; exact rfl) ?_
  unfold hxI
  by_cases h1 : 48 ≤ b.toNat
  · by_cases h2 : b.toNat ≤ 57
    · rw [if_pos ⟨h1, h2⟩]
      simp -dsimp -implicitDefEqProofs (maxSteps := 1000000) (disch := omega) [condP_pos, condP_neg, optP_pos, decide_eq_true, decide_eq_false, wrap_i64, Int.natCast_inj, -BitVec.toNat_xor, -BitVec.toNat_and, -BitVec.toNat_or, -BitVec.toNat_not, -BitVec.toNat_ushiftRight, -BitVec.toNat_shiftLeft, -BitVec.toNat_mul, -UInt8.toNat_xor, -UInt8.toNat_and, -UInt8.toNat_or, -UInt8.toNat_shiftLeft, -UInt8.toNat_shiftRight, h1, h2, wrap_u8]
    · rw [if_neg (by omega)]
      by_cases h3 : 97 ≤ b.toNat
      · by_cases h4 : b.toNat ≤ 102
        · rw [if_pos ⟨h3, h4⟩]
          have e : (b.toNat : Int) - 97 + 10 = b.toNat - 87 := by omega
          simp -dsimp -implicitDefEqProofs (maxSteps := 1000000) (disch := omega) [condP_pos, condP_neg, optP_pos, decide_eq_true, decide_eq_false, wrap_i64, Int.natCast_inj, -BitVec.toNat_xor, -BitVec.toNat_and, -BitVec.toNat_or, -BitVec.toNat_not, -BitVec.toNat_ushiftRight, -BitVec.toNat_shiftLeft, -BitVec.toNat_mul, -UInt8.toNat_xor, -UInt8.toNat_and, -UInt8.toNat_or, -UInt8.toNat_shiftLeft, -UInt8.toNat_shiftRight, h1, h2, h3, h4, wrap_u8, e]
        · rw [if_neg (by omega), if_neg (by omega)]
          have h5 : ¬ b.toNat ≤ 70 := by omega
          have h6 : 65 ≤ b.toNat := by omega
          simp -dsimp -implicitDefEqProofs (maxSteps := 1000000) (disch := omega) [condP_pos, condP_neg, optP_pos, decide_eq_true, decide_eq_false, wrap_i64, Int.natCast_inj, -BitVec.toNat_xor, -BitVec.toNat_and, -BitVec.toNat_or, -BitVec.toNat_not, -BitVec.toNat_ushiftRight, -BitVec.toNat_shiftLeft, -BitVec.toNat_mul, -UInt8.toNat_xor, -UInt8.toNat_and, -UInt8.toNat_or, -UInt8.toNat_shiftLeft, -UInt8.toNat_shiftRight, h1, h2, h3, h4, h5, h6]
      · rw [if_neg (by omega)]
        by_cases h5 : 65 ≤ b.toNat
        · by_cases h6 : b.toNat ≤ 70
          · rw [if_pos ⟨h5, h6⟩]
            have e : (b.toNat : Int) - 65 + 10 = b.toNat - 55 := by omega
            simp -dsimp -implicitDefEqProofs (maxSteps := 1000000) (disch := omega) [condP_pos, condP_neg, optP_pos, decide_eq_true, decide_eq_false, wrap_i64, Int.natCast_inj, -BitVec.toNat_xor, -BitVec.toNat_and, -BitVec.toNat_or, -BitVec.toNat_not, -BitVec.toNat_ushiftRight, -BitVec.toNat_shiftLeft, -BitVec.toNat_mul, -UInt8.toNat_xor, -UInt8.toNat_and, -UInt8.toNat_or, -UInt8.toNat_shiftLeft, -UInt8.toNat_shiftRight, h1, h2, h3, h5, h6, wrap_u8, e]
          · rw [if_neg (by omega)]
            simp -dsimp -implicitDefEqProofs (maxSteps := 1000000) (disch := omega) [condP_pos, condP_neg, optP_pos, decide_eq_true, decide_eq_false, wrap_i64, Int.natCast_inj, -BitVec.toNat_xor, -BitVec.toNat_and, -BitVec.toNat_or, -BitVec.toNat_not, -BitVec.toNat_ushiftRight, -BitVec.toNat_shiftLeft, -BitVec.toNat_mul, -UInt8.toNat_xor, -UInt8.toNat_and, -UInt8.toNat_or, -UInt8.toNat_shiftLeft, -UInt8.toNat_shiftRight, h1, h2, h3, h5, h6]
        · rw [if_neg (by omega)]
          simp -dsimp -implicitDefEqProofs (maxSteps := 1000000) (disch := omega) [condP_pos, condP_neg, optP_pos, decide_eq_true, decide_eq_false, wrap_i64, Int.natCast_inj, -BitVec.toNat_xor, -BitVec.toNat_and, -BitVec.toNat_or, -BitVec.toNat_not, -BitVec.toNat_ushiftRight, -BitVec.toNat_shiftLeft, -BitVec.toNat_mul, -UInt8.toNat_xor, -UInt8.toNat_and, -UInt8.toNat_or, -UInt8.toNat_shiftLeft, -UInt8.toNat_shiftRight, h1, h2, h3, h5]
  · rw [if_neg (by omega), if_neg (by omega), if_neg (by omega)]
    have h3 : ¬ 97 ≤ b.toNat := by omega
    have h5 : ¬ 65 ≤ b.toNat := by omega
    simp -dsimp -implicitDefEqProofs (maxSteps := 1000000) (disch := omega) [condP_pos, condP_neg, optP_pos, decide_eq_true, decide_eq_false, wrap_i64, Int.natCast_inj, -BitVec.toNat_xor, -BitVec.toNat_and, -BitVec.toNat_or, -BitVec.toNat_not, -BitVec.toNat_ushiftRight, -BitVec.toNat_shiftLeft, -BitVec.toNat_mul, -UInt8.toNat_xor, -UInt8.toNat_and, -UInt8.toNat_or, -UInt8.toNat_shiftLeft, -UInt8.toNat_shiftRight, h1, h3, h5]
def plainB (b : UInt8) : Bool := decide (33 ≤ b.toNat) && decide (b.toNat ≤ 126) && !decide (b.toNat = 34) && !decide (b.toNat = 92)
theorem run_plain (b : UInt8) : (W e3 e4).run 49 [u8 b.toNat] [] = some (bo (plainB b), []) := by
  refine run_wp (by rw [W_T]; exact rfl) ?_
  unfold plainB
  by_cases h1 : 33 ≤ b.toNat <;> by_cases h2 : b.toNat ≤ 126 <;> by_cases h3 : b.toNat = 34 <;> by_cases h4 : b.toNat = 92 <;> (try (exfalso; omega)) <;> simp -dsimp -implicitDefEqProofs (maxSteps := 1000000) (disch := omega) [condP_pos, condP_neg, optP_pos, decide_eq_true, decide_eq_false, wrap_i64, Int.natCast_inj, -BitVec.toNat_xor, -BitVec.toNat_and, -BitVec.toNat_or, -BitVec.toNat_not, -BitVec.toNat_ushiftRight, -BitVec.toNat_shiftLeft, -BitVec.toNat_mul, -UInt8.toNat_xor, -UInt8.toNat_and, -UInt8.toNat_or, -UInt8.toNat_shiftLeft, -UInt8.toNat_shiftRight, h1, h2, h3, h4]
def escG (b : UInt8) : List UInt8 := if plainB b = true then [b] else [92, hexD (b.toNat / 16), hexD (b.toNat % 16)]
def quoteG (l : List UInt8) : List UInt8 := 34 :: (l.flatMap escG ++ [34])
theorem esc_len (b : UInt8) : (escG b).length ≤ 3 := by
  unfold escG
  split <;> simp
theorem esc_app (l : List UInt8) (i : Nat) (b : UInt8) (h : l[i]? = some b) : (l.take (i + 1)).flatMap escG = (l.take i).flatMap escG ++ escG b := by
  rw [List.take_add_one, h]
  simp
theorem hex16 (k : Nat) (h : k < 16) : ([48, 49, 50, 51, 52, 53, 54, 55, 56, 57, 97, 98, 99, 100, 101, 102] : List UInt8)[k]? = some (hexD k) := by
  match k, h with
  | 0, _ | 1, _ | 2, _ | 3, _ | 4, _ | 5, _ | 6, _ | 7, _ | 8, _ | 9, _ | 10, _ | 11, _ | 12, _ | 13, _ | 14, _ | 15, _ => rfl
  | n + 16, h => omega
theorem and8_15 (b : UInt8) : binS .and (.int .u8 (b.toNat : Int)) (.int .u8 15) = some (.int .u8 ((b.toNat % 16 : Nat) : Int)) := by
  have hb := b.toNat_lt
  show (if IntKind.u8 ≠ IntKind.u8 then none else some (Value.int .u8 (IntKind.u8.wrap (((BitVec.ofInt 8 (b.toNat : Int) &&& BitVec.ofInt 8 15).toNat : Nat) : Int)))) = _
  have e : (BitVec.ofInt 8 (b.toNat : Int) &&& BitVec.ofInt 8 15).toNat = b.toNat % 16 := by
    rw [BitVec.toNat_and, bv8_nat]
    show b.toNat &&& (2 ^ 4 - 1) = b.toNat % 16
    rw [Nat.and_two_pow_sub_one_eq_mod]
  rw [e, if_neg (by simp), wrap_u8 (by omega) (by omega)]
theorem e92 : eB 92 = [FV.sc (.int .u8 92)] := rfl
theorem e34 : eB 34 = [FV.sc (.int .u8 34)] := rfl
def S29 (l : List UInt8) (a : Nat × List UInt8) : St := { sl := [(0, bs l), (3, .osl 0 1 0 a.2.length), (8, i64 l.length), (9, i64 a.1)], hp := [(0, some (.arr 1 (a.2.map eB)))], nx := 1 }
set_option maxHeartbeats 2000000 in
theorem run_quote (l : List UInt8) (hl : l.length ≤ 1000000) : (W e3 e4).run 29 [bs l] [] = some (bs (quoteG l), []) := by
  refine run_wp (by rw [W_T]; exact rfl) ?_
  simp -dsimp -implicitDefEqProofs (maxSteps := 1000000) (disch := omega) [condP_pos, condP_neg, optP_pos, decide_eq_true, decide_eq_false, wrap_i64, Int.natCast_inj, -BitVec.toNat_xor, -BitVec.toNat_and, -BitVec.toNat_or, -BitVec.toNat_not, -BitVec.toNat_ushiftRight, -BitVec.toNat_shiftLeft, -BitVec.toNat_mul, -UInt8.toNat_xor, -UInt8.toNat_and, -UInt8.toNat_or, -UInt8.toNat_shiftLeft, -UInt8.toNat_shiftRight]
  refine wp_inv (S29 l) (fun a => a.1 ≤ l.length ∧ a.2 = 34 :: (l.take a.1).flatMap escG ∧ a.2.length ≤ 1 + 3 * a.1) (fun a => l.length - a.1) (0, [34]) ⟨by simp, by simp, by simp⟩ (by simp -dsimp -implicitDefEqProofs (maxSteps := 1000000) (disch := omega) [condP_pos, condP_neg, optP_pos, decide_eq_true, decide_eq_false, wrap_i64, Int.natCast_inj, -BitVec.toNat_xor, -BitVec.toNat_and, -BitVec.toNat_or, -BitVec.toNat_not, -BitVec.toNat_ushiftRight, -BitVec.toNat_shiftLeft, -BitVec.toNat_mul, -UInt8.toNat_xor, -UInt8.toNat_and, -UInt8.toNat_or, -UInt8.toNat_shiftLeft, -UInt8.toNat_shiftRight, S29, eB]) ?_
  rintro ⟨i, o⟩ ⟨hi, ho, hol⟩
  simp only at hi ho hol
  by_cases h : i < l.length
  · obtain ⟨b, hb⟩ : ∃ b, l[i] = b := ⟨_, rfl⟩
    have hb2 : l[i]? = some b := by rw [List.getElem?_eq_getElem h, hb]
    have hb' := b.toNat_lt
    have ap := esc_app l i b hb2
    by_cases hp : plainB b = true
    · have h1 : ¬ b.toNat ≤ 32 := by simp [plainB] at hp; omega
      have h2 : b.toNat ≤ 126 := by simp [plainB] at hp; omega
      have h2' : ¬ 126 < b.toNat := by omega
      have h3 : ¬ b.toNat = 34 := by simp [plainB] at hp; omega
      have h4 : ¬ b.toNat = 92 := by simp [plainB] at hp; omega
      have e : escG b = [b] := if_pos hp
      simp -dsimp -implicitDefEqProofs (maxSteps := 1000000) (disch := omega) [condP_pos, condP_neg, optP_pos, decide_eq_true, decide_eq_false, wrap_i64, Int.natCast_inj, -BitVec.toNat_xor, -BitVec.toNat_and, -BitVec.toNat_or, -BitVec.toNat_not, -BitVec.toNat_ushiftRight, -BitVec.toNat_shiftLeft, -BitVec.toNat_mul, -UInt8.toNat_xor, -UInt8.toNat_and, -UInt8.toNat_or, -UInt8.toNat_shiftLeft, -UInt8.toNat_shiftRight, S29, h, hb, h1, h2, h2', h3, h4, eB_mk, show o.length + 1 ≤ 140737488355328 by omega]
      refine again (i + 1, o ++ [b]) ⟨by simp only; omega, by simp only; rw [ho, ap, e]; rfl, by simp; omega⟩ (by simp only; omega) (by simp -dsimp -implicitDefEqProofs (maxSteps := 1000000) (disch := omega) [condP_pos, condP_neg, optP_pos, decide_eq_true, decide_eq_false, wrap_i64, Int.natCast_inj, -BitVec.toNat_xor, -BitVec.toNat_and, -BitVec.toNat_or, -BitVec.toNat_not, -BitVec.toNat_ushiftRight, -BitVec.toNat_shiftLeft, -BitVec.toNat_mul, -UInt8.toNat_xor, -UInt8.toNat_and, -UInt8.toNat_or, -UInt8.toNat_shiftLeft, -UInt8.toNat_shiftRight, S29])
    · have e : escG b = [92, hexD (b.toNat / 16), hexD (b.toNat % 16)] := if_neg hp
      have x1 := hex16 (b.toNat / 16) (by omega)
      have x2 := hex16 (b.toNat % 16) (by omega)
      have s1 : (b.toNat : Int).fdiv 16 = ((b.toNat / 16 : Nat) : Int) := by
        rw [Int.fdiv_eq_ediv_of_nonneg _ (by omega)]; omega
      have hp2 : b.toNat ≤ 32 ∨ 126 < b.toNat ∨ b.toNat = 34 ∨ b.toNat = 92 := by
        simp [plainB] at hp
        omega
      have a1 := and8_15 b
      generalize b.toNat / 16 = q at *
      generalize b.toNat % 16 = r at *
      by_cases h1 : b.toNat ≤ 32
      · simp -dsimp -implicitDefEqProofs (maxSteps := 1000000) (disch := omega) [condP_pos, condP_neg, optP_pos, decide_eq_true, decide_eq_false, wrap_i64, Int.natCast_inj, -BitVec.toNat_xor, -BitVec.toNat_and, -BitVec.toNat_or, -BitVec.toNat_not, -BitVec.toNat_ushiftRight, -BitVec.toNat_shiftLeft, -BitVec.toNat_mul, -UInt8.toNat_xor, -UInt8.toNat_and, -UInt8.toNat_or, -UInt8.toNat_shiftLeft, -UInt8.toNat_shiftRight, S29, h, hb, h1, eB_mk, s1, a1, x1, x2, show o.length + 3 ≤ 140737488355328 by omega]
        refine again (i + 1, o ++ [92, hexD q, hexD r]) ⟨by simp only; omega, by simp only; rw [ho, ap, e]; rfl, by simp; omega⟩ (by simp only; omega) (by simp -dsimp -implicitDefEqProofs (maxSteps := 1000000) (disch := omega) [condP_pos, condP_neg, optP_pos, decide_eq_true, decide_eq_false, wrap_i64, Int.natCast_inj, -BitVec.toNat_xor, -BitVec.toNat_and, -BitVec.toNat_or, -BitVec.toNat_not, -BitVec.toNat_ushiftRight, -BitVec.toNat_shiftLeft, -BitVec.toNat_mul, -UInt8.toNat_xor, -UInt8.toNat_and, -UInt8.toNat_or, -UInt8.toNat_shiftLeft, -UInt8.toNat_shiftRight, S29, e92])
      · by_cases h2 : 126 < b.toNat
        · simp -dsimp -implicitDefEqProofs (maxSteps := 1000000) (disch := omega) [condP_pos, condP_neg, optP_pos, decide_eq_true, decide_eq_false, wrap_i64, Int.natCast_inj, -BitVec.toNat_xor, -BitVec.toNat_and, -BitVec.toNat_or, -BitVec.toNat_not, -BitVec.toNat_ushiftRight, -BitVec.toNat_shiftLeft, -BitVec.toNat_mul, -UInt8.toNat_xor, -UInt8.toNat_and, -UInt8.toNat_or, -UInt8.toNat_shiftLeft, -UInt8.toNat_shiftRight, S29, h, hb, h1, h2, eB_mk, s1, a1, x1, x2, show o.length + 3 ≤ 140737488355328 by omega]
          refine again (i + 1, o ++ [92, hexD q, hexD r]) ⟨by simp only; omega, by simp only; rw [ho, ap, e]; rfl, by simp; omega⟩ (by simp only; omega) (by simp -dsimp -implicitDefEqProofs (maxSteps := 1000000) (disch := omega) [condP_pos, condP_neg, optP_pos, decide_eq_true, decide_eq_false, wrap_i64, Int.natCast_inj, -BitVec.toNat_xor, -BitVec.toNat_and, -BitVec.toNat_or, -BitVec.toNat_not, -BitVec.toNat_ushiftRight, -BitVec.toNat_shiftLeft, -BitVec.toNat_mul, -UInt8.toNat_xor, -UInt8.toNat_and, -UInt8.toNat_or, -UInt8.toNat_shiftLeft, -UInt8.toNat_shiftRight, S29, e92])
        · by_cases h3 : b.toNat = 34
          · have h3 := eq_true h3
            simp -dsimp -implicitDefEqProofs (maxSteps := 1000000) (disch := omega) [condP_pos, condP_neg, optP_pos, decide_eq_true, decide_eq_false, wrap_i64, Int.natCast_inj, -BitVec.toNat_xor, -BitVec.toNat_and, -BitVec.toNat_or, -BitVec.toNat_not, -BitVec.toNat_ushiftRight, -BitVec.toNat_shiftLeft, -BitVec.toNat_mul, -UInt8.toNat_xor, -UInt8.toNat_and, -UInt8.toNat_or, -UInt8.toNat_shiftLeft, -UInt8.toNat_shiftRight, S29, h, hb, h1, h2, h3, eB_mk, s1, a1, x1, x2, show o.length + 3 ≤ 140737488355328 by omega]
            refine again (i + 1, o ++ [92, hexD q, hexD r]) ⟨by simp only; omega, by simp only; rw [ho, ap, e]; rfl, by simp; omega⟩ (by simp only; omega) (by simp -dsimp -implicitDefEqProofs (maxSteps := 1000000) (disch := omega) [condP_pos, condP_neg, optP_pos, decide_eq_true, decide_eq_false, wrap_i64, Int.natCast_inj, -BitVec.toNat_xor, -BitVec.toNat_and, -BitVec.toNat_or, -BitVec.toNat_not, -BitVec.toNat_ushiftRight, -BitVec.toNat_shiftLeft, -BitVec.toNat_mul, -UInt8.toNat_xor, -UInt8.toNat_and, -UInt8.toNat_or, -UInt8.toNat_shiftLeft, -UInt8.toNat_shiftRight, S29, e92])
          · have h4 : (b.toNat = 92) = True := eq_true (by omega)
            simp -dsimp -implicitDefEqProofs (maxSteps := 1000000) (disch := omega) [condP_pos, condP_neg, optP_pos, decide_eq_true, decide_eq_false, wrap_i64, Int.natCast_inj, -BitVec.toNat_xor, -BitVec.toNat_and, -BitVec.toNat_or, -BitVec.toNat_not, -BitVec.toNat_ushiftRight, -BitVec.toNat_shiftLeft, -BitVec.toNat_mul, -UInt8.toNat_xor, -UInt8.toNat_and, -UInt8.toNat_or, -UInt8.toNat_shiftLeft, -UInt8.toNat_shiftRight, S29, h, hb, h1, h2, h3, h4, eB_mk, s1, a1, x1, x2, show o.length + 3 ≤ 140737488355328 by omega]
            refine again (i + 1, o ++ [92, hexD q, hexD r]) ⟨by simp only; omega, by simp only; rw [ho, ap, e]; rfl, by simp; omega⟩ (by simp only; omega) (by simp -dsimp -implicitDefEqProofs (maxSteps := 1000000) (disch := omega) [condP_pos, condP_neg, optP_pos, decide_eq_true, decide_eq_false, wrap_i64, Int.natCast_inj, -BitVec.toNat_xor, -BitVec.toNat_and, -BitVec.toNat_or, -BitVec.toNat_not, -BitVec.toNat_ushiftRight, -BitVec.toNat_shiftLeft, -BitVec.toNat_mul, -UInt8.toNat_xor, -UInt8.toNat_and, -UInt8.toNat_or, -UInt8.toNat_shiftLeft, -UInt8.toNat_shiftRight, S29, e92])
  · have ho2 : o ++ [34] = quoteG l := by
      rw [ho, show i = l.length by omega, List.take_length]; rfl
    rw [← ho2]
    have tk : bytesOf' (List.take (o.length + 1) (List.map eB o ++ [[FV.sc (.int .u8 34)]])) = some (o ++ [34]) := by
      have e : List.map eB o ++ [[FV.sc (.int .u8 34)]] = (o ++ [34]).map eB := by rw [← e34]; simp
      rw [e, List.take_of_length_le (by simp), bytesOf_map]
    simp -dsimp -implicitDefEqProofs (maxSteps := 1000000) (disch := omega) [condP_pos, condP_neg, optP_pos, decide_eq_true, decide_eq_false, wrap_i64, Int.natCast_inj, -BitVec.toNat_xor, -BitVec.toNat_and, -BitVec.toNat_or, -BitVec.toNat_not, -BitVec.toNat_ushiftRight, -BitVec.toNat_shiftLeft, -BitVec.toNat_mul, -UInt8.toNat_xor, -UInt8.toNat_and, -UInt8.toNat_or, -UInt8.toNat_shiftLeft, -UInt8.toNat_shiftRight, S29, h, show o.length + 1 ≤ 140737488355328 by omega, tk]
end Go.Vai
