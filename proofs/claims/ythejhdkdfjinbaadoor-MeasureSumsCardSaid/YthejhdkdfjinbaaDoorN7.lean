/-
  What functions of layer 1 and of its reference compute: equations of the abstract run, and plain laws of them.
-/
import Derived.Test.YthejhdkdfjinbaaDoorN6
set_option linter.unusedVariables false
set_option linter.unusedSimpArgs false
set_option linter.unnecessarySimpa false
set_option linter.unusedSectionVars false
namespace Go.Vai
variable {e3 e4 : Value}
/-! A text with turned bits. -/
def bitU (j : Nat) : UInt8 := UInt8.ofNat (2 ^ j)
theorem bitU_wrap (j : Nat) (h : j < 8) : IntKind.u8.wrap (2 ^ j) = ((bitU j).toNat : Int) := by
  match j, h with
  | 0, _ | 1, _ | 2, _ | 3, _ | 4, _ | 5, _ | 6, _ | 7, _ => rfl
theorem bitU_other (j i : Nat) (h : j < 8) (hi : i < 8) (hn : i ≠ j) : (bitU j).toNat.testBit i = false := by
  have e : (List.range 8).all (fun j => (List.range 8).all fun i => decide (i = j) || !((bitU j).toNat.testBit i)) = true := by kernel_rfl
  have := List.all_eq_true.1 (List.all_eq_true.1 e j (List.mem_range.2 h)) i (List.mem_range.2 hi)
  simpa [hn] using this
theorem bitL_set (x : List UInt8) (p i : Nat) (y : UInt8) (hy : x[p / 8]? = some y) (hi : i ≠ p) : bitL (x.set (p / 8) (y ^^^ bitU (p % 8))) i = bitL x i := by
  have hl : p / 8 < x.length := by
    rcases Nat.lt_or_ge (p / 8) x.length with h | h
    · exact h
    · rw [List.getElem?_eq_none h] at hy; cases hy
  unfold bitL
  by_cases h : i / 8 = p / 8
  · rw [h, List.getElem?_set_self hl, hy]
    simp only [Option.getD_some, UInt8.toNat_xor, Nat.testBit_xor]
    rw [bitU_other (p % 8) (i % 8) (by omega) (by omega) (by omega)]
    simp
  · rw [List.getElem?_set_ne (fun h2 => h h2.symm)]
theorem shrk_32 (x : BitVec 32) (k : Nat) (h : k < 32) : ((x.toNat : Int)).fdiv (2 ^ k) = ((x >>> k).toNat : Int) := by
  rw [Int.fdiv_eq_ediv_of_nonneg _ (Int.le_of_lt (Int.pow_pos (by omega)))]
  simp [Nat.shiftRight_eq_div_pow]
theorem lt0 (k : Nat) : ((k : Int) < 0) = False := by
  apply eq_false
  omega
def S21 (n at_ : Nat) (m : BitVec 32) (s : Nat × List UInt8) : St := { sl := [(1, i64 at_), (2, w32 m), (7, .osl 0 1 0 n), (8, i64 s.1)], hp := [(0, some (.arr 1 (s.2.map eB)))], nx := 1 }
def turnG (l : List UInt8) (at_ : Nat) (m : BitVec 32) : Nat → List UInt8
  | 0 => l
  | k + 1 => if m.getLsbD k = true ∧ at_ + k < 8 * l.length then (turnG l at_ m k).set ((at_ + k) / 8) (((turnG l at_ m k)[(at_ + k) / 8]?.getD 0) ^^^ bitU ((at_ + k) % 8)) else turnG l at_ m k
theorem turnG_len (l : List UInt8) (at_ : Nat) (m : BitVec 32) : ∀ k, (turnG l at_ m k).length = l.length
  | 0 => rfl
  | k + 1 => by
    simp only [turnG]
    split
    · rw [List.length_set, turnG_len l at_ m k]
    · exact turnG_len l at_ m k
theorem turnG_bits (l : List UInt8) (at_ : Nat) (m : BitVec 32) : ∀ k, k ≤ 32 → ∀ i, (i < at_ ∨ at_ + 32 ≤ i) → bitL l i = bitL (turnG l at_ m k) i
  | 0, _, _, _ => rfl
  | k + 1, hk, i, hi => by
    have ih := turnG_bits l at_ m k (by omega) i hi
    simp only [turnG]
    split
    · rename_i h
      have hl := turnG_len l at_ m k
      have hy : (turnG l at_ m k)[(at_ + k) / 8]? = some ((turnG l at_ m k)[(at_ + k) / 8]?.getD 0) := by
        rw [List.getElem?_eq_getElem (show (at_ + k) / 8 < _ by omega)]; rfl
      rw [ih, bitL_set _ _ _ _ hy (by omega)]
    · exact ih
theorem mask_bit (m : BitVec 32) (k : Nat) : (((m >>> k) &&& 1#32).toNat : Int) = 1 ↔ m.getLsbD k = true := by
  rw [eq1_iff]
  constructor
  · intro h
    have := congrArg (fun y => BitVec.getLsbD y 0) h
    simpa using this
  · intro h
    rcases and1_cases (m >>> k) with h2 | h2
    · have := congrArg (fun y => BitVec.getLsbD y 0) h2
      simp [h] at this
    · exact h2
set_option maxHeartbeats 4000000 in
theorem run_turned (l : List UInt8) (at_ : Nat) (m : BitVec 32) (hl : l.length ≤ 5000) (ha : at_ ≤ 100000) : (W e3 e4).run 21 [bs l, i64 at_, w32 m] [] = some (bs (turnG l at_ m 32), []) := by
  refine run_wp (by rw [W_T]; exact rfl) ?_
  simp -dsimp -implicitDefEqProofs (maxSteps := 1000000) (disch := omega) [condP_pos, condP_neg, optP_pos, decide_eq_true, decide_eq_false, wrap_i64, Int.natCast_inj, -BitVec.toNat_xor, -BitVec.toNat_and, -BitVec.toNat_or, -BitVec.toNat_not, -BitVec.toNat_ushiftRight, -BitVec.toNat_shiftLeft, -BitVec.toNat_mul, -UInt8.toNat_xor, -UInt8.toNat_and, -UInt8.toNat_or, -UInt8.toNat_shiftLeft, -UInt8.toNat_shiftRight]
  refine wp_inv (S21 l.length at_ m) (fun s => s.1 ≤ 32 ∧ s.2 = turnG l at_ m s.1) (fun s => 32 - s.1) (0, l) ⟨by simp, rfl⟩ (by simp -dsimp -implicitDefEqProofs (maxSteps := 1000000) (disch := omega) [condP_pos, condP_neg, optP_pos, decide_eq_true, decide_eq_false, wrap_i64, Int.natCast_inj, -BitVec.toNat_xor, -BitVec.toNat_and, -BitVec.toNat_or, -BitVec.toNat_not, -BitVec.toNat_ushiftRight, -BitVec.toNat_shiftLeft, -BitVec.toNat_mul, -UInt8.toNat_xor, -UInt8.toNat_and, -UInt8.toNat_or, -UInt8.toNat_shiftLeft, -UInt8.toNat_shiftRight, S21]) ?_
  rintro ⟨k, x⟩ ⟨hk, hx⟩
  simp only at hk hx
  have hxl : x.length = l.length := by rw [hx, turnG_len]
  have k0 := lt0 k
  by_cases h : k < 32
  · by_cases hm : m.getLsbD k = true
    · have hm2 := (mask_bit m k).2 hm
      by_cases hp : at_ + k < 8 * l.length
      · have hp2 : ((at_ : Int) + k) < 8 * l.length := by omega
        have t1 : ((at_ : Int) + k).tdiv 8 = (((at_ + k) / 8 : Nat) : Int) := by
          rw [Int.tdiv_eq_ediv_of_nonneg (by omega)]; omega
        have t2 : ((at_ : Int) + k).tmod 8 = (((at_ + k) % 8 : Nat) : Int) := by
          rw [Int.tmod_eq_emod_of_nonneg (by omega)]; omega
        have hq : (at_ + k) / 8 < l.length := by omega
        have hj : (at_ + k) % 8 < 8 := by omega
        have hs : turnG l at_ m (k + 1) = x.set ((at_ + k) / 8) ((x[(at_ + k) / 8]?.getD 0) ^^^ bitU ((at_ + k) % 8)) := by
          simp only [turnG]
          rw [if_pos ⟨hm, hp⟩, ← hx]
        generalize (at_ + k) / 8 = q at *
        generalize (at_ + k) % 8 = j at *
        obtain ⟨y, hy⟩ : ∃ y, x[q] = y := ⟨_, rfl⟩
        have hy2 : x[q]? = some y := by rw [List.getElem?_eq_getElem (by omega), hy]
        rw [hy2] at hs
        have hw := bitU_wrap j hj
        have j0 := lt0 j
        simp -dsimp -implicitDefEqProofs (maxSteps := 1000000) (disch := omega) [condP_pos, condP_neg, optP_pos, decide_eq_true, decide_eq_false, wrap_i64, Int.natCast_inj, -BitVec.toNat_xor, -BitVec.toNat_and, -BitVec.toNat_or, -BitVec.toNat_not, -BitVec.toNat_ushiftRight, -BitVec.toNat_shiftLeft, -BitVec.toNat_mul, -UInt8.toNat_xor, -UInt8.toNat_and, -UInt8.toNat_or, -UInt8.toNat_shiftLeft, -UInt8.toNat_shiftRight, S21, h, shrk_32, and32_1, hm2, k0, j0, hp2, hxl, t1, t2, hq, hy, hy2, hw, xor8, eB_0, eB_tl, set_eB]
        refine again (k + 1, x.set q (y ^^^ bitU j)) ⟨by simp only; omega, by simp only; rw [hs]; rfl⟩ (by simp only; omega) (by simp -dsimp -implicitDefEqProofs (maxSteps := 1000000) (disch := omega) [condP_pos, condP_neg, optP_pos, decide_eq_true, decide_eq_false, wrap_i64, Int.natCast_inj, -BitVec.toNat_xor, -BitVec.toNat_and, -BitVec.toNat_or, -BitVec.toNat_not, -BitVec.toNat_ushiftRight, -BitVec.toNat_shiftLeft, -BitVec.toNat_mul, -UInt8.toNat_xor, -UInt8.toNat_and, -UInt8.toNat_or, -UInt8.toNat_shiftLeft, -UInt8.toNat_shiftRight, S21])
      · have hp2 : ¬ ((at_ : Int) + k) < 8 * l.length := by omega
        simp -dsimp -implicitDefEqProofs (maxSteps := 1000000) (disch := omega) [condP_pos, condP_neg, optP_pos, decide_eq_true, decide_eq_false, wrap_i64, Int.natCast_inj, -BitVec.toNat_xor, -BitVec.toNat_and, -BitVec.toNat_or, -BitVec.toNat_not, -BitVec.toNat_ushiftRight, -BitVec.toNat_shiftLeft, -BitVec.toNat_mul, -UInt8.toNat_xor, -UInt8.toNat_and, -UInt8.toNat_or, -UInt8.toNat_shiftLeft, -UInt8.toNat_shiftRight, S21, h, shrk_32, and32_1, hm2, k0, hp2, hxl]
        refine again (k + 1, x) ⟨by simp only; omega, by simp only [turnG]; rw [if_neg (fun h => hp h.2), hx]⟩ (by simp only; omega) (by simp -dsimp -implicitDefEqProofs (maxSteps := 1000000) (disch := omega) [condP_pos, condP_neg, optP_pos, decide_eq_true, decide_eq_false, wrap_i64, Int.natCast_inj, -BitVec.toNat_xor, -BitVec.toNat_and, -BitVec.toNat_or, -BitVec.toNat_not, -BitVec.toNat_ushiftRight, -BitVec.toNat_shiftLeft, -BitVec.toNat_mul, -UInt8.toNat_xor, -UInt8.toNat_and, -UInt8.toNat_or, -UInt8.toNat_shiftLeft, -UInt8.toNat_shiftRight, S21])
    · have hm2 := fun h => hm ((mask_bit m k).1 h)
      simp -dsimp -implicitDefEqProofs (maxSteps := 1000000) (disch := omega) [condP_pos, condP_neg, optP_pos, decide_eq_true, decide_eq_false, wrap_i64, Int.natCast_inj, -BitVec.toNat_xor, -BitVec.toNat_and, -BitVec.toNat_or, -BitVec.toNat_not, -BitVec.toNat_ushiftRight, -BitVec.toNat_shiftLeft, -BitVec.toNat_mul, -UInt8.toNat_xor, -UInt8.toNat_and, -UInt8.toNat_or, -UInt8.toNat_shiftLeft, -UInt8.toNat_shiftRight, S21, h, shrk_32, and32_1, hm2, k0]
      refine again (k + 1, x) ⟨by simp only; omega, by simp only [turnG]; rw [if_neg (fun h => hm h.1), hx]⟩ (by simp only; omega) (by simp -dsimp -implicitDefEqProofs (maxSteps := 1000000) (disch := omega) [condP_pos, condP_neg, optP_pos, decide_eq_true, decide_eq_false, wrap_i64, Int.natCast_inj, -BitVec.toNat_xor, -BitVec.toNat_and, -BitVec.toNat_or, -BitVec.toNat_not, -BitVec.toNat_ushiftRight, -BitVec.toNat_shiftLeft, -BitVec.toNat_mul, -UInt8.toNat_xor, -UInt8.toNat_and, -UInt8.toNat_or, -UInt8.toNat_shiftLeft, -UInt8.toNat_shiftRight, S21])
  · obtain rfl : k = 32 := by omega
    have tk : List.take l.length (x.map eB) = x.map eB := List.take_of_length_le (by simp; omega)
    rw [← hx]
    simp -dsimp -implicitDefEqProofs (maxSteps := 1000000) (disch := omega) [condP_pos, condP_neg, optP_pos, decide_eq_true, decide_eq_false, wrap_i64, Int.natCast_inj, -BitVec.toNat_xor, -BitVec.toNat_and, -BitVec.toNat_or, -BitVec.toNat_not, -BitVec.toNat_ushiftRight, -BitVec.toNat_shiftLeft, -BitVec.toNat_mul, -UInt8.toNat_xor, -UInt8.toNat_and, -UInt8.toNat_or, -UInt8.toNat_shiftLeft, -UInt8.toNat_shiftRight, S21, tk, hxl]
set_option maxHeartbeats 4000000 in
theorem law_bursts (l : List UInt8) (p n : Int) (hp : inI p) (hn : 0 ≤ n ∧ n < 4294967296) : (W e3 e4).run 5 [bs l, i64 p, .fz (.sc (.int .u32 n))] [] = some (bo true, []) := by
  refine run_wp (by rw [W_T]; exact rfl) ?_
  by_cases h1 : 5000 < l.length
  · simp -dsimp -implicitDefEqProofs (maxSteps := 1000000) (disch := omega) [condP_pos, condP_neg, optP_pos, decide_eq_true, decide_eq_false, wrap_i64, Int.natCast_inj, -BitVec.toNat_xor, -BitVec.toNat_and, -BitVec.toNat_or, -BitVec.toNat_not, -BitVec.toNat_ushiftRight, -BitVec.toNat_shiftLeft, -BitVec.toNat_mul, -UInt8.toNat_xor, -UInt8.toNat_and, -UInt8.toNat_or, -UInt8.toNat_shiftLeft, -UInt8.toNat_shiftRight, run_sane, h1]
  · by_cases h2 : p < 0
    · simp -dsimp -implicitDefEqProofs (maxSteps := 1000000) (disch := omega) [condP_pos, condP_neg, optP_pos, decide_eq_true, decide_eq_false, wrap_i64, Int.natCast_inj, -BitVec.toNat_xor, -BitVec.toNat_and, -BitVec.toNat_or, -BitVec.toNat_not, -BitVec.toNat_ushiftRight, -BitVec.toNat_shiftLeft, -BitVec.toNat_mul, -UInt8.toNat_xor, -UInt8.toNat_and, -UInt8.toNat_or, -UInt8.toNat_shiftLeft, -UInt8.toNat_shiftRight, run_sane, h1, h2]
    · obtain ⟨q, rfl⟩ := Int.eq_ofNat_of_zero_le (show 0 ≤ p by omega)
      by_cases h3 : 8 * l.length ≤ q
      · have h3' : 8 * (l.length : Int) ≤ q := by omega
        simp -dsimp -implicitDefEqProofs (maxSteps := 1000000) (disch := omega) [condP_pos, condP_neg, optP_pos, decide_eq_true, decide_eq_false, wrap_i64, Int.natCast_inj, -BitVec.toNat_xor, -BitVec.toNat_and, -BitVec.toNat_or, -BitVec.toNat_not, -BitVec.toNat_ushiftRight, -BitVec.toNat_shiftLeft, -BitVec.toNat_mul, -UInt8.toNat_xor, -UInt8.toNat_and, -UInt8.toNat_or, -UInt8.toNat_shiftLeft, -UInt8.toNat_shiftRight, run_sane, h1, h2, h3, h3']
      · have h3' : ¬ 8 * (l.length : Int) ≤ q := by omega
        have hm : AV.fz (.sc (.int .u32 n)) = w32 (BitVec.ofNat 32 n.toNat) := by
          have : ((BitVec.ofNat 32 n.toNat).toNat : Int) = n := by rw [BitVec.toNat_ofNat]; omega
          unfold w32
          rw [this]
        have c1 := run_turned (e3 := e3) (e4 := e4) l q (BitVec.ofNat 32 n.toNat) (by omega) (by omega)
        rw [← hm] at c1
        have hb := turnG_bits l q (BitVec.ofNat 32 n.toNat) 32 (by omega)
        have hxl := turnG_len l q (BitVec.ofNat 32 n.toNat) 32
        generalize turnG l q (BitVec.ofNat 32 n.toNat) 32 = x at *
        have c2 := run_crc (e3 := e3) (e4 := e4) l (by omega)
        have c3 := run_crc (e3 := e3) (e4 := e4) x (by omega)
        have hd := burst_crc l x q hxl (fun i _ hi => hb i hi)
        by_cases he : l = x
        · subst he
          simp -dsimp -implicitDefEqProofs (maxSteps := 1000000) (disch := omega) [condP_pos, condP_neg, optP_pos, decide_eq_true, decide_eq_false, wrap_i64, Int.natCast_inj, -BitVec.toNat_xor, -BitVec.toNat_and, -BitVec.toNat_or, -BitVec.toNat_not, -BitVec.toNat_ushiftRight, -BitVec.toNat_shiftLeft, -BitVec.toNat_mul, -UInt8.toNat_xor, -UInt8.toNat_and, -UInt8.toNat_or, -UInt8.toNat_shiftLeft, -UInt8.toNat_shiftRight, run_sane, h1, h2, h3', c1]
        · have hne : ¬ (((crcG l).toNat : Int) = ((crcG x).toNat : Int)) := fun h => he (hd (BitVec.eq_of_toNat_eq (by omega)))
          simp -dsimp -implicitDefEqProofs (maxSteps := 1000000) (disch := omega) [condP_pos, condP_neg, optP_pos, decide_eq_true, decide_eq_false, wrap_i64, Int.natCast_inj, -BitVec.toNat_xor, -BitVec.toNat_and, -BitVec.toNat_or, -BitVec.toNat_not, -BitVec.toNat_ushiftRight, -BitVec.toNat_shiftLeft, -BitVec.toNat_mul, -UInt8.toNat_xor, -UInt8.toNat_and, -UInt8.toNat_or, -UInt8.toNat_shiftLeft, -UInt8.toNat_shiftRight, run_sane, h1, h2, h3', c1, c2, c3, he, hne]
end Go.Vai
