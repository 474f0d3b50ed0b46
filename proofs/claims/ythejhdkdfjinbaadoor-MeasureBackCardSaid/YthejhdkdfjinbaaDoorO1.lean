/-
  What functions of layer 1 and of its reference compute: equations of the abstract run, and plain laws of them.
-/
import Derived.Test.YthejhdkdfjinbaaDoorN3
set_option linter.unusedVariables false
set_option linter.unusedSimpArgs false
set_option linter.unnecessarySimpa false
set_option linter.unusedSectionVars false
namespace Go.Vai
variable {e3 e4 : Value}
/-! Hexadecimal digits of a number. -/
abbrev u64 (n : Int) : AV := .fz (.sc (.int .u64 n))
def hexD (n : Nat) : UInt8 := if n < 10 then UInt8.ofNat (48 + n) else UInt8.ofNat (87 + n)
def digs : Nat → Nat → List UInt8
  | 0, _ => []
  | n + 1, d => hexD (d / 16 ^ n % 16) :: digs n d
@[simp] theorem digs_len (d : Nat) : ∀ n, (digs n d).length = n
  | 0 => rfl
  | n + 1 => by simp [digs, digs_len d n]
def fnvB (c : BitVec 64) (b : UInt8) : BitVec 64 := (c ^^^ BitVec.ofNat 64 b.toNat) * 1099511628211#64
def fnvS (c : BitVec 64) (l : List UInt8) : BitVec 64 := l.foldl fnvB c
def fnvG (l : List UInt8) : Nat := (fnvS 14695981039346656037#64 l).toNat
theorem fnvS_take (c : BitVec 64) (l : List UInt8) (i : Nat) (b : UInt8) (h : l[i]? = some b) : fnvS c (l.take (i + 1)) = fnvB (fnvS c (l.take i)) b := by
  rw [List.take_add_one, h]
  simp [fnvS]
theorem ofInt_bv64 (x : BitVec 64) : BitVec.ofInt 64 (x.toNat : Int) = x := by
  apply BitVec.eq_of_toNat_eq
  rw [BitVec.toNat_ofInt]
  have := x.isLt
  simp
  omega
theorem wrap_u64 {n : Int} (h0 : 0 ≤ n) (h1 : n < 18446744073709551616) : IntKind.u64.wrap n = n := by
  simp only [IntKind.wrap, IntKind.bits, IntKind.signed]
  simp
  omega
theorem wrap_u64x (x : BitVec 64) : IntKind.u64.wrap (x.toNat : Int) = (x.toNat : Int) := by
  have := x.isLt
  exact wrap_u64 (by omega) (by omega)
theorem xor64b (x : BitVec 64) (b : UInt8) : binS .xor (.int .u64 (x.toNat : Int)) (.int .u64 (b.toNat : Int)) = some (.int .u64 ((x ^^^ BitVec.ofNat 64 b.toNat).toNat : Int)) := by
  have hb := b.toNat_lt
  have e : (b.toNat : Int) = ((BitVec.ofNat 64 b.toNat).toNat : Int) := by
    rw [BitVec.toNat_ofNat]; omega
  rw [e]
  show (if IntKind.u64 ≠ IntKind.u64 then none else some (Value.int .u64 (IntKind.u64.wrap (((BitVec.ofInt 64 _ ^^^ BitVec.ofInt 64 _).toNat : Nat) : Int)))) = _
  rw [ofInt_bv64, ofInt_bv64, wrap_u64x, if_neg (by simp)]
theorem wrap_u64m (z : Int) : IntKind.u64.wrap z = z % 18446744073709551616 := by
  simp [IntKind.wrap, IntKind.bits, IntKind.signed]
theorem mul64p (x : BitVec 64) : IntKind.u64.wrap ((x.toNat : Int) * 1099511628211) = ((x * 1099511628211#64).toNat : Int) := by
  have e : (x * 1099511628211#64).toNat = (x.toNat * 1099511628211) % 18446744073709551616 := by
    rw [BitVec.toNat_mul, BitVec.toNat_ofNat]
  rw [e, wrap_u64m]
  omega
def S37 (l : List UInt8) (a : Nat × BitVec 64) : St := { sl := [(0, bs l), (3, u64 a.2.toNat), (4, i64 a.1)], hp := [], nx := 0 }
theorem run_rsum (l : List UInt8) (hl : l.length ≤ 1000000) : (W e3 e4).run 37 [bs l] [] = some (u64 (fnvG l), []) := by
  refine run_wp (by rw [W_T]; exact rfl) ?_
  simp -dsimp -implicitDefEqProofs (maxSteps := 1000000) (disch := omega) [condP_pos, condP_neg, optP_pos, decide_eq_true, decide_eq_false, wrap_i64, Int.natCast_inj, -BitVec.toNat_xor, -BitVec.toNat_and, -BitVec.toNat_or, -BitVec.toNat_not, -BitVec.toNat_ushiftRight, -BitVec.toNat_shiftLeft, -BitVec.toNat_mul, -UInt8.toNat_xor, -UInt8.toNat_and, -UInt8.toNat_or, -UInt8.toNat_shiftLeft, -UInt8.toNat_shiftRight]
  refine wp_inv (S37 l) (fun a => a.1 ≤ l.length ∧ a.2 = fnvS 14695981039346656037#64 (l.take a.1)) (fun a => l.length - a.1) (0, 14695981039346656037#64) ⟨by simp, by simp [fnvS]⟩ (by simp -dsimp -implicitDefEqProofs (maxSteps := 1000000) (disch := omega) [condP_pos, condP_neg, optP_pos, decide_eq_true, decide_eq_false, wrap_i64, Int.natCast_inj, -BitVec.toNat_xor, -BitVec.toNat_and, -BitVec.toNat_or, -BitVec.toNat_not, -BitVec.toNat_ushiftRight, -BitVec.toNat_shiftLeft, -BitVec.toNat_mul, -UInt8.toNat_xor, -UInt8.toNat_and, -UInt8.toNat_or, -UInt8.toNat_shiftLeft, -UInt8.toNat_shiftRight, S37]) ?_
  rintro ⟨i, c⟩ ⟨hi, hc⟩
  simp only at hi hc
  by_cases h : i < l.length
  · obtain ⟨b, hb⟩ : ∃ b, l[i] = b := ⟨_, rfl⟩
    have hb2 : l[i]? = some b := by rw [List.getElem?_eq_getElem h, hb]
    have hb' := b.toNat_lt
    simp -dsimp -implicitDefEqProofs (maxSteps := 1000000) (disch := omega) [condP_pos, condP_neg, optP_pos, decide_eq_true, decide_eq_false, wrap_i64, Int.natCast_inj, -BitVec.toNat_xor, -BitVec.toNat_and, -BitVec.toNat_or, -BitVec.toNat_not, -BitVec.toNat_ushiftRight, -BitVec.toNat_shiftLeft, -BitVec.toNat_mul, -UInt8.toNat_xor, -UInt8.toNat_and, -UInt8.toNat_or, -UInt8.toNat_shiftLeft, -UInt8.toNat_shiftRight, S37, h, hb, xor64b, wrap_u64, mul64p]
    refine again (i + 1, fnvB c b) ⟨by simp only; omega, by simp only; rw [fnvS_take _ l i b hb2, hc]⟩ (by simp only; omega) (by simp -dsimp -implicitDefEqProofs (maxSteps := 1000000) (disch := omega) [condP_pos, condP_neg, optP_pos, decide_eq_true, decide_eq_false, wrap_i64, Int.natCast_inj, -BitVec.toNat_xor, -BitVec.toNat_and, -BitVec.toNat_or, -BitVec.toNat_not, -BitVec.toNat_ushiftRight, -BitVec.toNat_shiftLeft, -BitVec.toNat_mul, -UInt8.toNat_xor, -UInt8.toNat_and, -UInt8.toNat_or, -UInt8.toNat_shiftLeft, -UInt8.toNat_shiftRight, S37, fnvB])
  · have h2 : fnvG l = c.toNat := by
      rw [hc, show i = l.length by omega, List.take_length, fnvG]
    simp -dsimp -implicitDefEqProofs (maxSteps := 1000000) (disch := omega) [condP_pos, condP_neg, optP_pos, decide_eq_true, decide_eq_false, wrap_i64, Int.natCast_inj, -BitVec.toNat_xor, -BitVec.toNat_and, -BitVec.toNat_or, -BitVec.toNat_not, -BitVec.toNat_ushiftRight, -BitVec.toNat_shiftLeft, -BitVec.toNat_mul, -UInt8.toNat_xor, -UInt8.toNat_and, -UInt8.toNat_or, -UInt8.toNat_shiftLeft, -UInt8.toNat_shiftRight, S37, h, h2]
/-! The reference's digits. -/
theorem and15_64 (d : Nat) (h : d < 18446744073709551616) : binS .and (.int .u64 (d : Int)) (.int .u64 15) = some (.int .u64 ((d % 16 : Nat) : Int)) := by
  show (if IntKind.u64 ≠ IntKind.u64 then none else some (Value.int .u64 (IntKind.u64.wrap (((BitVec.ofInt 64 (d : Int) &&& BitVec.ofInt 64 15).toNat : Nat) : Int)))) = _
  have e : (BitVec.ofInt 64 (d : Int) &&& BitVec.ofInt 64 15).toNat = d % 16 := by
    rw [BitVec.toNat_and, ofInt_nat64 h]
    show d &&& (2 ^ 4 - 1) = d % 16
    rw [Nat.and_two_pow_sub_one_eq_mod]
  rw [e, if_neg (by simp), wrap_u64 (by omega) (by omega)]
theorem shr4_64 (d : Nat) : ((d : Int)).fdiv 16 = ((d / 16 : Nat) : Int) := by
  rw [Int.fdiv_eq_ediv_of_nonneg _ (by omega)]; omega
theorem run_digit (n : Nat) (h : n < 16) : (W e3 e4).run 38 [i64 n] [] = some (rw_ [eB (hexD n)], []) := by
  refine run_wp (by rw [W_T]; exact rfl) ?_
  by_cases h1 : n < 10
  · have e : ((hexD n).toNat : Int) = 48 + n := by rw [hexD, if_pos h1]; simp; omega
    simp -dsimp -implicitDefEqProofs (maxSteps := 1000000) (disch := omega) [condP_pos, condP_neg, optP_pos, decide_eq_true, decide_eq_false, wrap_i64, Int.natCast_inj, -BitVec.toNat_xor, -BitVec.toNat_and, -BitVec.toNat_or, -BitVec.toNat_not, -BitVec.toNat_ushiftRight, -BitVec.toNat_shiftLeft, -BitVec.toNat_mul, -UInt8.toNat_xor, -UInt8.toNat_and, -UInt8.toNat_or, -UInt8.toNat_shiftLeft, -UInt8.toNat_shiftRight, h1, wrap_u8, eB, e]
  · have e : ((hexD n).toNat : Int) = 87 + n := by rw [hexD, if_neg h1]; simp; omega
    have e2 : (97 + (n : Int) - 10) = 87 + n := by omega
    simp -dsimp -implicitDefEqProofs (maxSteps := 1000000) (disch := omega) [condP_pos, condP_neg, optP_pos, decide_eq_true, decide_eq_false, wrap_i64, Int.natCast_inj, -BitVec.toNat_xor, -BitVec.toNat_and, -BitVec.toNat_or, -BitVec.toNat_not, -BitVec.toNat_ushiftRight, -BitVec.toNat_shiftLeft, -BitVec.toNat_mul, -UInt8.toNat_xor, -UInt8.toNat_and, -UInt8.toNat_or, -UInt8.toNat_shiftLeft, -UInt8.toNat_shiftRight, h1, wrap_u8, eB, e, e2]
theorem bytesOf_one (b : UInt8) : bytesOf' [eB b] = some [b] := bytesOf_map [b]
def S20 (a : Nat × Nat × List UInt8) : St := { sl := [(3, u64 a.2.1), (4, bs a.2.2), (5, i64 a.1)], hp := [], nx := 0 }
theorem run_rdigest (l : List UInt8) (hl : l.length ≤ 1000000) : (W e3 e4).run 20 [bs l] [] = some (bs (digs 16 (fnvG l)), []) := by
  refine run_wp (by rw [W_T]; exact rfl) ?_
  have c1 := run_rsum (e3 := e3) (e4 := e4) l hl
  have hd : fnvG l < 18446744073709551616 := (fnvS _ l).isLt
  generalize fnvG l = d at *
  simp -dsimp -implicitDefEqProofs (maxSteps := 1000000) (disch := omega) [condP_pos, condP_neg, optP_pos, decide_eq_true, decide_eq_false, wrap_i64, Int.natCast_inj, -BitVec.toNat_xor, -BitVec.toNat_and, -BitVec.toNat_or, -BitVec.toNat_not, -BitVec.toNat_ushiftRight, -BitVec.toNat_shiftLeft, -BitVec.toNat_mul, -UInt8.toNat_xor, -UInt8.toNat_and, -UInt8.toNat_or, -UInt8.toNat_shiftLeft, -UInt8.toNat_shiftRight, c1]
  refine wp_inv S20 (fun a => a.1 ≤ 16 ∧ a.2.1 = d / 16 ^ a.1 ∧ a.2.2 = digs a.1 d) (fun a => 16 - a.1) (0, d, []) ⟨by simp, by simp, rfl⟩ (by simp -dsimp -implicitDefEqProofs (maxSteps := 1000000) (disch := omega) [condP_pos, condP_neg, optP_pos, decide_eq_true, decide_eq_false, wrap_i64, Int.natCast_inj, -BitVec.toNat_xor, -BitVec.toNat_and, -BitVec.toNat_or, -BitVec.toNat_not, -BitVec.toNat_ushiftRight, -BitVec.toNat_shiftLeft, -BitVec.toNat_mul, -UInt8.toNat_xor, -UInt8.toNat_and, -UInt8.toNat_or, -UInt8.toNat_shiftLeft, -UInt8.toNat_shiftRight, S20]) ?_
  rintro ⟨i, u, o⟩ ⟨hi, hu, ho⟩
  simp only at hi hu ho
  have hu2 : u ≤ d := by rw [hu]; exact Nat.div_le_self _ _
  by_cases h : i < 16
  · have c2 := run_digit (e3 := e3) (e4 := e4) (u % 16) (by omega)
    have hol : o.length = i := by rw [ho, digs_len]
    have hm : u % 16 < 16 := Nat.mod_lt _ (by omega)
    have a1 := and15_64 u (by omega)
    have e1 : digs (i + 1) d = hexD (u % 16) :: o := by rw [digs, ← hu, ← ho]
    have e2 : d / 16 ^ (i + 1) = u / 16 := by rw [hu, Nat.div_div_eq_div_mul, Nat.pow_succ]
    generalize u % 16 = r at *
    simp -dsimp -implicitDefEqProofs (maxSteps := 1000000) (disch := omega) [condP_pos, condP_neg, optP_pos, decide_eq_true, decide_eq_false, wrap_i64, Int.natCast_inj, -BitVec.toNat_xor, -BitVec.toNat_and, -BitVec.toNat_or, -BitVec.toNat_not, -BitVec.toNat_ushiftRight, -BitVec.toNat_shiftLeft, -BitVec.toNat_mul, -UInt8.toNat_xor, -UInt8.toNat_and, -UInt8.toNat_or, -UInt8.toNat_shiftLeft, -UInt8.toNat_shiftRight, S20, h, a1, c2, shr4_64, hol, wrap_i64, bytesOf_one, show 1 + i ≤ 9223372036854775807 by omega]
    refine again (i + 1, u / 16, hexD r :: o) ⟨by simp only; omega, e2.symm, e1.symm⟩ (by simp only; omega) (by simp -dsimp -implicitDefEqProofs (maxSteps := 1000000) (disch := omega) [condP_pos, condP_neg, optP_pos, decide_eq_true, decide_eq_false, wrap_i64, Int.natCast_inj, -BitVec.toNat_xor, -BitVec.toNat_and, -BitVec.toNat_or, -BitVec.toNat_not, -BitVec.toNat_ushiftRight, -BitVec.toNat_shiftLeft, -BitVec.toNat_mul, -UInt8.toNat_xor, -UInt8.toNat_and, -UInt8.toNat_or, -UInt8.toNat_shiftLeft, -UInt8.toNat_shiftRight, S20])
  · obtain rfl : i = 16 := by omega
    simp -dsimp -implicitDefEqProofs (maxSteps := 1000000) (disch := omega) [condP_pos, condP_neg, optP_pos, decide_eq_true, decide_eq_false, wrap_i64, Int.natCast_inj, -BitVec.toNat_xor, -BitVec.toNat_and, -BitVec.toNat_or, -BitVec.toNat_not, -BitVec.toNat_ushiftRight, -BitVec.toNat_shiftLeft, -BitVec.toNat_mul, -UInt8.toNat_xor, -UInt8.toNat_and, -UInt8.toNat_or, -UInt8.toNat_shiftLeft, -UInt8.toNat_shiftRight, S20, ho]
end Go.Vai
