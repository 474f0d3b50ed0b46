/-
  What functions of layer 1 and of its reference compute: equations of the abstract run, and plain laws of them.
-/
import Derived.Test.YthejhdkdfjinbaaDoorO2
import Derived.Test.YthejhdkdfjinbaaDoorN7
set_option linter.unusedVariables false
set_option linter.unusedSimpArgs false
set_option linter.unnecessarySimpa false
set_option linter.unusedSectionVars false
namespace Go.Vai
variable {e3 e4 : Value}
/-! The laws of sums and of one byte. -/
theorem law_sums (l : List UInt8) : (W e3 e4).run 4 [bs l] [] = some (bo true, []) := by
  refine run_wp (by rw [W_T]; exact rfl) ?_
  by_cases h : 5000 < l.length
  · simp -dsimp -implicitDefEqProofs (maxSteps := 1000000) (disch := omega) [condP_pos, condP_neg, optP_pos, decide_eq_true, decide_eq_false, wrap_i64, Int.natCast_inj, -BitVec.toNat_xor, -BitVec.toNat_and, -BitVec.toNat_or, -BitVec.toNat_not, -BitVec.toNat_ushiftRight, -BitVec.toNat_shiftLeft, -BitVec.toNat_mul, -UInt8.toNat_xor, -UInt8.toNat_and, -UInt8.toNat_or, -UInt8.toNat_shiftLeft, -UInt8.toNat_shiftRight, run_sane, h]
  · have c1 := run_crc (e3 := e3) (e4 := e4) l (by omega)
    have c2 := run_rcrc (e3 := e3) (e4 := e4) l (by omega)
    rw [crcS_r] at c2
    have e : ~~~ crcS 0xFFFFFFFF#32 l = crcG l := rfl
    rw [e] at c2
    have c3 := run_digest (e3 := e3) (e4 := e4) l (by omega)
    have c4 := run_rdigest (e3 := e3) (e4 := e4) l (by omega)
    simp -dsimp -implicitDefEqProofs (maxSteps := 1000000) (disch := omega) [condP_pos, condP_neg, optP_pos, decide_eq_true, decide_eq_false, wrap_i64, Int.natCast_inj, -BitVec.toNat_xor, -BitVec.toNat_and, -BitVec.toNat_or, -BitVec.toNat_not, -BitVec.toNat_ushiftRight, -BitVec.toNat_shiftLeft, -BitVec.toNat_mul, -UInt8.toNat_xor, -UInt8.toNat_and, -UInt8.toNat_or, -UInt8.toNat_shiftLeft, -UInt8.toNat_shiftRight, run_sane, h, c1, c2, c3, c4]
theorem hexD_inj (a b : Nat) (ha : a < 16) (hb : b < 16) (h : hexD a = hexD b) : a = b := by
  have e : (List.range 16).all (fun a => (List.range 16).all fun b => decide (hexD a = hexD b → a = b)) = true := by kernel_rfl
  exact of_decide_eq_true (List.all_eq_true.1 (List.all_eq_true.1 e a (List.mem_range.2 ha)) b (List.mem_range.2 hb)) h
theorem digs_inj (d e : Nat) : ∀ n, digs n d = digs n e → d % 16 ^ n = e % 16 ^ n
  | 0, _ => by simp [Nat.mod_one]
  | n + 1, h => by
    simp only [digs, List.cons.injEq] at h
    have h1 := hexD_inj _ _ (Nat.mod_lt _ (by omega)) (Nat.mod_lt _ (by omega)) h.1
    have h2 := digs_inj d e n h.2
    rw [Nat.pow_succ, Nat.mod_mul, Nat.mod_mul, h1, h2]
theorem fnvB_inj (c d : BitVec 64) (b : UInt8) (h : fnvB c b = fnvB d b) : c = d := by
  unfold fnvB at h
  have h2 := congrArg (fun z => z * 14886173955864302971#64) h
  have e : (1099511628211#64 * 14886173955864302971#64 : BitVec 64) = 1#64 := by decide
  simp only [BitVec.mul_assoc, e, BitVec.mul_one] at h2
  have h3 := congrArg (fun z => z ^^^ BitVec.ofNat 64 b.toNat) h2
  simp only [BitVec.xor_assoc, BitVec.xor_self, BitVec.xor_zero] at h3
  exact h3
theorem fnvS_inj : ∀ (l : List UInt8) (c d : BitVec 64), fnvS c l = fnvS d l → c = d
  | [], _, _, h => h
  | b :: l, c, d, h => fnvB_inj c d b (fnvS_inj l _ _ h)
theorem fnvS_app (c : BitVec 64) (a b : List UInt8) : fnvS c (a ++ b) = fnvS (fnvS c a) b := List.foldl_append
theorem fnvB_byte (c : BitVec 64) (a b : UInt8) (h : fnvB c a = fnvB c b) : a = b := by
  unfold fnvB at h
  have h2 := congrArg (fun z => z * 14886173955864302971#64) h
  have e : (1099511628211#64 * 14886173955864302971#64 : BitVec 64) = 1#64 := by decide
  simp only [BitVec.mul_assoc, e, BitVec.mul_one] at h2
  have h3 := congrArg (fun z => c ^^^ z) h2
  simp only [← BitVec.xor_assoc, BitVec.xor_self, BitVec.zero_xor] at h3
  have h4 := congrArg BitVec.toNat h3
  simp only [BitVec.toNat_ofNat] at h4
  have := a.toNat_lt
  have := b.toNat_lt
  exact UInt8.toNat_inj.1 (by omega)
theorem fnv_one (l : List UInt8) (p : Nat) (y z : UInt8) (hy : l[p]? = some y) (h : fnvG l = fnvG (l.set p z)) : y = z := by
  have hp : p < l.length := by
    rcases Nat.lt_or_ge p l.length with h | h
    · exact h
    · rw [List.getElem?_eq_none h] at hy; cases hy
  have hy2 : l[p] = y := by
    rw [List.getElem?_eq_getElem hp] at hy
    exact Option.some.inj hy
  have e1 : l = l.take p ++ y :: l.drop (p + 1) := by
    rw [← hy2, ← List.drop_eq_getElem_cons hp, List.take_append_drop]
  have e2 : l.set p z = l.take p ++ z :: l.drop (p + 1) := by
    rw [List.set_eq_take_append_cons_drop, if_pos hp]
  rw [e2] at h
  rw [e1] at h
  rw [← e1] at h
  have h1 : fnvS 14695981039346656037#64 l = fnvS 14695981039346656037#64 (l.take p ++ z :: l.drop (p + 1)) := BitVec.eq_of_toNat_eq h
  rw [show fnvS 14695981039346656037#64 l = fnvS 14695981039346656037#64 (l.take p ++ y :: l.drop (p + 1)) by rw [← e1], fnvS_app, fnvS_app] at h1
  exact fnvB_byte _ _ _ (fnvS_inj _ _ _ h1)
theorem xor_ne (y b : UInt8) (h : b ≠ 0) : y ≠ y ^^^ b := by
  intro e
  apply h
  have h2 := congrArg (fun z => y ^^^ z) e
  simp only [← UInt8.xor_assoc, UInt8.xor_self, UInt8.zero_xor] at h2
  exact h2.symm
set_option maxHeartbeats 4000000 in
theorem law_onebyte (l : List UInt8) (p : Int) (b : UInt8) (hp : inI p) : (W e3 e4).run 7 [bs l, i64 p, u8 b.toNat] [] = some (bo true, []) := by
  refine run_wp (by rw [W_T]; exact rfl) ?_
  by_cases h1 : 5000 < l.length
  · simp -dsimp -implicitDefEqProofs (maxSteps := 1000000) (disch := omega) [condP_pos, condP_neg, optP_pos, decide_eq_true, decide_eq_false, wrap_i64, Int.natCast_inj, -BitVec.toNat_xor, -BitVec.toNat_and, -BitVec.toNat_or, -BitVec.toNat_not, -BitVec.toNat_ushiftRight, -BitVec.toNat_shiftLeft, -BitVec.toNat_mul, -UInt8.toNat_xor, -UInt8.toNat_and, -UInt8.toNat_or, -UInt8.toNat_shiftLeft, -UInt8.toNat_shiftRight, run_sane, h1]
  · by_cases h2 : p < 0
    · simp -dsimp -implicitDefEqProofs (maxSteps := 1000000) (disch := omega) [condP_pos, condP_neg, optP_pos, decide_eq_true, decide_eq_false, wrap_i64, Int.natCast_inj, -BitVec.toNat_xor, -BitVec.toNat_and, -BitVec.toNat_or, -BitVec.toNat_not, -BitVec.toNat_ushiftRight, -BitVec.toNat_shiftLeft, -BitVec.toNat_mul, -UInt8.toNat_xor, -UInt8.toNat_and, -UInt8.toNat_or, -UInt8.toNat_shiftLeft, -UInt8.toNat_shiftRight, run_sane, h1, h2]
    · obtain ⟨q, rfl⟩ := Int.eq_ofNat_of_zero_le (show 0 ≤ p by omega)
      by_cases h3 : l.length ≤ q
      · simp -dsimp -implicitDefEqProofs (maxSteps := 1000000) (disch := omega) [condP_pos, condP_neg, optP_pos, decide_eq_true, decide_eq_false, wrap_i64, Int.natCast_inj, -BitVec.toNat_xor, -BitVec.toNat_and, -BitVec.toNat_or, -BitVec.toNat_not, -BitVec.toNat_ushiftRight, -BitVec.toNat_shiftLeft, -BitVec.toNat_mul, -UInt8.toNat_xor, -UInt8.toNat_and, -UInt8.toNat_or, -UInt8.toNat_shiftLeft, -UInt8.toNat_shiftRight, run_sane, h1, h2, h3]
      · by_cases h4 : b.toNat = 0
        · simp -dsimp -implicitDefEqProofs (maxSteps := 1000000) (disch := omega) [condP_pos, condP_neg, optP_pos, decide_eq_true, decide_eq_false, wrap_i64, Int.natCast_inj, -BitVec.toNat_xor, -BitVec.toNat_and, -BitVec.toNat_or, -BitVec.toNat_not, -BitVec.toNat_ushiftRight, -BitVec.toNat_shiftLeft, -BitVec.toNat_mul, -UInt8.toNat_xor, -UInt8.toNat_and, -UInt8.toNat_or, -UInt8.toNat_shiftLeft, -UInt8.toNat_shiftRight, run_sane, h1, h2, h3, h4]
        · obtain ⟨y, hy⟩ : ∃ y, l[q] = y := ⟨_, rfl⟩
          have hy2 : l[q]? = some y := by rw [List.getElem?_eq_getElem (by omega), hy]
          have c1 := run_digest (e3 := e3) (e4 := e4) l (by omega)
          have c2 := run_digest (e3 := e3) (e4 := e4) (l.set q (y ^^^ b)) (by rw [List.length_set]; omega)
          have hne : ¬ digs 16 (fnvG l) = digs 16 (fnvG (l.set q (y ^^^ b))) := by
            intro h
            have h5 := digs_inj _ _ 16 h
            have l1 : fnvG l < 2 ^ 64 := (fnvS _ l).isLt
            have l2 : fnvG (l.set q (y ^^^ b)) < 2 ^ 64 := (fnvS _ (l.set q (y ^^^ b))).isLt
            rw [Nat.mod_eq_of_lt (by omega), Nat.mod_eq_of_lt (by omega)] at h5
            refine xor_ne y b (fun e => h4 (by rw [e]; rfl)) (fnv_one l q y _ hy2 h5)
          have tk : List.take l.length ((l.set q (y ^^^ b)).map eB) = (l.set q (y ^^^ b)).map eB := List.take_of_length_le (by simp)
          simp -dsimp -implicitDefEqProofs (maxSteps := 1000000) (disch := omega) [condP_pos, condP_neg, optP_pos, decide_eq_true, decide_eq_false, wrap_i64, Int.natCast_inj, -BitVec.toNat_xor, -BitVec.toNat_and, -BitVec.toNat_or, -BitVec.toNat_not, -BitVec.toNat_ushiftRight, -BitVec.toNat_shiftLeft, -BitVec.toNat_mul, -UInt8.toNat_xor, -UInt8.toNat_and, -UInt8.toNat_or, -UInt8.toNat_shiftLeft, -UInt8.toNat_shiftRight, run_sane, h1, h2, h3, h4, hy, hy2, xor8, eB_0, eB_tl, set_eB, c1, c2, hne, tk, -List.map_set, touch]
end Go.Vai
