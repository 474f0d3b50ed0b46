/-
  What functions of layer 1 and of its reference compute: equations of the abstract run, and plain laws of them.
-/
import Derived.Test.YthejhdkdfjinbaaDoorO1
set_option linter.unusedVariables false
set_option linter.unusedSimpArgs false
set_option linter.unnecessarySimpa false
set_option linter.unusedSectionVars false
namespace Go.Vai
variable {e3 e4 : Value}
/-! The library's digits of a number, base 16. -/
theorem cl_pow : (W e3 e4).run 84 [i64 16] [] = some (bo true, []) := (W e3 e4).run_some.2 ⟨60, by kernel_rfl⟩
theorem cl_tz : (W e3 e4).run 85 [u64 16] [] = some (i64 4, []) := (W e3 e4).run_some.2 ⟨60, by kernel_rfl⟩
def cB (b : UInt8) : AV := u8 b.toNat
theorem hex36 (k : Nat) (h : k < 16) : ([48, 49, 50, 51, 52, 53, 54, 55, 56, 57, 97, 98, 99, 100, 101, 102, 103, 104, 105, 106, 107, 108, 109, 110, 111, 112, 113, 114, 115, 116, 117, 118, 119, 120, 121, 122] : List UInt8)[k]? = some (hexD k) := by
  match k, h with
  | 0, _ | 1, _ | 2, _ | 3, _ | 4, _ | 5, _ | 6, _ | 7, _ | 8, _ | 9, _ | 10, _ | 11, _ | 12, _ | 13, _ | 14, _ | 15, _ => rfl
  | n + 16, h => omega
def S67 (a : Nat × Nat × List UInt8) : St := { sl := [(0, .osl 0 1 0 0), (1, u64 a.2.1), (3, bo false), (4, bo false), (10, .emp), (11, bs []), (12, .bp 1 0), (13, i64 a.1), (14, u64 4), (15, u64 16), (16, u64 15)], hp := [(0, some (.arr 1 [])), (1, some (.box (a.2.2.map cB)))], nx := 2 }
theorem nd_ex : ∀ d : Nat, ∃ k, 1 ≤ k ∧ d < 16 ^ k ∧ (k = 1 ∨ 16 ^ (k - 1) ≤ d) := by
  intro d
  induction d using Nat.strongRecOn with
  | ind d ih =>
    by_cases h : d < 16
    · exact ⟨1, by omega, by omega, .inl rfl⟩
    · obtain ⟨k, h1, h2, h3⟩ := ih (d / 16) (by omega)
      refine ⟨k + 1, by omega, ?_, .inr ?_⟩
      · rw [Nat.pow_succ]; omega
      · rw [Nat.add_sub_cancel]
        rcases h3 with rfl | h3
        · omega
        · have : 16 ^ k = 16 ^ (k - 1) * 16 := by rw [← Nat.pow_succ]; congr 1; omega
          omega
theorem cB0 : cB 0 = u8 0 := rfl
theorem namesL_cB (c : List UInt8) : AV.namesL (c.map cB) = [] := by
  induction c with
  | nil => rfl
  | cons a r ih => simp [cB, ih]
theorem renL_cB (ρ : Nat → Option Nat) (c : List UInt8) : AV.renL ρ (c.map cB) = c.map cB := by
  induction c with
  | nil => rfl
  | cons a r ih => simp [cB, ih]
theorem boxFV_cB (c : List UInt8) : boxFV (c.map cB) = some (c.map eB) := by
  induction c with
  | nil => rfl
  | cons a r ih => simp [cB, eB, ih]
theorem setAt_cB (c : List UInt8) (i : Nat) (b : UInt8) (h : i < c.length) : setAt (c.map cB) i [u8 b.toNat] = (c.set i b).map cB := by
  have e : u8 b.toNat = cB b := rfl
  rw [e, List.map_set, List.set_eq_take_append_cons_drop, if_pos (by simpa using h)]
  simp [setAt]
set_option maxHeartbeats 4000000 in
theorem run_bits (d k : Nat) (hd : d < 18446744073709551616) (k1 : 1 ≤ k) (k2 : d < 16 ^ k) (k3 : k = 1 ∨ 16 ^ (k - 1) ≤ d) : (W e3 e4).run 67 [.emp, u64 d, i64 16, bo false, bo false] [] = some (.tup [.fz (.sl []), bs (digs k d)], []) := by
  refine run_wp (by rw [W_T]; exact rfl) ?_
  simp -dsimp -implicitDefEqProofs (maxSteps := 1000000) (disch := omega) [condP_pos, condP_neg, optP_pos, decide_eq_true, decide_eq_false, wrap_i64, Int.natCast_inj, -BitVec.toNat_xor, -BitVec.toNat_and, -BitVec.toNat_or, -BitVec.toNat_not, -BitVec.toNat_ushiftRight, -BitVec.toNat_shiftLeft, -BitVec.toNat_mul, -UInt8.toNat_xor, -UInt8.toNat_and, -UInt8.toNat_or, -UInt8.toNat_shiftLeft, -UInt8.toNat_shiftRight, cl_pow, cl_tz, wrap_u64]
  refine wp_inv S67 (fun a => 50 ≤ a.1 ∧ a.1 ≤ 65 ∧ a.2.2.length = 65 ∧ a.2.1 = d / 16 ^ (65 - a.1) ∧ a.2.2.drop a.1 = digs (65 - a.1) d ∧ (a.1 = 65 ∨ 16 ^ (65 - a.1) ≤ d)) (fun a => a.1) (65, d, List.replicate 65 0) (by simp [digs]) (by simp -dsimp -implicitDefEqProofs (maxSteps := 1000000) (disch := omega) [condP_pos, condP_neg, optP_pos, decide_eq_true, decide_eq_false, wrap_i64, Int.natCast_inj, -BitVec.toNat_xor, -BitVec.toNat_and, -BitVec.toNat_or, -BitVec.toNat_not, -BitVec.toNat_ushiftRight, -BitVec.toNat_shiftLeft, -BitVec.toNat_mul, -UInt8.toNat_xor, -UInt8.toNat_and, -UInt8.toNat_or, -UInt8.toNat_shiftLeft, -UInt8.toNat_shiftRight, S67, cB0]) ?_
  rintro ⟨i, u, c⟩ ⟨h0, h1, hc, hu, hdr, hp⟩
  simp only at h0 h1 hc hu hdr hp
  have hu2 : u ≤ d := by rw [hu]; exact Nat.div_le_self _ _
  have a1 := and15_64 u (by omega)
  obtain ⟨n, hn⟩ : ∃ n, n = 65 - i := ⟨_, rfl⟩
  have hle : u * 16 ^ n ≤ d := by rw [hu, ← hn]; exact Nat.div_mul_le_self _ _
  have hds : ∀ j, j + 1 = i → (c.set j (hexD (u % 16))).drop j = digs (n + 1) d := by
    intro j hj
    rw [digs, hn, ← hu, ← hdr, List.set_eq_take_append_cons_drop, if_pos (by omega), List.drop_left' (by simp; omega), hj]
  by_cases h : 16 ≤ u
  · have hx := hex36 (u % 16) (Nat.mod_lt _ (by omega))
    have sc := setAt_cB c (i - 1) (hexD (u % 16)) (by omega)
    have i1 : 50 < i := by
      rcases Nat.lt_or_ge 50 i with h | h
      · exact h
      · exfalso
        have : i = 50 := by omega
        subst this
        have := Nat.div_mul_le_self d (16 ^ (65 - 50))
        rw [← hu] at this
        have e : (16 : Nat) ^ (65 - 50) = 1152921504606846976 := by decide
        rw [e] at this
        omega
    have ei : ((i : Int) - 1) = ((i - 1 : Nat) : Int) := by omega
    generalize hr : u % 16 = r at *
    simp -dsimp -implicitDefEqProofs (maxSteps := 1000000) (disch := omega) [condP_pos, condP_neg, optP_pos, decide_eq_true, decide_eq_false, wrap_i64, Int.natCast_inj, -BitVec.toNat_xor, -BitVec.toNat_and, -BitVec.toNat_or, -BitVec.toNat_not, -BitVec.toNat_ushiftRight, -BitVec.toNat_shiftLeft, -BitVec.toNat_mul, -UInt8.toNat_xor, -UInt8.toNat_and, -UInt8.toNat_or, -UInt8.toNat_shiftLeft, -UInt8.toNat_shiftRight, S67, h, a1, hx, ei, hc, sc, namesL_cB, renL_cB, -setAt, -boxFV, -List.map_set, shr4_64]
    refine again (i - 1, u / 16, c.set (i - 1) (hexD r)) ⟨by simp only; omega, by simp only; omega, by simp only [List.length_set]; exact hc, ?_, ?_, .inr ?_⟩ (by simp only; omega) (by simp -dsimp -implicitDefEqProofs (maxSteps := 1000000) (disch := omega) [condP_pos, condP_neg, optP_pos, decide_eq_true, decide_eq_false, wrap_i64, Int.natCast_inj, -BitVec.toNat_xor, -BitVec.toNat_and, -BitVec.toNat_or, -BitVec.toNat_not, -BitVec.toNat_ushiftRight, -BitVec.toNat_shiftLeft, -BitVec.toNat_mul, -UInt8.toNat_xor, -UInt8.toNat_and, -UInt8.toNat_or, -UInt8.toNat_shiftLeft, -UInt8.toNat_shiftRight, S67, namesL_cB, renL_cB, -List.map_set])
    · simp only
      rw [hu, Nat.div_div_eq_div_mul, ← Nat.pow_succ]
      congr 2
      omega
    · simp only
      rw [hds (i - 1) (by omega)]
      congr 1
      omega
    · simp only
      rw [show 65 - (i - 1) = n + 1 by omega, Nat.pow_succ]
      have := Nat.mul_le_mul_right (16 ^ n) h
      omega
  · have hx := hex36 u (by omega)
    have sc := setAt_cB c (i - 1) (hexD u) (by omega)
    have i1 : 49 < i := by omega
    have ei : ((i : Int) - 1) = ((i - 1 : Nat) : Int) := by omega
    have ek : k = n + 1 := by
      have e1 : d < 16 ^ (n + 1) := by
        have := Nat.lt_mul_div_succ d (show 0 < 16 ^ n from Nat.pow_pos (by omega))
        rw [hn, ← hu, ← hn] at this
        have h2 := Nat.mul_le_mul_left (16 ^ n) (show u + 1 ≤ 16 by omega)
        rw [Nat.pow_succ]
        omega
      have e2 : 16 ^ n ≤ d ∨ n = 0 := by
        rcases hp with hp | hp
        · exact .inr (by omega)
        · exact .inl (by rw [hn]; exact hp)
      have e3 : n < k := by
        rcases e2 with e2 | e2
        · exact (Nat.pow_lt_pow_iff_right (by omega)).1 (Nat.lt_of_le_of_lt e2 k2)
        · omega
      have e4 : k - 1 < n + 1 := by
        rcases k3 with k3 | k3
        · omega
        · exact (Nat.pow_lt_pow_iff_right (by omega)).1 (Nat.lt_of_le_of_lt k3 e1)
      omega
    have hf := hds (i - 1) (by omega)
    rw [Nat.mod_eq_of_lt (show u < 16 by omega)] at hf
    rw [ek]
    have hl2 : ((c.set (i - 1) (hexD u)).map eB).length = 65 := by simp [hc]
    have tk : List.take (65 - (i - 1)) (((c.set (i - 1) (hexD u)).map eB).drop (i - 1)) = (digs (n + 1) d).map eB := by
      rw [← hf, ← List.map_drop]
      exact List.take_of_length_le (by simp [hc])
    simp -dsimp -implicitDefEqProofs (maxSteps := 1000000) (disch := omega) [condP_pos, condP_neg, optP_pos, decide_eq_true, decide_eq_false, wrap_i64, Int.natCast_inj, -BitVec.toNat_xor, -BitVec.toNat_and, -BitVec.toNat_or, -BitVec.toNat_not, -BitVec.toNat_ushiftRight, -BitVec.toNat_shiftLeft, -BitVec.toNat_mul, -UInt8.toNat_xor, -UInt8.toNat_and, -UInt8.toNat_or, -UInt8.toNat_shiftLeft, -UInt8.toNat_shiftRight, S67, h, hx, ei, hc, sc, namesL_cB, renL_cB, -setAt, boxFV_cB, -boxFV, -List.map_set, tk]
theorem run_fmt (d k : Nat) (hd : d < 18446744073709551616) (k1 : 1 ≤ k) (k2 : d < 16 ^ k) (k3 : k = 1 ∨ 16 ^ (k - 1) ≤ d) : (W e3 e4).run 35 [u64 d, i64 16] [] = some (bs (digs k d), []) := by
  have c1 := run_bits (e3 := e3) (e4 := e4) d k hd k1 k2 k3
  have c2 : (W e3 e4).run 52 [u64 d, i64 16] [] = some (bs (digs k d), []) := by
    refine run_wp (by rw [W_T]; exact rfl) ?_
    simp -dsimp -implicitDefEqProofs (maxSteps := 1000000) (disch := omega) [condP_pos, condP_neg, optP_pos, decide_eq_true, decide_eq_false, wrap_i64, Int.natCast_inj, -BitVec.toNat_xor, -BitVec.toNat_and, -BitVec.toNat_or, -BitVec.toNat_not, -BitVec.toNat_ushiftRight, -BitVec.toNat_shiftLeft, -BitVec.toNat_mul, -UInt8.toNat_xor, -UInt8.toNat_and, -UInt8.toNat_or, -UInt8.toNat_shiftLeft, -UInt8.toNat_shiftRight, c1]
  refine run_wp (by rw [W_T]; exact rfl) ?_
  simp -dsimp -implicitDefEqProofs (maxSteps := 1000000) (disch := omega) [condP_pos, condP_neg, optP_pos, decide_eq_true, decide_eq_false, wrap_i64, Int.natCast_inj, -BitVec.toNat_xor, -BitVec.toNat_and, -BitVec.toNat_or, -BitVec.toNat_not, -BitVec.toNat_ushiftRight, -BitVec.toNat_shiftLeft, -BitVec.toNat_mul, -UInt8.toNat_xor, -UInt8.toNat_and, -UInt8.toNat_or, -UInt8.toNat_shiftLeft, -UInt8.toNat_shiftRight, c2]
/-! The digest. -/
theorem rep0 (n : Nat) : Lib.repeatL [48] n = List.replicate n 48 := by
  induction n with
  | zero => rfl
  | succ n ih => simp [Lib.repeatL, List.replicate_succ] at ih ⊢; exact ih
theorem digs_pad (d k : Nat) (hk : d < 16 ^ k) : ∀ m, List.replicate m 48 ++ digs k d = digs (k + m) d
  | 0 => by simp
  | m + 1 => by
    have e : digs (k + (m + 1)) d = hexD (d / 16 ^ (k + m) % 16) :: digs (k + m) d := rfl
    rw [e, ← digs_pad d k hk m, List.replicate_succ, Nat.div_eq_of_lt (Nat.lt_of_lt_of_le hk (Nat.pow_le_pow_right (by omega) (by omega)))]
    rfl
theorem run_rep (n : Nat) (h : n ≤ 1000000) : (W e3 e4).run 36 [bs [48], i64 n] [] = some (bs (List.replicate n 48), []) := by
  refine run_E rfl ?_
  simp only [Em, mkB_size, mkB_list, List.length_singleton, Int.toNat_natCast]
  rw [if_pos (by omega), rep0]
def S19 (l : List UInt8) (a : Nat × BitVec 64) : St := { sl := [(0, bs l), (3, u64 a.2.toNat), (7, i64 l.length), (8, i64 a.1)], hp := [], nx := 0 }
set_option maxHeartbeats 2000000 in
theorem run_digest (l : List UInt8) (hl : l.length ≤ 1000000) : (W e3 e4).run 19 [bs l] [] = some (bs (digs 16 (fnvG l)), []) := by
  refine run_wp (by rw [W_T]; exact rfl) ?_
  simp -dsimp -implicitDefEqProofs (maxSteps := 1000000) (disch := omega) [condP_pos, condP_neg, optP_pos, decide_eq_true, decide_eq_false, wrap_i64, Int.natCast_inj, -BitVec.toNat_xor, -BitVec.toNat_and, -BitVec.toNat_or, -BitVec.toNat_not, -BitVec.toNat_ushiftRight, -BitVec.toNat_shiftLeft, -BitVec.toNat_mul, -UInt8.toNat_xor, -UInt8.toNat_and, -UInt8.toNat_or, -UInt8.toNat_shiftLeft, -UInt8.toNat_shiftRight]
  refine wp_inv (S19 l) (fun a => a.1 ≤ l.length ∧ a.2 = fnvS 14695981039346656037#64 (l.take a.1)) (fun a => l.length - a.1) (0, 14695981039346656037#64) ⟨by simp, by simp [fnvS]⟩ (by simp -dsimp -implicitDefEqProofs (maxSteps := 1000000) (disch := omega) [condP_pos, condP_neg, optP_pos, decide_eq_true, decide_eq_false, wrap_i64, Int.natCast_inj, -BitVec.toNat_xor, -BitVec.toNat_and, -BitVec.toNat_or, -BitVec.toNat_not, -BitVec.toNat_ushiftRight, -BitVec.toNat_shiftLeft, -BitVec.toNat_mul, -UInt8.toNat_xor, -UInt8.toNat_and, -UInt8.toNat_or, -UInt8.toNat_shiftLeft, -UInt8.toNat_shiftRight, S19]) ?_
  rintro ⟨i, c⟩ ⟨hi, hc⟩
  simp only at hi hc
  by_cases h : i < l.length
  · obtain ⟨b, hb⟩ : ∃ b, l[i] = b := ⟨_, rfl⟩
    have hb2 : l[i]? = some b := by rw [List.getElem?_eq_getElem h, hb]
    have hb' := b.toNat_lt
    simp -dsimp -implicitDefEqProofs (maxSteps := 1000000) (disch := omega) [condP_pos, condP_neg, optP_pos, decide_eq_true, decide_eq_false, wrap_i64, Int.natCast_inj, -BitVec.toNat_xor, -BitVec.toNat_and, -BitVec.toNat_or, -BitVec.toNat_not, -BitVec.toNat_ushiftRight, -BitVec.toNat_shiftLeft, -BitVec.toNat_mul, -UInt8.toNat_xor, -UInt8.toNat_and, -UInt8.toNat_or, -UInt8.toNat_shiftLeft, -UInt8.toNat_shiftRight, S19, h, hb, xor64b, wrap_u64, mul64p]
    refine again (i + 1, fnvB c b) ⟨by simp only; omega, by simp only; rw [fnvS_take _ l i b hb2, hc]⟩ (by simp only; omega) (by simp -dsimp -implicitDefEqProofs (maxSteps := 1000000) (disch := omega) [condP_pos, condP_neg, optP_pos, decide_eq_true, decide_eq_false, wrap_i64, Int.natCast_inj, -BitVec.toNat_xor, -BitVec.toNat_and, -BitVec.toNat_or, -BitVec.toNat_not, -BitVec.toNat_ushiftRight, -BitVec.toNat_shiftLeft, -BitVec.toNat_mul, -UInt8.toNat_xor, -UInt8.toNat_and, -UInt8.toNat_or, -UInt8.toNat_shiftLeft, -UInt8.toNat_shiftRight, S19, fnvB])
  · have h2 : fnvG l = c.toNat := by
      rw [hc, show i = l.length by omega, List.take_length, fnvG]
    have hd := c.isLt
    obtain ⟨d, hcd⟩ : ∃ d, c.toNat = d := ⟨_, rfl⟩
    rw [h2, hcd]
    rw [hcd] at hd
    obtain ⟨k, k1, k2, k3⟩ := nd_ex d
    have k16 : k ≤ 16 := by
      rcases k3 with k3 | k3
      · omega
      · have : k - 1 < 16 := (Nat.pow_lt_pow_iff_right (show 1 < 16 by omega)).1 (Nat.lt_of_le_of_lt k3 (show d < 16 ^ 16 by omega))
        omega
    have c1 := run_fmt (e3 := e3) (e4 := e4) d k (by omega) k1 k2 k3
    have c2 := run_rep (e3 := e3) (e4 := e4) (16 - k) (by omega)
    have e1 : (16 : Int) - k = ((16 - k : Nat) : Int) := by omega
    have e2 : List.replicate (16 - k) 48 ++ digs k d = digs 16 d := by
      rw [digs_pad d k k2, show k + (16 - k) = 16 by omega]
    have e3 : 16 - k + k ≤ 9223372036854775807 := by omega
    simp -dsimp -implicitDefEqProofs (maxSteps := 1000000) (disch := omega) [condP_pos, condP_neg, optP_pos, decide_eq_true, decide_eq_false, wrap_i64, Int.natCast_inj, -BitVec.toNat_xor, -BitVec.toNat_and, -BitVec.toNat_or, -BitVec.toNat_not, -BitVec.toNat_ushiftRight, -BitVec.toNat_shiftLeft, -BitVec.toNat_mul, -UInt8.toNat_xor, -UInt8.toNat_and, -UInt8.toNat_or, -UInt8.toNat_shiftLeft, -UInt8.toNat_shiftRight, S19, h, hcd, c1, c2, e1, e2, e3, digs_len]
end Go.Vai
