/-
  What functions of layer 1 and of its reference compute: equations of the abstract run, and plain laws of them.
-/
import Derived.Test.YthejhdkdfjinbaaDoorQ1
set_option linter.unusedVariables false
set_option linter.unusedSimpArgs false
set_option linter.unnecessarySimpa false
set_option linter.unusedSectionVars false
namespace Go.Vai
variable {e3 e4 : Value}
/-! Signs of base 64; where a text is cut. -/
theorem ib_none : ∀ (l : List UInt8) (c : UInt8), c ∉ l → Lib.indexByte l c = -1
  | [], _, _ => rfl
  | b :: l, c, h => by
    have h1 : ¬ b = c := fun e => h (by rw [e]; exact List.mem_cons_self)
    have h2 := ib_none l c (fun e => h (List.mem_cons_of_mem _ e))
    simp [Lib.indexByte, h1, h2]
theorem ib_some : ∀ (l : List UInt8) (c : UInt8) (o : Nat), l[o]? = some c → c ∉ l.take o → Lib.indexByte l c = o
  | [], _, _, h, _ => by simp at h
  | b :: l, c, 0, h, _ => by
    simp at h
    simp [Lib.indexByte, h]
  | b :: l, c, o + 1, h, h2 => by
    have h1 : ¬ b = c := fun e => h2 (by rw [e]; simp)
    have h3 := ib_some l c o (by simpa using h) (fun e => h2 (by simp [e]))
    have h4 : ¬ ((o : Int) = -1) := by omega
    simp [Lib.indexByte, h1, h3, h4]
theorem ib_cases (l : List UInt8) (c : UInt8) : (Lib.indexByte l c = -1 ∧ c ∉ l) ∨ ∃ o, o < l.length ∧ Lib.indexByte l c = (o : Nat) ∧ l[o]? = some c ∧ c ∉ l.take o := by
  by_cases h : c ∈ l
  · right
    induction l with
    | nil => simp at h
    | cons b l ih =>
      by_cases h1 : b = c
      · exact ⟨0, by simp, by simp [Lib.indexByte, h1], by simp [h1], by simp⟩
      · have h2 : c ∈ l := by
          rcases List.mem_cons.1 h with h | h
          · exact absurd h.symm h1
          · exact h
        obtain ⟨o, a1, a2, a3, a4⟩ := ih h2
        have h5 : c ∉ (b :: l).take (o + 1) := by
          simp only [List.take_succ_cons, List.mem_cons, not_or]
          exact ⟨fun e => h1 e.symm, a4⟩
        exact ⟨o + 1, by simp; omega, ib_some _ _ _ (by simpa using a3) h5, by simpa using a3, h5⟩
  · exact .inl ⟨ib_none l c h, h⟩
def signsL : List UInt8 := [65, 66, 67, 68, 69, 70, 71, 72, 73, 74, 75, 76, 77, 78, 79, 80, 81, 82, 83, 84, 85, 86, 87, 88, 89, 90, 97, 98, 99, 100, 101, 102, 103, 104, 105, 106, 107, 108, 109, 110, 111, 112, 113, 114, 115, 116, 117, 118, 119, 120, 121, 122, 48, 49, 50, 51, 52, 53, 54, 55, 56, 57, 43, 47]
def sgnI (c : UInt8) : Int := if c.toNat = 45 then 62 else if c.toNat = 95 then 63 else Lib.indexByte signsL c
theorem sgnI_le (c : UInt8) : -1 ≤ sgnI c ∧ sgnI c ≤ 63 := by
  unfold sgnI
  split
  · omega
  · split
    · omega
    · rcases ib_cases signsL c with ⟨h, _⟩ | ⟨o, h1, h2, _⟩
      · omega
      · have : signsL.length = 64 := rfl
        omega
theorem run_ib (l : List UInt8) (c : UInt8) : (W e3 e4).run 60 [bs l, u8 c.toNat] [] = some (i64 (Lib.indexByte l c), []) := by
  refine run_E rfl ?_
  simp [Em]
theorem run_sib (l : List UInt8) (c : UInt8) : (W e3 e4).run 47 [bs l, u8 c.toNat] [] = some (i64 (Lib.indexByte l c), []) := by
  refine run_wp (by rw [W_T]; exact rfl) ?_
  simp -dsimp -implicitDefEqProofs (maxSteps := 1000000) (disch := omega) [condP_pos, condP_neg, optP_pos, decide_eq_true, decide_eq_false, wrap_i64, Int.natCast_inj, -BitVec.toNat_xor, -BitVec.toNat_and, -BitVec.toNat_or, -BitVec.toNat_not, -BitVec.toNat_ushiftRight, -BitVec.toNat_shiftLeft, -BitVec.toNat_mul, -UInt8.toNat_xor, -UInt8.toNat_and, -UInt8.toNat_or, -UInt8.toNat_shiftLeft, -UInt8.toNat_shiftRight, run_ib]
theorem run_sign (c : UInt8) : (W e3 e4).run 46 [u8 c.toNat] [] = some (i64 (sgnI c), []) := by
  refine run_wp (by rw [W_T]; exact rfl) ?_
  have c1 := run_sib (e3 := e3) (e4 := e4) signsL c
  have c2 := run_sib (e3 := e3) (e4 := e4) signsL 43
  have c3 := run_sib (e3 := e3) (e4 := e4) signsL 47
  have k2 : Lib.indexByte signsL 43 = 62 := by kernel_rfl
  have k3 : Lib.indexByte signsL 47 = 63 := by kernel_rfl
  have e43 : ((43 : UInt8).toNat : Int) = 43 := rfl
  have e47 : ((47 : UInt8).toNat : Int) = 47 := rfl
  rw [k2, e43] at c2
  rw [k3, e47] at c3
  unfold signsL at c1 c2 c3
  unfold sgnI
  by_cases h1 : c.toNat = 45
  · rw [if_pos h1]
    have h1 := eq_true h1
    simp -dsimp -implicitDefEqProofs (maxSteps := 1000000) (disch := omega) [condP_pos, condP_neg, optP_pos, decide_eq_true, decide_eq_false, wrap_i64, Int.natCast_inj, -BitVec.toNat_xor, -BitVec.toNat_and, -BitVec.toNat_or, -BitVec.toNat_not, -BitVec.toNat_ushiftRight, -BitVec.toNat_shiftLeft, -BitVec.toNat_mul, -UInt8.toNat_xor, -UInt8.toNat_and, -UInt8.toNat_or, -UInt8.toNat_shiftLeft, -UInt8.toNat_shiftRight, h1, c2]
  · rw [if_neg h1]
    by_cases h2 : c.toNat = 95
    · rw [if_pos h2]
      have h2 := eq_true h2
      simp -dsimp -implicitDefEqProofs (maxSteps := 1000000) (disch := omega) [condP_pos, condP_neg, optP_pos, decide_eq_true, decide_eq_false, wrap_i64, Int.natCast_inj, -BitVec.toNat_xor, -BitVec.toNat_and, -BitVec.toNat_or, -BitVec.toNat_not, -BitVec.toNat_ushiftRight, -BitVec.toNat_shiftLeft, -BitVec.toNat_mul, -UInt8.toNat_xor, -UInt8.toNat_and, -UInt8.toNat_or, -UInt8.toNat_shiftLeft, -UInt8.toNat_shiftRight, h1, h2, c3]
    · rw [if_neg h2]
      unfold signsL
      simp -dsimp -implicitDefEqProofs (maxSteps := 1000000) (disch := omega) [condP_pos, condP_neg, optP_pos, decide_eq_true, decide_eq_false, wrap_i64, Int.natCast_inj, -BitVec.toNat_xor, -BitVec.toNat_and, -BitVec.toNat_or, -BitVec.toNat_not, -BitVec.toNat_ushiftRight, -BitVec.toNat_shiftLeft, -BitVec.toNat_mul, -UInt8.toNat_xor, -UInt8.toNat_and, -UInt8.toNat_or, -UInt8.toNat_shiftLeft, -UInt8.toNat_shiftRight, h1, h2, c1]
def S48 (c : UInt8) (i : Nat) : St := { sl := [(0, u8 c.toNat), (3, i64 i)], hp := [], nx := 0 }
set_option maxHeartbeats 2000000 in
theorem run_signvalue (c : UInt8) : (W e3 e4).run 48 [u8 c.toNat] [] = some (i64 (sgnI c), []) := by
  refine run_wp (by rw [W_T]; exact rfl) ?_
  unfold sgnI
  by_cases h1 : c.toNat = 45
  · rw [if_pos h1]
    have h1 := eq_true h1
    simp -dsimp -implicitDefEqProofs (maxSteps := 1000000) (disch := omega) [condP_pos, condP_neg, optP_pos, decide_eq_true, decide_eq_false, wrap_i64, Int.natCast_inj, -BitVec.toNat_xor, -BitVec.toNat_and, -BitVec.toNat_or, -BitVec.toNat_not, -BitVec.toNat_ushiftRight, -BitVec.toNat_shiftLeft, -BitVec.toNat_mul, -UInt8.toNat_xor, -UInt8.toNat_and, -UInt8.toNat_or, -UInt8.toNat_shiftLeft, -UInt8.toNat_shiftRight, h1]
  · rw [if_neg h1]
    by_cases h2 : c.toNat = 95
    · rw [if_pos h2]
      have h2 := eq_true h2
      simp -dsimp -implicitDefEqProofs (maxSteps := 1000000) (disch := omega) [condP_pos, condP_neg, optP_pos, decide_eq_true, decide_eq_false, wrap_i64, Int.natCast_inj, -BitVec.toNat_xor, -BitVec.toNat_and, -BitVec.toNat_or, -BitVec.toNat_not, -BitVec.toNat_ushiftRight, -BitVec.toNat_shiftLeft, -BitVec.toNat_mul, -UInt8.toNat_xor, -UInt8.toNat_and, -UInt8.toNat_or, -UInt8.toNat_shiftLeft, -UInt8.toNat_shiftRight, h1, h2]
    · rw [if_neg h2]
      simp -dsimp -implicitDefEqProofs (maxSteps := 1000000) (disch := omega) [condP_pos, condP_neg, optP_pos, decide_eq_true, decide_eq_false, wrap_i64, Int.natCast_inj, -BitVec.toNat_xor, -BitVec.toNat_and, -BitVec.toNat_or, -BitVec.toNat_not, -BitVec.toNat_ushiftRight, -BitVec.toNat_shiftLeft, -BitVec.toNat_mul, -UInt8.toNat_xor, -UInt8.toNat_and, -UInt8.toNat_or, -UInt8.toNat_shiftLeft, -UInt8.toNat_shiftRight, h1, h2]
      refine wp_inv (S48 c) (fun i => i ≤ 64 ∧ c ∉ signsL.take i) (fun i => 64 - i) 0 (by simp) (by simp -dsimp -implicitDefEqProofs (maxSteps := 1000000) (disch := omega) [condP_pos, condP_neg, optP_pos, decide_eq_true, decide_eq_false, wrap_i64, Int.natCast_inj, -BitVec.toNat_xor, -BitVec.toNat_and, -BitVec.toNat_or, -BitVec.toNat_not, -BitVec.toNat_ushiftRight, -BitVec.toNat_shiftLeft, -BitVec.toNat_mul, -UInt8.toNat_xor, -UInt8.toNat_and, -UInt8.toNat_or, -UInt8.toNat_shiftLeft, -UInt8.toNat_shiftRight, S48]) ?_
      rintro i ⟨hi, hn⟩
      have hlen : signsL.length = 64 := rfl
      by_cases h : i < 64
      · obtain ⟨b, hg⟩ : ∃ b, signsL[i]'(by omega) = b := ⟨_, rfl⟩
        have hb : signsL[i]? = some b := by rw [List.getElem?_eq_getElem (by omega), hg]
        by_cases hbc : b = c
        · have k := ib_some signsL c i (by rw [hb, hbc]) hn
          have hbc' : (b.toNat = c.toNat) = True := eq_true (by rw [hbc])
          unfold signsL at hg
          rw [k]
          simp -dsimp -implicitDefEqProofs (maxSteps := 1000000) (disch := omega) [condP_pos, condP_neg, optP_pos, decide_eq_true, decide_eq_false, wrap_i64, Int.natCast_inj, -BitVec.toNat_xor, -BitVec.toNat_and, -BitVec.toNat_or, -BitVec.toNat_not, -BitVec.toNat_ushiftRight, -BitVec.toNat_shiftLeft, -BitVec.toNat_mul, -UInt8.toNat_xor, -UInt8.toNat_and, -UInt8.toNat_or, -UInt8.toNat_shiftLeft, -UInt8.toNat_shiftRight, S48, h, hg, hbc']
        · have hbc' : ¬ b.toNat = c.toNat := fun e => hbc (UInt8.toNat_inj.1 e)
          have hn2 : c ∉ signsL.take (i + 1) := by
            rw [List.take_add_one, hb]
            simp only [Option.toList_some, List.mem_append, List.mem_singleton, not_or]
            exact ⟨hn, fun e => hbc e.symm⟩
          unfold signsL at hg
          simp -dsimp -implicitDefEqProofs (maxSteps := 1000000) (disch := omega) [condP_pos, condP_neg, optP_pos, decide_eq_true, decide_eq_false, wrap_i64, Int.natCast_inj, -BitVec.toNat_xor, -BitVec.toNat_and, -BitVec.toNat_or, -BitVec.toNat_not, -BitVec.toNat_ushiftRight, -BitVec.toNat_shiftLeft, -BitVec.toNat_mul, -UInt8.toNat_xor, -UInt8.toNat_and, -UInt8.toNat_or, -UInt8.toNat_shiftLeft, -UInt8.toNat_shiftRight, S48, h, hg, hbc']
          refine again (i + 1) ⟨by omega, hn2⟩ (by omega) (by simp -dsimp -implicitDefEqProofs (maxSteps := 1000000) (disch := omega) [condP_pos, condP_neg, optP_pos, decide_eq_true, decide_eq_false, wrap_i64, Int.natCast_inj, -BitVec.toNat_xor, -BitVec.toNat_and, -BitVec.toNat_or, -BitVec.toNat_not, -BitVec.toNat_ushiftRight, -BitVec.toNat_shiftLeft, -BitVec.toNat_mul, -UInt8.toNat_xor, -UInt8.toNat_and, -UInt8.toNat_or, -UInt8.toNat_shiftLeft, -UInt8.toNat_shiftRight, S48])
      · obtain rfl : i = 64 := by omega
        have k := ib_none signsL c (by rwa [List.take_of_length_le (by omega)] at hn)
        rw [k]
        simp -dsimp -implicitDefEqProofs (maxSteps := 1000000) (disch := omega) [condP_pos, condP_neg, optP_pos, decide_eq_true, decide_eq_false, wrap_i64, Int.natCast_inj, -BitVec.toNat_xor, -BitVec.toNat_and, -BitVec.toNat_or, -BitVec.toNat_not, -BitVec.toNat_ushiftRight, -BitVec.toNat_shiftLeft, -BitVec.toNat_mul, -UInt8.toNat_xor, -UInt8.toNat_and, -UInt8.toNat_or, -UInt8.toNat_shiftLeft, -UInt8.toNat_shiftRight, S48]
/-! Cut. -/
def cutG (l : List UInt8) : List UInt8 := l.takeWhile (fun b => b != 61)
theorem cut_none : ∀ l : List UInt8, (61 : UInt8) ∉ l → cutG l = l
  | [], _ => rfl
  | b :: l, h => by
    have h1 : ¬ b = 61 := fun e => h (by rw [e]; simp)
    have := cut_none l (fun e => h (by simp [e]))
    unfold cutG at *
    rw [List.takeWhile_cons, if_pos (by simp [h1]), this]
theorem cut_some : ∀ (l : List UInt8) (o : Nat), l[o]? = some 61 → (61 : UInt8) ∉ l.take o → cutG l = l.take o
  | [], o, h, _ => by simp at h
  | b :: l, 0, h, _ => by
    simp at h
    simp [cutG, h]
  | b :: l, o + 1, h, h2 => by
    have h1 : ¬ b = 61 := fun e => h2 (by rw [e]; simp)
    have := cut_some l o (by simpa using h) (fun e => h2 (by simp [e]))
    unfold cutG at *
    rw [List.takeWhile_cons, if_pos (by simp [h1]), this, List.take_succ_cons]
set_option maxHeartbeats 2000000 in
theorem run_cut (l : List UInt8) (hl : l.length ≤ 1000000) : ∃ r t, (W e3 e4).run 45 [bs l, bs [61]] [] = some (.tup [bs (cutG l), bs r, bo t], []) := by
  have c1 := run_ib (e3 := e3) (e4 := e4) l 61
  have e61 : ((61 : UInt8).toNat : Int) = 61 := rfl
  rw [e61] at c1
  have ci : (W e3 e4).run 73 [bs l, bs [61]] [] = some (i64 (Lib.indexByte l 61), []) := by
    refine run_wp (by rw [W_T]; exact rfl) ?_
    by_cases he : l = [61]
    · subst he
      have k : Lib.indexByte [61] 61 = 0 := by decide
      rw [k]
      simp -dsimp -implicitDefEqProofs (maxSteps := 1000000) (disch := omega) [condP_pos, condP_neg, optP_pos, decide_eq_true, decide_eq_false, wrap_i64, Int.natCast_inj, -BitVec.toNat_xor, -BitVec.toNat_and, -BitVec.toNat_or, -BitVec.toNat_not, -BitVec.toNat_ushiftRight, -BitVec.toNat_shiftLeft, -BitVec.toNat_mul, -UInt8.toNat_xor, -UInt8.toNat_and, -UInt8.toNat_or, -UInt8.toNat_shiftLeft, -UInt8.toNat_shiftRight]
    · have he' : ¬ ([61] : List UInt8) = l := fun e => he e.symm
      simp -dsimp -implicitDefEqProofs (maxSteps := 1000000) (disch := omega) [condP_pos, condP_neg, optP_pos, decide_eq_true, decide_eq_false, wrap_i64, Int.natCast_inj, -BitVec.toNat_xor, -BitVec.toNat_and, -BitVec.toNat_or, -BitVec.toNat_not, -BitVec.toNat_ushiftRight, -BitVec.toNat_shiftLeft, -BitVec.toNat_mul, -UInt8.toNat_xor, -UInt8.toNat_and, -UInt8.toNat_or, -UInt8.toNat_shiftLeft, -UInt8.toNat_shiftRight, he', c1]
  rcases ib_cases l 61 with ⟨h, hn⟩ | ⟨o, h1, h2, h3, h4⟩
  · refine ⟨[], false, ?_⟩
    rw [h] at ci
    rw [cut_none l hn]
    have c2 : (W e3 e4).run 59 [bs l, bs [61]] [] = some (.tup [bs l, bs [], bo false], []) := by
      refine run_wp (by rw [W_T]; exact rfl) ?_
      simp -dsimp -implicitDefEqProofs (maxSteps := 1000000) (disch := omega) [condP_pos, condP_neg, optP_pos, decide_eq_true, decide_eq_false, wrap_i64, Int.natCast_inj, -BitVec.toNat_xor, -BitVec.toNat_and, -BitVec.toNat_or, -BitVec.toNat_not, -BitVec.toNat_ushiftRight, -BitVec.toNat_shiftLeft, -BitVec.toNat_mul, -UInt8.toNat_xor, -UInt8.toNat_and, -UInt8.toNat_or, -UInt8.toNat_shiftLeft, -UInt8.toNat_shiftRight, ci]
    refine run_wp (by rw [W_T]; exact rfl) ?_
    simp -dsimp -implicitDefEqProofs (maxSteps := 1000000) (disch := omega) [condP_pos, condP_neg, optP_pos, decide_eq_true, decide_eq_false, wrap_i64, Int.natCast_inj, -BitVec.toNat_xor, -BitVec.toNat_and, -BitVec.toNat_or, -BitVec.toNat_not, -BitVec.toNat_ushiftRight, -BitVec.toNat_shiftLeft, -BitVec.toNat_mul, -UInt8.toNat_xor, -UInt8.toNat_and, -UInt8.toNat_or, -UInt8.toNat_shiftLeft, -UInt8.toNat_shiftRight, c2]
  · refine ⟨l.drop (o + 1), true, ?_⟩
    rw [h2] at ci
    rw [cut_some l o h3 h4]
    have c2 : (W e3 e4).run 59 [bs l, bs [61]] [] = some (.tup [bs (l.take o), bs (l.drop (o + 1)), bo true], []) := by
      refine run_wp (by rw [W_T]; exact rfl) ?_
      simp -dsimp -implicitDefEqProofs (maxSteps := 1000000) (disch := omega) [condP_pos, condP_neg, optP_pos, decide_eq_true, decide_eq_false, wrap_i64, Int.natCast_inj, -BitVec.toNat_xor, -BitVec.toNat_and, -BitVec.toNat_or, -BitVec.toNat_not, -BitVec.toNat_ushiftRight, -BitVec.toNat_shiftLeft, -BitVec.toNat_mul, -UInt8.toNat_xor, -UInt8.toNat_and, -UInt8.toNat_or, -UInt8.toNat_shiftLeft, -UInt8.toNat_shiftRight, ci]
    refine run_wp (by rw [W_T]; exact rfl) ?_
    simp -dsimp -implicitDefEqProofs (maxSteps := 1000000) (disch := omega) [condP_pos, condP_neg, optP_pos, decide_eq_true, decide_eq_false, wrap_i64, Int.natCast_inj, -BitVec.toNat_xor, -BitVec.toNat_and, -BitVec.toNat_or, -BitVec.toNat_not, -BitVec.toNat_ushiftRight, -BitVec.toNat_shiftLeft, -BitVec.toNat_mul, -UInt8.toNat_xor, -UInt8.toNat_and, -UInt8.toNat_or, -UInt8.toNat_shiftLeft, -UInt8.toNat_shiftRight, c2]
end Go.Vai
