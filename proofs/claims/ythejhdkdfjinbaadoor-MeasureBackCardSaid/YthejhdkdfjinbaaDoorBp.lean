/-
  What functions of layer 1 and of its reference compute: equations of the abstract run, and plain laws of them.
-/
import Derived.Test.YthejhdkdfjinbaaDoorRp
set_option linter.unusedVariables false
set_option linter.unusedSimpArgs false
set_option linter.unnecessarySimpa false
set_option linter.unusedSectionVars false
namespace Go.Vai
variable {e3 e4 : Value}
/-! Written in digits, and mixed. -/
def hex2 (b : UInt8) : List UInt8 := [hexD (b.toNat / 16), hexD (b.toNat % 16)]
def hexG (l : List UInt8) : List UInt8 := l.flatMap hex2
theorem hexG_len (l : List UInt8) : (hexG l).length = 2 * l.length := by
  induction l with
  | nil => rfl
  | cons b r ih => unfold hexG at *; rw [List.flatMap_cons, List.length_append, ih, List.length_cons]; simp [hex2]; omega
theorem hexG_take (l : List UInt8) (i : Nat) (b : UInt8) (h : l[i]? = some b) : hexG (l.take (i + 1)) = hexG (l.take i) ++ hex2 b := by
  unfold hexG
  rw [List.take_add_one, h]
  simp
def S27 (l : List UInt8) (a : Nat × List UInt8) : St := { sl := [(0, bs l), (3, .osl 0 1 0 a.2.length), (10, i64 l.length), (11, i64 a.1)], hp := [(0, some (.arr 1 (a.2.map eB)))], nx := 1 }
set_option maxHeartbeats 2000000 in
theorem run_hex (l : List UInt8) (hl : l.length ≤ 1000000) : (W e3 e4).run 27 [bs l] [] = some (bs (hexG l), []) := by
  refine run_wp (by rw [W_T]; exact rfl) ?_
  simp -dsimp -implicitDefEqProofs (maxSteps := 1000000) (disch := omega) [condP_pos, condP_neg, optP_pos, decide_eq_true, decide_eq_false, wrap_i64, Int.natCast_inj, -BitVec.toNat_xor, -BitVec.toNat_and, -BitVec.toNat_or, -BitVec.toNat_not, -BitVec.toNat_ushiftRight, -BitVec.toNat_shiftLeft, -BitVec.toNat_mul, -UInt8.toNat_xor, -UInt8.toNat_and, -UInt8.toNat_or, -UInt8.toNat_shiftLeft, -UInt8.toNat_shiftRight, show 2 * l.length ≤ 281474976710656 by omega, show (2 * (l.length : Int)) ≤ 281474976710656 by omega]
  refine wp_inv (S27 l) (fun a => a.1 ≤ l.length ∧ a.2 = hexG (l.take a.1) ∧ a.2.length = 2 * a.1) (fun a => l.length - a.1) (0, []) ⟨by simp, by simp [hexG], by simp⟩ (by simp -dsimp -implicitDefEqProofs (maxSteps := 1000000) (disch := omega) [condP_pos, condP_neg, optP_pos, decide_eq_true, decide_eq_false, wrap_i64, Int.natCast_inj, -BitVec.toNat_xor, -BitVec.toNat_and, -BitVec.toNat_or, -BitVec.toNat_not, -BitVec.toNat_ushiftRight, -BitVec.toNat_shiftLeft, -BitVec.toNat_mul, -UInt8.toNat_xor, -UInt8.toNat_and, -UInt8.toNat_or, -UInt8.toNat_shiftLeft, -UInt8.toNat_shiftRight, S27]) ?_
  rintro ⟨i, o⟩ ⟨hi, ho, hol⟩
  simp only at hi ho hol
  by_cases h : i < l.length
  · obtain ⟨b, hb⟩ : ∃ b, l[i] = b := ⟨_, rfl⟩
    have hb2 : l[i]? = some b := by rw [List.getElem?_eq_getElem h, hb]
    have hb' := b.toNat_lt
    have ap := hexG_take l i b hb2
    have x1 := hex16 (b.toNat / 16) (by omega)
    have x2 := hex16 (b.toNat % 16) (by omega)
    have s1 : (b.toNat : Int).fdiv 16 = ((b.toNat / 16 : Nat) : Int) := by
      rw [Int.fdiv_eq_ediv_of_nonneg _ (by omega)]; omega
    have a1 := and8_15 b
    have e : hex2 b = [hexD (b.toNat / 16), hexD (b.toNat % 16)] := rfl
    generalize b.toNat / 16 = q at *
    generalize b.toNat % 16 = r at *
    simp -dsimp -implicitDefEqProofs (maxSteps := 1000000) (disch := omega) [condP_pos, condP_neg, optP_pos, decide_eq_true, decide_eq_false, wrap_i64, Int.natCast_inj, -BitVec.toNat_xor, -BitVec.toNat_and, -BitVec.toNat_or, -BitVec.toNat_not, -BitVec.toNat_ushiftRight, -BitVec.toNat_shiftLeft, -BitVec.toNat_mul, -UInt8.toNat_xor, -UInt8.toNat_and, -UInt8.toNat_or, -UInt8.toNat_shiftLeft, -UInt8.toNat_shiftRight, S27, h, hb, eB_mk, s1, a1, x1, x2, show o.length + 2 ≤ 140737488355328 by omega]
    refine again (i + 1, o ++ [hexD q, hexD r]) ⟨by simp only; omega, by simp only; rw [ho, ap, e], by simp; omega⟩ (by simp only; omega) (by simp -dsimp -implicitDefEqProofs (maxSteps := 1000000) (disch := omega) [condP_pos, condP_neg, optP_pos, decide_eq_true, decide_eq_false, wrap_i64, Int.natCast_inj, -BitVec.toNat_xor, -BitVec.toNat_and, -BitVec.toNat_or, -BitVec.toNat_not, -BitVec.toNat_ushiftRight, -BitVec.toNat_shiftLeft, -BitVec.toNat_mul, -UInt8.toNat_xor, -UInt8.toNat_and, -UInt8.toNat_or, -UInt8.toNat_shiftLeft, -UInt8.toNat_shiftRight, S27])
  · have ho2 : o = hexG l := by
      rw [ho, show i = l.length by omega, List.take_length]
    rw [← ho2]
    simp -dsimp -implicitDefEqProofs (maxSteps := 1000000) (disch := omega) [condP_pos, condP_neg, optP_pos, decide_eq_true, decide_eq_false, wrap_i64, Int.natCast_inj, -BitVec.toNat_xor, -BitVec.toNat_and, -BitVec.toNat_or, -BitVec.toNat_not, -BitVec.toNat_ushiftRight, -BitVec.toNat_shiftLeft, -BitVec.toNat_mul, -UInt8.toNat_xor, -UInt8.toNat_and, -UInt8.toNat_or, -UInt8.toNat_shiftLeft, -UInt8.toNat_shiftRight, S27, h]
def mixG (ok : UInt8 → Bool) : List UInt8 → List UInt8 → List UInt8
  | s, [] => s
  | [], c :: r => if ok c = true then c :: mixG ok [] r else mixG ok [] r
  | a :: s, c :: r => if ok c = true then c :: a :: mixG ok s r else a :: mixG ok s r
def okM (hex : Bool) (c : UInt8) : Bool := if hex = true then decide (hxI c < 0) else decide (sgnI c < 0) && !decide (c.toNat = 61)
def S26 (s n : List UInt8) (hx : Bool) (a : Nat × List UInt8) : St := { sl := [(0, bs s), (1, bs n), (2, bo hx), (7, .osl 0 1 0 a.2.length), (8, i64 a.1)], hp := [(0, some (.arr 1 (a.2.map eB)))], nx := 1 }
theorem mix_both (ok : UInt8 → Bool) (s n : List UInt8) (i : Nat) (a c : UInt8) (h1 : i < s.length) (h2 : i < n.length) (ha : s[i] = a) (hc : n[i] = c) : mixG ok (s.drop i) (n.drop i) = if ok c = true then c :: a :: mixG ok (s.drop (i + 1)) (n.drop (i + 1)) else a :: mixG ok (s.drop (i + 1)) (n.drop (i + 1)) := by
  rw [List.drop_eq_getElem_cons h1, List.drop_eq_getElem_cons h2, ha, hc, mixG]
theorem mix_s (ok : UInt8 → Bool) (s n : List UInt8) (i : Nat) (a : UInt8) (h1 : i < s.length) (h2 : ¬ i < n.length) (ha : s[i] = a) : mixG ok (s.drop i) (n.drop i) = a :: mixG ok (s.drop (i + 1)) (n.drop (i + 1)) := by
  rw [List.drop_eq_getElem_cons h1, List.drop_of_length_le (l := n) (by omega), List.drop_of_length_le (l := n) (by omega), ha]
  simp [mixG]
theorem mix_n (ok : UInt8 → Bool) (s n : List UInt8) (i : Nat) (c : UInt8) (h1 : ¬ i < s.length) (h2 : i < n.length) (hc : n[i] = c) : mixG ok (s.drop i) (n.drop i) = if ok c = true then c :: mixG ok (s.drop (i + 1)) (n.drop (i + 1)) else mixG ok (s.drop (i + 1)) (n.drop (i + 1)) := by
  rw [List.drop_of_length_le (l := s) (by omega), List.drop_of_length_le (l := s) (by omega), List.drop_eq_getElem_cons h2, hc, mixG]
set_option maxHeartbeats 4000000 in
theorem run_mixed (s n : List UInt8) (hx : Bool) (hs : s.length ≤ 1000000) (hn : n.length ≤ 1000000) : (W e3 e4).run 26 [bs s, bs n, bo hx] [] = some (bs (mixG (okM hx) s n), []) := by
  refine run_wp (by rw [W_T]; exact rfl) ?_
  simp -dsimp -implicitDefEqProofs (maxSteps := 1000000) (disch := omega) [condP_pos, condP_neg, optP_pos, decide_eq_true, decide_eq_false, wrap_i64, Int.natCast_inj, -BitVec.toNat_xor, -BitVec.toNat_and, -BitVec.toNat_or, -BitVec.toNat_not, -BitVec.toNat_ushiftRight, -BitVec.toNat_shiftLeft, -BitVec.toNat_mul, -UInt8.toNat_xor, -UInt8.toNat_and, -UInt8.toNat_or, -UInt8.toNat_shiftLeft, -UInt8.toNat_shiftRight]
  refine wp_inv (S26 s n hx) (fun a => a.1 ≤ max s.length n.length ∧ a.2 ++ mixG (okM hx) (s.drop a.1) (n.drop a.1) = mixG (okM hx) s n ∧ a.2.length ≤ 2 * a.1) (fun a => max s.length n.length - a.1) (0, []) ⟨by simp, by simp, by simp⟩ (by simp -dsimp -implicitDefEqProofs (maxSteps := 1000000) (disch := omega) [condP_pos, condP_neg, optP_pos, decide_eq_true, decide_eq_false, wrap_i64, Int.natCast_inj, -BitVec.toNat_xor, -BitVec.toNat_and, -BitVec.toNat_or, -BitVec.toNat_not, -BitVec.toNat_ushiftRight, -BitVec.toNat_shiftLeft, -BitVec.toNat_mul, -UInt8.toNat_xor, -UInt8.toNat_and, -UInt8.toNat_or, -UInt8.toNat_shiftLeft, -UInt8.toNat_shiftRight, S26]) ?_
  rintro ⟨i, o⟩ ⟨hi, ho, hol⟩
  simp only at hi ho hol
  have l1 : o.length + 1 ≤ 140737488355328 := by omega
  have l2 : o.length + 1 + 1 ≤ 140737488355328 := by omega
  have t1 : ∀ X, List.take (o.length + 1) (List.map eB o ++ [X]) = List.map eB o ++ [X] := fun X => List.take_of_length_le (by simp)
  by_cases hN : i < n.length
  · obtain ⟨c, hc⟩ : ∃ c, n[i] = c := ⟨_, rfl⟩
    have c1 := run_hexvalue (e3 := e3) (e4 := e4) c
    have c2 := run_signvalue (e3 := e3) (e4 := e4) c
    have hm : (i : Int) < max (s.length : Int) n.length := by omega
    by_cases hS : i < s.length
    · obtain ⟨a, ha⟩ : ∃ a, s[i] = a := ⟨_, rfl⟩
      have st := mix_both (okM hx) s n i a c hS hN ha hc
      by_cases hok : okM hx c = true
      · rw [if_pos hok] at st
        cases hx with
        | true =>
          have h3 : hxI c < 0 := by simpa [okM] using hok
          simp -dsimp -implicitDefEqProofs (maxSteps := 1000000) (disch := omega) [condP_pos, condP_neg, optP_pos, decide_eq_true, decide_eq_false, wrap_i64, Int.natCast_inj, -BitVec.toNat_xor, -BitVec.toNat_and, -BitVec.toNat_or, -BitVec.toNat_not, -BitVec.toNat_ushiftRight, -BitVec.toNat_shiftLeft, -BitVec.toNat_mul, -UInt8.toNat_xor, -UInt8.toNat_and, -UInt8.toNat_or, -UInt8.toNat_shiftLeft, -UInt8.toNat_shiftRight, S26, hm, hN, hS, hc, ha, c1, h3, eB_mk, l1, l2, t1]
          refine again (i + 1, o ++ [c, a]) ⟨by simp only; omega, by simp only; rw [← ho, st, List.append_assoc]; rfl, by simp; omega⟩ (by simp only; omega) (by simp -dsimp -implicitDefEqProofs (maxSteps := 1000000) (disch := omega) [condP_pos, condP_neg, optP_pos, decide_eq_true, decide_eq_false, wrap_i64, Int.natCast_inj, -BitVec.toNat_xor, -BitVec.toNat_and, -BitVec.toNat_or, -BitVec.toNat_not, -BitVec.toNat_ushiftRight, -BitVec.toNat_shiftLeft, -BitVec.toNat_mul, -UInt8.toNat_xor, -UInt8.toNat_and, -UInt8.toNat_or, -UInt8.toNat_shiftLeft, -UInt8.toNat_shiftRight, S26, t1])
        | false =>
          have h3 : sgnI c < 0 ∧ ¬ c.toNat = 61 := by simpa [okM] using hok
          simp -dsimp -implicitDefEqProofs (maxSteps := 1000000) (disch := omega) [condP_pos, condP_neg, optP_pos, decide_eq_true, decide_eq_false, wrap_i64, Int.natCast_inj, -BitVec.toNat_xor, -BitVec.toNat_and, -BitVec.toNat_or, -BitVec.toNat_not, -BitVec.toNat_ushiftRight, -BitVec.toNat_shiftLeft, -BitVec.toNat_mul, -UInt8.toNat_xor, -UInt8.toNat_and, -UInt8.toNat_or, -UInt8.toNat_shiftLeft, -UInt8.toNat_shiftRight, S26, hm, hN, hS, hc, ha, c2, h3.1, h3.2, eB_mk, l1, l2, t1]
          refine again (i + 1, o ++ [c, a]) ⟨by simp only; omega, by simp only; rw [← ho, st, List.append_assoc]; rfl, by simp; omega⟩ (by simp only; omega) (by simp -dsimp -implicitDefEqProofs (maxSteps := 1000000) (disch := omega) [condP_pos, condP_neg, optP_pos, decide_eq_true, decide_eq_false, wrap_i64, Int.natCast_inj, -BitVec.toNat_xor, -BitVec.toNat_and, -BitVec.toNat_or, -BitVec.toNat_not, -BitVec.toNat_ushiftRight, -BitVec.toNat_shiftLeft, -BitVec.toNat_mul, -UInt8.toNat_xor, -UInt8.toNat_and, -UInt8.toNat_or, -UInt8.toNat_shiftLeft, -UInt8.toNat_shiftRight, S26, t1])
      · rw [if_neg hok] at st
        cases hx with
        | true =>
          have h3 : ¬ hxI c < 0 := by simpa [okM] using hok
          simp -dsimp -implicitDefEqProofs (maxSteps := 1000000) (disch := omega) [condP_pos, condP_neg, optP_pos, decide_eq_true, decide_eq_false, wrap_i64, Int.natCast_inj, -BitVec.toNat_xor, -BitVec.toNat_and, -BitVec.toNat_or, -BitVec.toNat_not, -BitVec.toNat_ushiftRight, -BitVec.toNat_shiftLeft, -BitVec.toNat_mul, -UInt8.toNat_xor, -UInt8.toNat_and, -UInt8.toNat_or, -UInt8.toNat_shiftLeft, -UInt8.toNat_shiftRight, S26, hm, hN, hS, hc, ha, c1, h3, eB_mk, l1, l2, t1]
          refine again (i + 1, o ++ [a]) ⟨by simp only; omega, by simp only; rw [← ho, st, List.append_assoc]; rfl, by simp; omega⟩ (by simp only; omega) (by simp -dsimp -implicitDefEqProofs (maxSteps := 1000000) (disch := omega) [condP_pos, condP_neg, optP_pos, decide_eq_true, decide_eq_false, wrap_i64, Int.natCast_inj, -BitVec.toNat_xor, -BitVec.toNat_and, -BitVec.toNat_or, -BitVec.toNat_not, -BitVec.toNat_ushiftRight, -BitVec.toNat_shiftLeft, -BitVec.toNat_mul, -UInt8.toNat_xor, -UInt8.toNat_and, -UInt8.toNat_or, -UInt8.toNat_shiftLeft, -UInt8.toNat_shiftRight, S26, t1])
        | false =>
          by_cases h4 : sgnI c < 0
          · have h5 : ((c.toNat : Int) = 61) = True := eq_true (by have : c.toNat = 61 := by simpa [okM, h4] using hok
                                                                   omega)
            simp -dsimp -implicitDefEqProofs (maxSteps := 1000000) (disch := omega) [condP_pos, condP_neg, optP_pos, decide_eq_true, decide_eq_false, wrap_i64, Int.natCast_inj, -BitVec.toNat_xor, -BitVec.toNat_and, -BitVec.toNat_or, -BitVec.toNat_not, -BitVec.toNat_ushiftRight, -BitVec.toNat_shiftLeft, -BitVec.toNat_mul, -UInt8.toNat_xor, -UInt8.toNat_and, -UInt8.toNat_or, -UInt8.toNat_shiftLeft, -UInt8.toNat_shiftRight, S26, hm, hN, hS, hc, ha, c2, h4, h5, eB_mk, l1, l2, t1]
            refine again (i + 1, o ++ [a]) ⟨by simp only; omega, by simp only; rw [← ho, st, List.append_assoc]; rfl, by simp; omega⟩ (by simp only; omega) (by simp -dsimp -implicitDefEqProofs (maxSteps := 1000000) (disch := omega) [condP_pos, condP_neg, optP_pos, decide_eq_true, decide_eq_false, wrap_i64, Int.natCast_inj, -BitVec.toNat_xor, -BitVec.toNat_and, -BitVec.toNat_or, -BitVec.toNat_not, -BitVec.toNat_ushiftRight, -BitVec.toNat_shiftLeft, -BitVec.toNat_mul, -UInt8.toNat_xor, -UInt8.toNat_and, -UInt8.toNat_or, -UInt8.toNat_shiftLeft, -UInt8.toNat_shiftRight, S26, t1])
          · simp -dsimp -implicitDefEqProofs (maxSteps := 1000000) (disch := omega) [condP_pos, condP_neg, optP_pos, decide_eq_true, decide_eq_false, wrap_i64, Int.natCast_inj, -BitVec.toNat_xor, -BitVec.toNat_and, -BitVec.toNat_or, -BitVec.toNat_not, -BitVec.toNat_ushiftRight, -BitVec.toNat_shiftLeft, -BitVec.toNat_mul, -UInt8.toNat_xor, -UInt8.toNat_and, -UInt8.toNat_or, -UInt8.toNat_shiftLeft, -UInt8.toNat_shiftRight, S26, hm, hN, hS, hc, ha, c2, h4, eB_mk, l1, l2, t1]
            refine again (i + 1, o ++ [a]) ⟨by simp only; omega, by simp only; rw [← ho, st, List.append_assoc]; rfl, by simp; omega⟩ (by simp only; omega) (by simp -dsimp -implicitDefEqProofs (maxSteps := 1000000) (disch := omega) [condP_pos, condP_neg, optP_pos, decide_eq_true, decide_eq_false, wrap_i64, Int.natCast_inj, -BitVec.toNat_xor, -BitVec.toNat_and, -BitVec.toNat_or, -BitVec.toNat_not, -BitVec.toNat_ushiftRight, -BitVec.toNat_shiftLeft, -BitVec.toNat_mul, -UInt8.toNat_xor, -UInt8.toNat_and, -UInt8.toNat_or, -UInt8.toNat_shiftLeft, -UInt8.toNat_shiftRight, S26, t1])
    · have st := mix_n (okM hx) s n i c hS hN hc
      by_cases hok : okM hx c = true
      · rw [if_pos hok] at st
        cases hx with
        | true =>
          have h3 : hxI c < 0 := by simpa [okM] using hok
          simp -dsimp -implicitDefEqProofs (maxSteps := 1000000) (disch := omega) [condP_pos, condP_neg, optP_pos, decide_eq_true, decide_eq_false, wrap_i64, Int.natCast_inj, -BitVec.toNat_xor, -BitVec.toNat_and, -BitVec.toNat_or, -BitVec.toNat_not, -BitVec.toNat_ushiftRight, -BitVec.toNat_shiftLeft, -BitVec.toNat_mul, -UInt8.toNat_xor, -UInt8.toNat_and, -UInt8.toNat_or, -UInt8.toNat_shiftLeft, -UInt8.toNat_shiftRight, S26, hm, hN, hS, hc, c1, h3, eB_mk, l1, l2, t1]
          refine again (i + 1, o ++ [c]) ⟨by simp only; omega, by simp only; rw [← ho, st, List.append_assoc]; rfl, by simp; omega⟩ (by simp only; omega) (by simp -dsimp -implicitDefEqProofs (maxSteps := 1000000) (disch := omega) [condP_pos, condP_neg, optP_pos, decide_eq_true, decide_eq_false, wrap_i64, Int.natCast_inj, -BitVec.toNat_xor, -BitVec.toNat_and, -BitVec.toNat_or, -BitVec.toNat_not, -BitVec.toNat_ushiftRight, -BitVec.toNat_shiftLeft, -BitVec.toNat_mul, -UInt8.toNat_xor, -UInt8.toNat_and, -UInt8.toNat_or, -UInt8.toNat_shiftLeft, -UInt8.toNat_shiftRight, S26, t1])
        | false =>
          have h3 : sgnI c < 0 ∧ ¬ c.toNat = 61 := by simpa [okM] using hok
          simp -dsimp -implicitDefEqProofs (maxSteps := 1000000) (disch := omega) [condP_pos, condP_neg, optP_pos, decide_eq_true, decide_eq_false, wrap_i64, Int.natCast_inj, -BitVec.toNat_xor, -BitVec.toNat_and, -BitVec.toNat_or, -BitVec.toNat_not, -BitVec.toNat_ushiftRight, -BitVec.toNat_shiftLeft, -BitVec.toNat_mul, -UInt8.toNat_xor, -UInt8.toNat_and, -UInt8.toNat_or, -UInt8.toNat_shiftLeft, -UInt8.toNat_shiftRight, S26, hm, hN, hS, hc, c2, h3.1, h3.2, eB_mk, l1, l2, t1]
          refine again (i + 1, o ++ [c]) ⟨by simp only; omega, by simp only; rw [← ho, st, List.append_assoc]; rfl, by simp; omega⟩ (by simp only; omega) (by simp -dsimp -implicitDefEqProofs (maxSteps := 1000000) (disch := omega) [condP_pos, condP_neg, optP_pos, decide_eq_true, decide_eq_false, wrap_i64, Int.natCast_inj, -BitVec.toNat_xor, -BitVec.toNat_and, -BitVec.toNat_or, -BitVec.toNat_not, -BitVec.toNat_ushiftRight, -BitVec.toNat_shiftLeft, -BitVec.toNat_mul, -UInt8.toNat_xor, -UInt8.toNat_and, -UInt8.toNat_or, -UInt8.toNat_shiftLeft, -UInt8.toNat_shiftRight, S26, t1])
      · rw [if_neg hok] at st
        cases hx with
        | true =>
          have h3 : ¬ hxI c < 0 := by simpa [okM] using hok
          simp -dsimp -implicitDefEqProofs (maxSteps := 1000000) (disch := omega) [condP_pos, condP_neg, optP_pos, decide_eq_true, decide_eq_false, wrap_i64, Int.natCast_inj, -BitVec.toNat_xor, -BitVec.toNat_and, -BitVec.toNat_or, -BitVec.toNat_not, -BitVec.toNat_ushiftRight, -BitVec.toNat_shiftLeft, -BitVec.toNat_mul, -UInt8.toNat_xor, -UInt8.toNat_and, -UInt8.toNat_or, -UInt8.toNat_shiftLeft, -UInt8.toNat_shiftRight, S26, hm, hN, hS, hc, c1, h3, eB_mk, l1, l2, t1]
          refine again (i + 1, o) ⟨by simp only; omega, by simp only; rw [← ho, st], by simp only; omega⟩ (by simp only; omega) (by simp -dsimp -implicitDefEqProofs (maxSteps := 1000000) (disch := omega) [condP_pos, condP_neg, optP_pos, decide_eq_true, decide_eq_false, wrap_i64, Int.natCast_inj, -BitVec.toNat_xor, -BitVec.toNat_and, -BitVec.toNat_or, -BitVec.toNat_not, -BitVec.toNat_ushiftRight, -BitVec.toNat_shiftLeft, -BitVec.toNat_mul, -UInt8.toNat_xor, -UInt8.toNat_and, -UInt8.toNat_or, -UInt8.toNat_shiftLeft, -UInt8.toNat_shiftRight, S26, t1])
        | false =>
          by_cases h4 : sgnI c < 0
          · have h5 : ((c.toNat : Int) = 61) = True := eq_true (by have : c.toNat = 61 := by simpa [okM, h4] using hok
                                                                   omega)
            simp -dsimp -implicitDefEqProofs (maxSteps := 1000000) (disch := omega) [condP_pos, condP_neg, optP_pos, decide_eq_true, decide_eq_false, wrap_i64, Int.natCast_inj, -BitVec.toNat_xor, -BitVec.toNat_and, -BitVec.toNat_or, -BitVec.toNat_not, -BitVec.toNat_ushiftRight, -BitVec.toNat_shiftLeft, -BitVec.toNat_mul, -UInt8.toNat_xor, -UInt8.toNat_and, -UInt8.toNat_or, -UInt8.toNat_shiftLeft, -UInt8.toNat_shiftRight, S26, hm, hN, hS, hc, c2, h4, h5, eB_mk, l1, l2, t1]
            refine again (i + 1, o) ⟨by simp only; omega, by simp only; rw [← ho, st], by simp only; omega⟩ (by simp only; omega) (by simp -dsimp -implicitDefEqProofs (maxSteps := 1000000) (disch := omega) [condP_pos, condP_neg, optP_pos, decide_eq_true, decide_eq_false, wrap_i64, Int.natCast_inj, -BitVec.toNat_xor, -BitVec.toNat_and, -BitVec.toNat_or, -BitVec.toNat_not, -BitVec.toNat_ushiftRight, -BitVec.toNat_shiftLeft, -BitVec.toNat_mul, -UInt8.toNat_xor, -UInt8.toNat_and, -UInt8.toNat_or, -UInt8.toNat_shiftLeft, -UInt8.toNat_shiftRight, S26, t1])
          · simp -dsimp -implicitDefEqProofs (maxSteps := 1000000) (disch := omega) [condP_pos, condP_neg, optP_pos, decide_eq_true, decide_eq_false, wrap_i64, Int.natCast_inj, -BitVec.toNat_xor, -BitVec.toNat_and, -BitVec.toNat_or, -BitVec.toNat_not, -BitVec.toNat_ushiftRight, -BitVec.toNat_shiftLeft, -BitVec.toNat_mul, -UInt8.toNat_xor, -UInt8.toNat_and, -UInt8.toNat_or, -UInt8.toNat_shiftLeft, -UInt8.toNat_shiftRight, S26, hm, hN, hS, hc, c2, h4, eB_mk, l1, l2, t1]
            refine again (i + 1, o) ⟨by simp only; omega, by simp only; rw [← ho, st], by simp only; omega⟩ (by simp only; omega) (by simp -dsimp -implicitDefEqProofs (maxSteps := 1000000) (disch := omega) [condP_pos, condP_neg, optP_pos, decide_eq_true, decide_eq_false, wrap_i64, Int.natCast_inj, -BitVec.toNat_xor, -BitVec.toNat_and, -BitVec.toNat_or, -BitVec.toNat_not, -BitVec.toNat_ushiftRight, -BitVec.toNat_shiftLeft, -BitVec.toNat_mul, -UInt8.toNat_xor, -UInt8.toNat_and, -UInt8.toNat_or, -UInt8.toNat_shiftLeft, -UInt8.toNat_shiftRight, S26, t1])
  · by_cases hS : i < s.length
    · obtain ⟨a, ha⟩ : ∃ a, s[i] = a := ⟨_, rfl⟩
      have hm : (i : Int) < max (s.length : Int) n.length := by omega
      have st := mix_s (okM hx) s n i a hS hN ha
      simp -dsimp -implicitDefEqProofs (maxSteps := 1000000) (disch := omega) [condP_pos, condP_neg, optP_pos, decide_eq_true, decide_eq_false, wrap_i64, Int.natCast_inj, -BitVec.toNat_xor, -BitVec.toNat_and, -BitVec.toNat_or, -BitVec.toNat_not, -BitVec.toNat_ushiftRight, -BitVec.toNat_shiftLeft, -BitVec.toNat_mul, -UInt8.toNat_xor, -UInt8.toNat_and, -UInt8.toNat_or, -UInt8.toNat_shiftLeft, -UInt8.toNat_shiftRight, S26, hm, hN, hS, ha, eB_mk, l1, l2, t1]
      refine again (i + 1, o ++ [a]) ⟨by simp only; omega, by simp only; rw [← ho, st, List.append_assoc]; rfl, by simp; omega⟩ (by simp only; omega) (by simp -dsimp -implicitDefEqProofs (maxSteps := 1000000) (disch := omega) [condP_pos, condP_neg, optP_pos, decide_eq_true, decide_eq_false, wrap_i64, Int.natCast_inj, -BitVec.toNat_xor, -BitVec.toNat_and, -BitVec.toNat_or, -BitVec.toNat_not, -BitVec.toNat_ushiftRight, -BitVec.toNat_shiftLeft, -BitVec.toNat_mul, -UInt8.toNat_xor, -UInt8.toNat_and, -UInt8.toNat_or, -UInt8.toNat_shiftLeft, -UInt8.toNat_shiftRight, S26, t1])
    · have hm : ¬ (i : Int) < max (s.length : Int) n.length := by omega
      have e : o = mixG (okM hx) s n := by
        rw [← ho, List.drop_of_length_le (l := s) (by omega), List.drop_of_length_le (l := n) (by omega)]
        simp [mixG]
      rw [← e]
      simp -dsimp -implicitDefEqProofs (maxSteps := 1000000) (disch := omega) [condP_pos, condP_neg, optP_pos, decide_eq_true, decide_eq_false, wrap_i64, Int.natCast_inj, -BitVec.toNat_xor, -BitVec.toNat_and, -BitVec.toNat_or, -BitVec.toNat_not, -BitVec.toNat_ushiftRight, -BitVec.toNat_shiftLeft, -BitVec.toNat_mul, -UInt8.toNat_xor, -UInt8.toNat_and, -UInt8.toNat_or, -UInt8.toNat_shiftLeft, -UInt8.toNat_shiftRight, S26, hm, hN, hS]
end Go.Vai

set_option linter.unusedVariables false
set_option linter.unusedSimpArgs false
set_option linter.unnecessarySimpa false
set_option linter.unusedSectionVars false
namespace Go.Vai
variable {e3 e4 : Value}
/-! Written in signs. -/
def sg (k : Nat) : UInt8 := signsL.getD k 0
def b64G : List UInt8 → List UInt8
  | [] => []
  | [a] => [sg (a.toNat / 4), sg (a.toNat % 4 * 16), 61, 61]
  | [a, b] => [sg (a.toNat / 4), sg (a.toNat % 4 * 16 + b.toNat / 16), sg (b.toNat % 16 * 4), 61]
  | a :: b :: c :: r => sg (a.toNat / 4) :: sg (a.toNat % 4 * 16 + b.toNat / 16) :: sg (b.toNat % 16 * 4 + c.toNat / 64) :: sg (c.toNat % 64) :: b64G r
theorem sg_get (k : Nat) (h : k < 64) : ([65, 66, 67, 68, 69, 70, 71, 72, 73, 74, 75, 76, 77, 78, 79, 80, 81, 82, 83, 84, 85, 86, 87, 88, 89, 90, 97, 98, 99, 100, 101, 102, 103, 104, 105, 106, 107, 108, 109, 110, 111, 112, 113, 114, 115, 116, 117, 118, 119, 120, 121, 122, 48, 49, 50, 51, 52, 53, 54, 55, 56, 57, 43, 47] : List UInt8)[k]? = some (sg k) := by
  have hl : k < signsL.length := h
  show signsL[k]? = some (signsL.getD k 0)
  rw [List.getD_eq_getElem?_getD, List.getElem?_eq_getElem hl]
  rfl
theorem or_256 (a b : Nat) (ha : a < 65536) (hb : b < 256) : binS .or (.int .i64 ((a : Int) * 256)) (.int .i64 (b : Int)) = some (.int .i64 ((a * 256 + b : Nat) : Int)) := by
  show (if IntKind.i64 ≠ IntKind.i64 then none else some (Value.int .i64 (IntKind.i64.wrap (((BitVec.ofInt 64 ((a : Int) * 256) ||| BitVec.ofInt 64 (b : Int)).toNat : Nat) : Int)))) = _
  have e : (BitVec.ofInt 64 ((a : Int) * 256) ||| BitVec.ofInt 64 (b : Int)).toNat = a * 256 + b := by
    have e2 : (a : Int) * 256 = ((2 ^ 8 * a : Nat) : Int) := by omega
    rw [e2, BitVec.toNat_or, ofInt_nat64 (by omega), ofInt_nat64 (by omega)]
    have := (Nat.two_pow_add_eq_or_of_lt (i := 8) (show b < 2 ^ 8 by omega) a).symm
    omega
  rw [e, if_neg (by simp), wrap_i64 (by omega) (by omega)]
theorem or_0b (d : Nat) (h : d < 256) : binS .or (.int .i64 0) (.int .i64 (d : Int)) = some (.int .i64 (d : Int)) := by
  have := or_256 0 d (by omega) h
  simpa using this
theorem and63n (y : Nat) (h : y < 16777216) : binS .and (.int .i64 (y : Int)) (.int .i64 63) = some (.int .i64 ((y % 64 : Nat) : Int)) := by
  show (if IntKind.i64 ≠ IntKind.i64 then none else some (Value.int .i64 (IntKind.i64.wrap (((BitVec.ofInt 64 (y : Int) &&& BitVec.ofInt 64 63).toNat : Nat) : Int)))) = _
  have e : (BitVec.ofInt 64 (y : Int) &&& BitVec.ofInt 64 63).toNat = y % 64 := by
    rw [BitVec.toNat_and, ofInt_nat64 (by omega)]
    show y &&& (2 ^ 6 - 1) = y % 64
    rw [Nat.and_two_pow_sub_one_eq_mod]
  rw [e, if_neg (by simp), wrap_i64 (by omega) (by omega)]
def S28 (l : List UInt8) (a : Nat × List UInt8) : St := { sl := [(0, bs l), (3, .osl 0 1 0 a.2.length), (4, i64 a.1)], hp := [(0, some (.arr 1 (a.2.map eB)))], nx := 1 }
theorem e61 : eB 61 = [FV.sc (.int .u8 61)] := rfl
set_option maxHeartbeats 8000000 in
theorem run_base64 (l : List UInt8) (hl : l.length ≤ 1000000) : (W e3 e4).run 28 [bs l] [] = some (bs (b64G l), []) := by
  refine run_wp (by rw [W_T]; exact rfl) ?_
  simp -dsimp -implicitDefEqProofs (maxSteps := 1000000) (disch := omega) [condP_pos, condP_neg, optP_pos, decide_eq_true, decide_eq_false, wrap_i64, Int.natCast_inj, -BitVec.toNat_xor, -BitVec.toNat_and, -BitVec.toNat_or, -BitVec.toNat_not, -BitVec.toNat_ushiftRight, -BitVec.toNat_shiftLeft, -BitVec.toNat_mul, -UInt8.toNat_xor, -UInt8.toNat_and, -UInt8.toNat_or, -UInt8.toNat_shiftLeft, -UInt8.toNat_shiftRight]
  refine wp_inv (S28 l) (fun a => (a.2 ++ b64G (l.drop a.1) = b64G l) ∧ a.1 ≤ l.length + 2 ∧ a.2.length ≤ 2 * a.1) (fun a => l.length + 3 - a.1) (0, []) ⟨by simp, by simp, by simp⟩ (by simp -dsimp -implicitDefEqProofs (maxSteps := 1000000) (disch := omega) [condP_pos, condP_neg, optP_pos, decide_eq_true, decide_eq_false, wrap_i64, Int.natCast_inj, -BitVec.toNat_xor, -BitVec.toNat_and, -BitVec.toNat_or, -BitVec.toNat_not, -BitVec.toNat_ushiftRight, -BitVec.toNat_shiftLeft, -BitVec.toNat_mul, -UInt8.toNat_xor, -UInt8.toNat_and, -UInt8.toNat_or, -UInt8.toNat_shiftLeft, -UInt8.toNat_shiftRight, S28]) ?_
  rintro ⟨i, o⟩ ⟨ho, hi, hol⟩
  simp only at ho hi hol
  by_cases h : i < l.length
  · obtain ⟨a, ha⟩ : ∃ a, l[i] = a := ⟨_, rfl⟩
    have hda := List.drop_eq_getElem_cons h
    rw [ha] at hda
    have ha' := a.toNat_lt
    have q1 : ∀ X, List.take (o.length + 1) (List.map eB o ++ [X]) = List.map eB o ++ [X] := fun X => List.take_of_length_le (by simp)
    have q2 : ∀ X Y, List.take (o.length + 1 + 1) (List.map eB o ++ [X, Y]) = List.map eB o ++ [X, Y] := fun X Y => List.take_of_length_le (by simp)
    have q3 : ∀ X Y Z, List.take (o.length + 1 + 1 + 1) (List.map eB o ++ [X, Y, Z]) = List.map eB o ++ [X, Y, Z] := fun X Y Z => List.take_of_length_le (by simp)
    have q4 : ∀ X Y Z V, List.take (o.length + 1 + 1 + 1 + 1) (List.map eB o ++ [X, Y, Z, V]) = List.map eB o ++ [X, Y, Z, V] := fun X Y Z V => List.take_of_length_le (by simp)
    have l1 : o.length + 1 ≤ 140737488355328 := by omega
    have l2 : o.length + 1 + 1 ≤ 140737488355328 := by omega
    have l3 : o.length + 1 + 1 + 1 ≤ 140737488355328 := by omega
    have l4 : o.length + 1 + 1 + 1 + 1 ≤ 140737488355328 := by omega
    have oa := or_0b a.toNat (by omega)
    by_cases h1 : i + 1 < l.length
    · obtain ⟨b, hb⟩ : ∃ b, l[i + 1] = b := ⟨_, rfl⟩
      have hb' := b.toNat_lt
      have hdb := List.drop_eq_getElem_cons h1
      rw [hb] at hdb
      have i1 : ((i : Int) + 1).toNat = i + 1 := by omega
      have ob := or_256 a.toNat b.toNat (by omega) (by omega)
      by_cases h2 : i + 2 < l.length
      · obtain ⟨c, hc⟩ : ∃ c, l[i + 2] = c := ⟨_, rfl⟩
        have hc' := c.toNat_lt
        have hdc := List.drop_eq_getElem_cons h2
        rw [hc] at hdc
        have i2 : ((i : Int) + 2).toNat = i + 2 := by omega
        have hn : min 3 ((l.length : Int) - i) = 3 := by omega
        have e0 : (0 : Int) = 0 := rfl
        have oc := or_256 (a.toNat * 256 + b.toNat) c.toNat (by omega) (by omega)
        have st : b64G (l.drop i) = sg (a.toNat / 4) :: sg (a.toNat % 4 * 16 + b.toNat / 16) :: sg (b.toNat % 16 * 4 + c.toNat / 64) :: sg (c.toNat % 64) :: b64G (l.drop (i + 3)) := by rw [hda, hdb, hdc]; rfl
        have u0 : ((a.toNat * 256 + b.toNat) * 256 + c.toNat) / 262144 = a.toNat / 4 := by omega
        have u1 : ((a.toNat * 256 + b.toNat) * 256 + c.toNat) / 4096 % 64 = a.toNat % 4 * 16 + b.toNat / 16 := by omega
        have u2 : ((a.toNat * 256 + b.toNat) * 256 + c.toNat) / 64 % 64 = b.toNat % 16 * 4 + c.toNat / 64 := by omega
        have u3 : ((a.toNat * 256 + b.toNat) * 256 + c.toNat) % 64 = c.toNat % 64 := by omega
        have hH : (a.toNat * 256 + b.toNat) * 256 + c.toNat < 16777216 := by omega
        have g0 := sg_get (a.toNat / 4) (by omega)
        have g1 := sg_get (a.toNat % 4 * 16 + b.toNat / 16) (by omega)
        have g2 := sg_get (b.toNat % 16 * 4 + c.toNat / 64) (by omega)
        have g3 := sg_get (c.toNat % 64) (by omega)
        have u00 : a.toNat / 4 % 64 = a.toNat / 4 := by omega
        obtain ⟨H, hH2⟩ : ∃ H, (a.toNat * 256 + b.toNat) * 256 + c.toNat = H := ⟨_, rfl⟩
        rw [hH2] at oc u0 u1 u2 u3 hH
        have f0 : (H : Int).fdiv 262144 = ((H / 262144 : Nat) : Int) := fdiv_nat H 262144
        have f1 : (H : Int).fdiv 4096 = ((H / 4096 : Nat) : Int) := fdiv_nat H 4096
        have f2 : (H : Int).fdiv 64 = ((H / 64 : Nat) : Int) := fdiv_nat H 64
        have f3 : (H : Int).fdiv 1 = (H : Int) := by rw [Int.fdiv_eq_ediv_of_nonneg _ (by omega)]; simp
        have m0 := and63n (H / 262144) (by omega)
        have m1 := and63n (H / 4096) (by omega)
        have m2 := and63n (H / 64) (by omega)
        have m3 := and63n H (by omega)
        rw [u1] at m1
        rw [u2] at m2
        rw [u3] at m3
        rw [u0, u00] at m0
        rw [u0] at f0
        obtain ⟨Y, hY⟩ : ∃ Y, a.toNat * 256 + b.toNat = Y := ⟨_, rfl⟩
        rw [hY] at ob oc
        generalize a.toNat % 4 * 16 + b.toNat / 16 = k1 at *
        generalize b.toNat % 16 * 4 + c.toNat / 64 = k2 at *
        generalize c.toNat % 64 = k3 at *
        generalize a.toNat / 4 = k0 at *
        generalize H / 4096 = y1 at *
        generalize H / 64 = y2 at *
        generalize sg k0 = s0 at *
        generalize sg k1 = s1 at *
        generalize sg k2 = s2 at *
        generalize sg k3 = s3 at *
        simp -dsimp -implicitDefEqProofs (maxSteps := 1000000) (disch := omega) [condP_pos, condP_neg, optP_pos, decide_eq_true, decide_eq_false, wrap_i64, Int.natCast_inj, -BitVec.toNat_xor, -BitVec.toNat_and, -BitVec.toNat_or, -BitVec.toNat_not, -BitVec.toNat_ushiftRight, -BitVec.toNat_shiftLeft, -BitVec.toNat_mul, -UInt8.toNat_xor, -UInt8.toNat_and, -UInt8.toNat_or, -UInt8.toNat_shiftLeft, -UInt8.toNat_shiftRight, S28, h, hn]
        rw [wp_loop]
        simp -dsimp -implicitDefEqProofs (maxSteps := 1000000) (disch := omega) [condP_pos, condP_neg, optP_pos, decide_eq_true, decide_eq_false, wrap_i64, Int.natCast_inj, -BitVec.toNat_xor, -BitVec.toNat_and, -BitVec.toNat_or, -BitVec.toNat_not, -BitVec.toNat_ushiftRight, -BitVec.toNat_shiftLeft, -BitVec.toNat_mul, -UInt8.toNat_xor, -UInt8.toNat_and, -UInt8.toNat_or, -UInt8.toNat_shiftLeft, -UInt8.toNat_shiftRight, S28, ha, hb, oa, ob, h, h1, hn, e0, f0, f1, f2, m0, m1, m2, g0, g1, g2, i1, eB_mk, l1, l2, l3, l4, q1, q2, q3, q4, hc, oc, f3, m3, g3, i2, h2]
        rw [wp_loop]
        simp -dsimp -implicitDefEqProofs (maxSteps := 1000000) (disch := omega) [condP_pos, condP_neg, optP_pos, decide_eq_true, decide_eq_false, wrap_i64, Int.natCast_inj, -BitVec.toNat_xor, -BitVec.toNat_and, -BitVec.toNat_or, -BitVec.toNat_not, -BitVec.toNat_ushiftRight, -BitVec.toNat_shiftLeft, -BitVec.toNat_mul, -UInt8.toNat_xor, -UInt8.toNat_and, -UInt8.toNat_or, -UInt8.toNat_shiftLeft, -UInt8.toNat_shiftRight, S28, ha, hb, oa, ob, h, h1, hn, e0, f0, f1, f2, m0, m1, m2, g0, g1, g2, i1, eB_mk, l1, l2, l3, l4, q1, q2, q3, q4, hc, oc, f3, m3, g3, i2, h2]
        rw [wp_loop]
        simp -dsimp -implicitDefEqProofs (maxSteps := 1000000) (disch := omega) [condP_pos, condP_neg, optP_pos, decide_eq_true, decide_eq_false, wrap_i64, Int.natCast_inj, -BitVec.toNat_xor, -BitVec.toNat_and, -BitVec.toNat_or, -BitVec.toNat_not, -BitVec.toNat_ushiftRight, -BitVec.toNat_shiftLeft, -BitVec.toNat_mul, -UInt8.toNat_xor, -UInt8.toNat_and, -UInt8.toNat_or, -UInt8.toNat_shiftLeft, -UInt8.toNat_shiftRight, S28, ha, hb, oa, ob, h, h1, hn, e0, f0, f1, f2, m0, m1, m2, g0, g1, g2, i1, eB_mk, l1, l2, l3, l4, q1, q2, q3, q4, hc, oc, f3, m3, g3, i2, h2]
        rw [wp_loop]
        simp -dsimp -implicitDefEqProofs (maxSteps := 1000000) (disch := omega) [condP_pos, condP_neg, optP_pos, decide_eq_true, decide_eq_false, wrap_i64, Int.natCast_inj, -BitVec.toNat_xor, -BitVec.toNat_and, -BitVec.toNat_or, -BitVec.toNat_not, -BitVec.toNat_ushiftRight, -BitVec.toNat_shiftLeft, -BitVec.toNat_mul, -UInt8.toNat_xor, -UInt8.toNat_and, -UInt8.toNat_or, -UInt8.toNat_shiftLeft, -UInt8.toNat_shiftRight, S28, ha, hb, oa, ob, h, h1, hn, e0, f0, f1, f2, m0, m1, m2, g0, g1, g2, i1, eB_mk, l1, l2, l3, l4, q1, q2, q3, q4, hc, oc, f3, m3, g3, i2, h2]
        rw [wp_loop]
        simp -dsimp -implicitDefEqProofs (maxSteps := 1000000) (disch := omega) [condP_pos, condP_neg, optP_pos, decide_eq_true, decide_eq_false, wrap_i64, Int.natCast_inj, -BitVec.toNat_xor, -BitVec.toNat_and, -BitVec.toNat_or, -BitVec.toNat_not, -BitVec.toNat_ushiftRight, -BitVec.toNat_shiftLeft, -BitVec.toNat_mul, -UInt8.toNat_xor, -UInt8.toNat_and, -UInt8.toNat_or, -UInt8.toNat_shiftLeft, -UInt8.toNat_shiftRight, S28, ha, hb, oa, ob, h, h1, hn, e0, f0, f1, f2, m0, m1, m2, g0, g1, g2, i1, eB_mk, l1, l2, l3, l4, q1, q2, q3, q4, hc, oc, f3, m3, g3, i2, h2]
        rw [wp_loop]
        simp -dsimp -implicitDefEqProofs (maxSteps := 1000000) (disch := omega) [condP_pos, condP_neg, optP_pos, decide_eq_true, decide_eq_false, wrap_i64, Int.natCast_inj, -BitVec.toNat_xor, -BitVec.toNat_and, -BitVec.toNat_or, -BitVec.toNat_not, -BitVec.toNat_ushiftRight, -BitVec.toNat_shiftLeft, -BitVec.toNat_mul, -UInt8.toNat_xor, -UInt8.toNat_and, -UInt8.toNat_or, -UInt8.toNat_shiftLeft, -UInt8.toNat_shiftRight, S28, ha, hb, oa, ob, h, h1, hn, e0, f0, f1, f2, m0, m1, m2, g0, g1, g2, i1, eB_mk, l1, l2, l3, l4, q1, q2, q3, q4, hc, oc, f3, m3, g3, i2, h2]
        rw [wp_loop]
        simp -dsimp -implicitDefEqProofs (maxSteps := 1000000) (disch := omega) [condP_pos, condP_neg, optP_pos, decide_eq_true, decide_eq_false, wrap_i64, Int.natCast_inj, -BitVec.toNat_xor, -BitVec.toNat_and, -BitVec.toNat_or, -BitVec.toNat_not, -BitVec.toNat_ushiftRight, -BitVec.toNat_shiftLeft, -BitVec.toNat_mul, -UInt8.toNat_xor, -UInt8.toNat_and, -UInt8.toNat_or, -UInt8.toNat_shiftLeft, -UInt8.toNat_shiftRight, S28, ha, hb, oa, ob, h, h1, hn, e0, f0, f1, f2, m0, m1, m2, g0, g1, g2, i1, eB_mk, l1, l2, l3, l4, q1, q2, q3, q4, hc, oc, f3, m3, g3, i2, h2]
        rw [wp_loop]
        simp -dsimp -implicitDefEqProofs (maxSteps := 1000000) (disch := omega) [condP_pos, condP_neg, optP_pos, decide_eq_true, decide_eq_false, wrap_i64, Int.natCast_inj, -BitVec.toNat_xor, -BitVec.toNat_and, -BitVec.toNat_or, -BitVec.toNat_not, -BitVec.toNat_ushiftRight, -BitVec.toNat_shiftLeft, -BitVec.toNat_mul, -UInt8.toNat_xor, -UInt8.toNat_and, -UInt8.toNat_or, -UInt8.toNat_shiftLeft, -UInt8.toNat_shiftRight, S28, ha, hb, oa, ob, h, h1, hn, e0, f0, f1, f2, m0, m1, m2, g0, g1, g2, i1, eB_mk, l1, l2, l3, l4, q1, q2, q3, q4, hc, oc, f3, m3, g3, i2, h2]
        rw [wp_loop]
        simp -dsimp -implicitDefEqProofs (maxSteps := 1000000) (disch := omega) [condP_pos, condP_neg, optP_pos, decide_eq_true, decide_eq_false, wrap_i64, Int.natCast_inj, -BitVec.toNat_xor, -BitVec.toNat_and, -BitVec.toNat_or, -BitVec.toNat_not, -BitVec.toNat_ushiftRight, -BitVec.toNat_shiftLeft, -BitVec.toNat_mul, -UInt8.toNat_xor, -UInt8.toNat_and, -UInt8.toNat_or, -UInt8.toNat_shiftLeft, -UInt8.toNat_shiftRight, S28, ha, hb, oa, ob, h, h1, hn, e0, f0, f1, f2, m0, m1, m2, g0, g1, g2, i1, eB_mk, l1, l2, l3, l4, q1, q2, q3, q4, hc, oc, f3, m3, g3, i2, h2]
        refine again (i + 3, o ++ [s0, s1, s2, s3]) ⟨by simp only; rw [← ho, st, List.append_assoc]; rfl, by simp only; omega, by simp; omega⟩ (by simp only; omega) (by simp -dsimp -implicitDefEqProofs (maxSteps := 1000000) (disch := omega) [condP_pos, condP_neg, optP_pos, decide_eq_true, decide_eq_false, wrap_i64, Int.natCast_inj, -BitVec.toNat_xor, -BitVec.toNat_and, -BitVec.toNat_or, -BitVec.toNat_not, -BitVec.toNat_ushiftRight, -BitVec.toNat_shiftLeft, -BitVec.toNat_mul, -UInt8.toNat_xor, -UInt8.toNat_and, -UInt8.toNat_or, -UInt8.toNat_shiftLeft, -UInt8.toNat_shiftRight, S28, q1, q2, q3, q4])
      · have hn : min 3 ((l.length : Int) - i) = 2 := by omega
        have hd2 : l.drop (i + 2) = [] := List.drop_of_length_le (by omega)
        have st : b64G (l.drop i) = [sg (a.toNat / 4), sg (a.toNat % 4 * 16 + b.toNat / 16), sg (b.toNat % 16 * 4), 61] := by rw [hda, hdb, hd2]; rfl
        have u0 : ((a.toNat * 256 + b.toNat) * 256) / 262144 = a.toNat / 4 := by omega
        have u1 : ((a.toNat * 256 + b.toNat) * 256) / 4096 % 64 = a.toNat % 4 * 16 + b.toNat / 16 := by omega
        have u2 : ((a.toNat * 256 + b.toNat) * 256) / 64 % 64 = b.toNat % 16 * 4 := by omega
        have hH : (a.toNat * 256 + b.toNat) * 256 < 16777216 := by omega
        have g0 := sg_get (a.toNat / 4) (by omega)
        have g1 := sg_get (a.toNat % 4 * 16 + b.toNat / 16) (by omega)
        have g2 := sg_get (b.toNat % 16 * 4) (by omega)
        have u00 : a.toNat / 4 % 64 = a.toNat / 4 := by omega
        have e0 : ((a.toNat * 256 + b.toNat : Nat) : Int) * 256 = (((a.toNat * 256 + b.toNat) * 256 : Nat) : Int) := by omega
        obtain ⟨H, hH2⟩ : ∃ H, (a.toNat * 256 + b.toNat) * 256 = H := ⟨_, rfl⟩
        rw [hH2] at e0 u0 u1 u2 hH
        have f0 : (H : Int).fdiv 262144 = ((H / 262144 : Nat) : Int) := fdiv_nat H 262144
        have f1 : (H : Int).fdiv 4096 = ((H / 4096 : Nat) : Int) := fdiv_nat H 4096
        have f2 : (H : Int).fdiv 64 = ((H / 64 : Nat) : Int) := fdiv_nat H 64
        have m0 := and63n (H / 262144) (by omega)
        have m1 := and63n (H / 4096) (by omega)
        have m2 := and63n (H / 64) (by omega)
        rw [u1] at m1
        rw [u2] at m2
        rw [u0, u00] at m0
        rw [u0] at f0
        obtain ⟨Y, hY⟩ : ∃ Y, a.toNat * 256 + b.toNat = Y := ⟨_, rfl⟩
        rw [hY] at ob e0
        generalize a.toNat % 4 * 16 + b.toNat / 16 = k1 at *
        generalize b.toNat % 16 * 4 = k2 at *
        generalize a.toNat / 4 = k0 at *
        generalize H / 4096 = y1 at *
        generalize H / 64 = y2 at *
        generalize sg k0 = s0 at *
        generalize sg k1 = s1 at *
        generalize sg k2 = s2 at *
        simp -dsimp -implicitDefEqProofs (maxSteps := 1000000) (disch := omega) [condP_pos, condP_neg, optP_pos, decide_eq_true, decide_eq_false, wrap_i64, Int.natCast_inj, -BitVec.toNat_xor, -BitVec.toNat_and, -BitVec.toNat_or, -BitVec.toNat_not, -BitVec.toNat_ushiftRight, -BitVec.toNat_shiftLeft, -BitVec.toNat_mul, -UInt8.toNat_xor, -UInt8.toNat_and, -UInt8.toNat_or, -UInt8.toNat_shiftLeft, -UInt8.toNat_shiftRight, S28, h, hn]
        rw [wp_loop]
        simp -dsimp -implicitDefEqProofs (maxSteps := 1000000) (disch := omega) [condP_pos, condP_neg, optP_pos, decide_eq_true, decide_eq_false, wrap_i64, Int.natCast_inj, -BitVec.toNat_xor, -BitVec.toNat_and, -BitVec.toNat_or, -BitVec.toNat_not, -BitVec.toNat_ushiftRight, -BitVec.toNat_shiftLeft, -BitVec.toNat_mul, -UInt8.toNat_xor, -UInt8.toNat_and, -UInt8.toNat_or, -UInt8.toNat_shiftLeft, -UInt8.toNat_shiftRight, S28, ha, hb, oa, ob, h, h1, hn, e0, f0, f1, f2, m0, m1, m2, g0, g1, g2, i1, eB_mk, l1, l2, l3, l4, q1, q2, q3, q4]
        rw [wp_loop]
        simp -dsimp -implicitDefEqProofs (maxSteps := 1000000) (disch := omega) [condP_pos, condP_neg, optP_pos, decide_eq_true, decide_eq_false, wrap_i64, Int.natCast_inj, -BitVec.toNat_xor, -BitVec.toNat_and, -BitVec.toNat_or, -BitVec.toNat_not, -BitVec.toNat_ushiftRight, -BitVec.toNat_shiftLeft, -BitVec.toNat_mul, -UInt8.toNat_xor, -UInt8.toNat_and, -UInt8.toNat_or, -UInt8.toNat_shiftLeft, -UInt8.toNat_shiftRight, S28, ha, hb, oa, ob, h, h1, hn, e0, f0, f1, f2, m0, m1, m2, g0, g1, g2, i1, eB_mk, l1, l2, l3, l4, q1, q2, q3, q4]
        rw [wp_loop]
        simp -dsimp -implicitDefEqProofs (maxSteps := 1000000) (disch := omega) [condP_pos, condP_neg, optP_pos, decide_eq_true, decide_eq_false, wrap_i64, Int.natCast_inj, -BitVec.toNat_xor, -BitVec.toNat_and, -BitVec.toNat_or, -BitVec.toNat_not, -BitVec.toNat_ushiftRight, -BitVec.toNat_shiftLeft, -BitVec.toNat_mul, -UInt8.toNat_xor, -UInt8.toNat_and, -UInt8.toNat_or, -UInt8.toNat_shiftLeft, -UInt8.toNat_shiftRight, S28, ha, hb, oa, ob, h, h1, hn, e0, f0, f1, f2, m0, m1, m2, g0, g1, g2, i1, eB_mk, l1, l2, l3, l4, q1, q2, q3, q4]
        rw [wp_loop]
        simp -dsimp -implicitDefEqProofs (maxSteps := 1000000) (disch := omega) [condP_pos, condP_neg, optP_pos, decide_eq_true, decide_eq_false, wrap_i64, Int.natCast_inj, -BitVec.toNat_xor, -BitVec.toNat_and, -BitVec.toNat_or, -BitVec.toNat_not, -BitVec.toNat_ushiftRight, -BitVec.toNat_shiftLeft, -BitVec.toNat_mul, -UInt8.toNat_xor, -UInt8.toNat_and, -UInt8.toNat_or, -UInt8.toNat_shiftLeft, -UInt8.toNat_shiftRight, S28, ha, hb, oa, ob, h, h1, hn, e0, f0, f1, f2, m0, m1, m2, g0, g1, g2, i1, eB_mk, l1, l2, l3, l4, q1, q2, q3, q4]
        rw [wp_loop]
        simp -dsimp -implicitDefEqProofs (maxSteps := 1000000) (disch := omega) [condP_pos, condP_neg, optP_pos, decide_eq_true, decide_eq_false, wrap_i64, Int.natCast_inj, -BitVec.toNat_xor, -BitVec.toNat_and, -BitVec.toNat_or, -BitVec.toNat_not, -BitVec.toNat_ushiftRight, -BitVec.toNat_shiftLeft, -BitVec.toNat_mul, -UInt8.toNat_xor, -UInt8.toNat_and, -UInt8.toNat_or, -UInt8.toNat_shiftLeft, -UInt8.toNat_shiftRight, S28, ha, hb, oa, ob, h, h1, hn, e0, f0, f1, f2, m0, m1, m2, g0, g1, g2, i1, eB_mk, l1, l2, l3, l4, q1, q2, q3, q4]
        rw [wp_loop]
        simp -dsimp -implicitDefEqProofs (maxSteps := 1000000) (disch := omega) [condP_pos, condP_neg, optP_pos, decide_eq_true, decide_eq_false, wrap_i64, Int.natCast_inj, -BitVec.toNat_xor, -BitVec.toNat_and, -BitVec.toNat_or, -BitVec.toNat_not, -BitVec.toNat_ushiftRight, -BitVec.toNat_shiftLeft, -BitVec.toNat_mul, -UInt8.toNat_xor, -UInt8.toNat_and, -UInt8.toNat_or, -UInt8.toNat_shiftLeft, -UInt8.toNat_shiftRight, S28, ha, hb, oa, ob, h, h1, hn, e0, f0, f1, f2, m0, m1, m2, g0, g1, g2, i1, eB_mk, l1, l2, l3, l4, q1, q2, q3, q4]
        rw [wp_loop]
        simp -dsimp -implicitDefEqProofs (maxSteps := 1000000) (disch := omega) [condP_pos, condP_neg, optP_pos, decide_eq_true, decide_eq_false, wrap_i64, Int.natCast_inj, -BitVec.toNat_xor, -BitVec.toNat_and, -BitVec.toNat_or, -BitVec.toNat_not, -BitVec.toNat_ushiftRight, -BitVec.toNat_shiftLeft, -BitVec.toNat_mul, -UInt8.toNat_xor, -UInt8.toNat_and, -UInt8.toNat_or, -UInt8.toNat_shiftLeft, -UInt8.toNat_shiftRight, S28, ha, hb, oa, ob, h, h1, hn, e0, f0, f1, f2, m0, m1, m2, g0, g1, g2, i1, eB_mk, l1, l2, l3, l4, q1, q2, q3, q4]
        rw [wp_loop]
        simp -dsimp -implicitDefEqProofs (maxSteps := 1000000) (disch := omega) [condP_pos, condP_neg, optP_pos, decide_eq_true, decide_eq_false, wrap_i64, Int.natCast_inj, -BitVec.toNat_xor, -BitVec.toNat_and, -BitVec.toNat_or, -BitVec.toNat_not, -BitVec.toNat_ushiftRight, -BitVec.toNat_shiftLeft, -BitVec.toNat_mul, -UInt8.toNat_xor, -UInt8.toNat_and, -UInt8.toNat_or, -UInt8.toNat_shiftLeft, -UInt8.toNat_shiftRight, S28, ha, hb, oa, ob, h, h1, hn, e0, f0, f1, f2, m0, m1, m2, g0, g1, g2, i1, eB_mk, l1, l2, l3, l4, q1, q2, q3, q4]
        rw [wp_loop]
        simp -dsimp -implicitDefEqProofs (maxSteps := 1000000) (disch := omega) [condP_pos, condP_neg, optP_pos, decide_eq_true, decide_eq_false, wrap_i64, Int.natCast_inj, -BitVec.toNat_xor, -BitVec.toNat_and, -BitVec.toNat_or, -BitVec.toNat_not, -BitVec.toNat_ushiftRight, -BitVec.toNat_shiftLeft, -BitVec.toNat_mul, -UInt8.toNat_xor, -UInt8.toNat_and, -UInt8.toNat_or, -UInt8.toNat_shiftLeft, -UInt8.toNat_shiftRight, S28, ha, hb, oa, ob, h, h1, hn, e0, f0, f1, f2, m0, m1, m2, g0, g1, g2, i1, eB_mk, l1, l2, l3, l4, q1, q2, q3, q4]
        refine again (i + 3, o ++ [s0, s1, s2, 61]) ⟨by simp only; rw [← ho, st, List.drop_of_length_le (by omega), List.append_assoc]; rfl, by simp only; omega, by simp; omega⟩ (by simp only; omega) (by simp -dsimp -implicitDefEqProofs (maxSteps := 1000000) (disch := omega) [condP_pos, condP_neg, optP_pos, decide_eq_true, decide_eq_false, wrap_i64, Int.natCast_inj, -BitVec.toNat_xor, -BitVec.toNat_and, -BitVec.toNat_or, -BitVec.toNat_not, -BitVec.toNat_ushiftRight, -BitVec.toNat_shiftLeft, -BitVec.toNat_mul, -UInt8.toNat_xor, -UInt8.toNat_and, -UInt8.toNat_or, -UInt8.toNat_shiftLeft, -UInt8.toNat_shiftRight, S28, q1, q2, q3, q4, e61])
    · have hn : min 3 ((l.length : Int) - i) = 1 := by omega
      have hH : a.toNat * 65536 < 16777216 := by omega
      have e0 : (a.toNat : Int) * 256 * 256 = ((a.toNat * 65536 : Nat) : Int) := by omega
      have f0 : ((a.toNat * 65536 : Nat) : Int).fdiv 262144 = ((a.toNat / 4 : Nat) : Int) := by
        rw [Int.fdiv_eq_ediv_of_nonneg _ (by omega)]; omega
      have f1 : ((a.toNat * 65536 : Nat) : Int).fdiv 4096 = ((a.toNat * 16 : Nat) : Int) := by
        rw [Int.fdiv_eq_ediv_of_nonneg _ (by omega)]; omega
      have m0 := and63n (a.toNat / 4) (by omega)
      have m1 := and63n (a.toNat * 16) (by omega)
      rw [show a.toNat / 4 % 64 = a.toNat / 4 by omega] at m0
      rw [show a.toNat * 16 % 64 = a.toNat % 4 * 16 by omega] at m1
      have g0 := sg_get (a.toNat / 4) (by omega)
      have g1 := sg_get (a.toNat % 4 * 16) (by omega)
      have hd1 : l.drop (i + 1) = [] := List.drop_of_length_le (by omega)
      have st : b64G (l.drop i) = [sg (a.toNat / 4), sg (a.toNat % 4 * 16), 61, 61] := by rw [hda, hd1]; rfl
      obtain ⟨H, hH2⟩ : ∃ H, a.toNat * 65536 = H := ⟨_, rfl⟩
      rw [hH2] at e0 f0 f1 hH
      generalize a.toNat / 4 = k0 at *
      generalize a.toNat * 16 = y1 at *
      generalize a.toNat % 4 * 16 = k1 at *
      generalize sg k0 = s0 at *
      generalize sg k1 = s1 at *
      simp -dsimp -implicitDefEqProofs (maxSteps := 1000000) (disch := omega) [condP_pos, condP_neg, optP_pos, decide_eq_true, decide_eq_false, wrap_i64, Int.natCast_inj, -BitVec.toNat_xor, -BitVec.toNat_and, -BitVec.toNat_or, -BitVec.toNat_not, -BitVec.toNat_ushiftRight, -BitVec.toNat_shiftLeft, -BitVec.toNat_mul, -UInt8.toNat_xor, -UInt8.toNat_and, -UInt8.toNat_or, -UInt8.toNat_shiftLeft, -UInt8.toNat_shiftRight, S28, h, hn]
      rw [wp_loop]
      simp -dsimp -implicitDefEqProofs (maxSteps := 1000000) (disch := omega) [condP_pos, condP_neg, optP_pos, decide_eq_true, decide_eq_false, wrap_i64, Int.natCast_inj, -BitVec.toNat_xor, -BitVec.toNat_and, -BitVec.toNat_or, -BitVec.toNat_not, -BitVec.toNat_ushiftRight, -BitVec.toNat_shiftLeft, -BitVec.toNat_mul, -UInt8.toNat_xor, -UInt8.toNat_and, -UInt8.toNat_or, -UInt8.toNat_shiftLeft, -UInt8.toNat_shiftRight, S28, ha, oa, h, h1, hn, e0, f0, f1, m0, m1, g0, g1, eB_mk, l1, l2, l3, l4, q1, q2, q3, q4]
      rw [wp_loop]
      simp -dsimp -implicitDefEqProofs (maxSteps := 1000000) (disch := omega) [condP_pos, condP_neg, optP_pos, decide_eq_true, decide_eq_false, wrap_i64, Int.natCast_inj, -BitVec.toNat_xor, -BitVec.toNat_and, -BitVec.toNat_or, -BitVec.toNat_not, -BitVec.toNat_ushiftRight, -BitVec.toNat_shiftLeft, -BitVec.toNat_mul, -UInt8.toNat_xor, -UInt8.toNat_and, -UInt8.toNat_or, -UInt8.toNat_shiftLeft, -UInt8.toNat_shiftRight, S28, ha, oa, h, h1, hn, e0, f0, f1, m0, m1, g0, g1, eB_mk, l1, l2, l3, l4, q1, q2, q3, q4]
      rw [wp_loop]
      simp -dsimp -implicitDefEqProofs (maxSteps := 1000000) (disch := omega) [condP_pos, condP_neg, optP_pos, decide_eq_true, decide_eq_false, wrap_i64, Int.natCast_inj, -BitVec.toNat_xor, -BitVec.toNat_and, -BitVec.toNat_or, -BitVec.toNat_not, -BitVec.toNat_ushiftRight, -BitVec.toNat_shiftLeft, -BitVec.toNat_mul, -UInt8.toNat_xor, -UInt8.toNat_and, -UInt8.toNat_or, -UInt8.toNat_shiftLeft, -UInt8.toNat_shiftRight, S28, ha, oa, h, h1, hn, e0, f0, f1, m0, m1, g0, g1, eB_mk, l1, l2, l3, l4, q1, q2, q3, q4]
      rw [wp_loop]
      simp -dsimp -implicitDefEqProofs (maxSteps := 1000000) (disch := omega) [condP_pos, condP_neg, optP_pos, decide_eq_true, decide_eq_false, wrap_i64, Int.natCast_inj, -BitVec.toNat_xor, -BitVec.toNat_and, -BitVec.toNat_or, -BitVec.toNat_not, -BitVec.toNat_ushiftRight, -BitVec.toNat_shiftLeft, -BitVec.toNat_mul, -UInt8.toNat_xor, -UInt8.toNat_and, -UInt8.toNat_or, -UInt8.toNat_shiftLeft, -UInt8.toNat_shiftRight, S28, ha, oa, h, h1, hn, e0, f0, f1, m0, m1, g0, g1, eB_mk, l1, l2, l3, l4, q1, q2, q3, q4]
      rw [wp_loop]
      simp -dsimp -implicitDefEqProofs (maxSteps := 1000000) (disch := omega) [condP_pos, condP_neg, optP_pos, decide_eq_true, decide_eq_false, wrap_i64, Int.natCast_inj, -BitVec.toNat_xor, -BitVec.toNat_and, -BitVec.toNat_or, -BitVec.toNat_not, -BitVec.toNat_ushiftRight, -BitVec.toNat_shiftLeft, -BitVec.toNat_mul, -UInt8.toNat_xor, -UInt8.toNat_and, -UInt8.toNat_or, -UInt8.toNat_shiftLeft, -UInt8.toNat_shiftRight, S28, ha, oa, h, h1, hn, e0, f0, f1, m0, m1, g0, g1, eB_mk, l1, l2, l3, l4, q1, q2, q3, q4]
      rw [wp_loop]
      simp -dsimp -implicitDefEqProofs (maxSteps := 1000000) (disch := omega) [condP_pos, condP_neg, optP_pos, decide_eq_true, decide_eq_false, wrap_i64, Int.natCast_inj, -BitVec.toNat_xor, -BitVec.toNat_and, -BitVec.toNat_or, -BitVec.toNat_not, -BitVec.toNat_ushiftRight, -BitVec.toNat_shiftLeft, -BitVec.toNat_mul, -UInt8.toNat_xor, -UInt8.toNat_and, -UInt8.toNat_or, -UInt8.toNat_shiftLeft, -UInt8.toNat_shiftRight, S28, ha, oa, h, h1, hn, e0, f0, f1, m0, m1, g0, g1, eB_mk, l1, l2, l3, l4, q1, q2, q3, q4]
      rw [wp_loop]
      simp -dsimp -implicitDefEqProofs (maxSteps := 1000000) (disch := omega) [condP_pos, condP_neg, optP_pos, decide_eq_true, decide_eq_false, wrap_i64, Int.natCast_inj, -BitVec.toNat_xor, -BitVec.toNat_and, -BitVec.toNat_or, -BitVec.toNat_not, -BitVec.toNat_ushiftRight, -BitVec.toNat_shiftLeft, -BitVec.toNat_mul, -UInt8.toNat_xor, -UInt8.toNat_and, -UInt8.toNat_or, -UInt8.toNat_shiftLeft, -UInt8.toNat_shiftRight, S28, ha, oa, h, h1, hn, e0, f0, f1, m0, m1, g0, g1, eB_mk, l1, l2, l3, l4, q1, q2, q3, q4]
      rw [wp_loop]
      simp -dsimp -implicitDefEqProofs (maxSteps := 1000000) (disch := omega) [condP_pos, condP_neg, optP_pos, decide_eq_true, decide_eq_false, wrap_i64, Int.natCast_inj, -BitVec.toNat_xor, -BitVec.toNat_and, -BitVec.toNat_or, -BitVec.toNat_not, -BitVec.toNat_ushiftRight, -BitVec.toNat_shiftLeft, -BitVec.toNat_mul, -UInt8.toNat_xor, -UInt8.toNat_and, -UInt8.toNat_or, -UInt8.toNat_shiftLeft, -UInt8.toNat_shiftRight, S28, ha, oa, h, h1, hn, e0, f0, f1, m0, m1, g0, g1, eB_mk, l1, l2, l3, l4, q1, q2, q3, q4]
      rw [wp_loop]
      simp -dsimp -implicitDefEqProofs (maxSteps := 1000000) (disch := omega) [condP_pos, condP_neg, optP_pos, decide_eq_true, decide_eq_false, wrap_i64, Int.natCast_inj, -BitVec.toNat_xor, -BitVec.toNat_and, -BitVec.toNat_or, -BitVec.toNat_not, -BitVec.toNat_ushiftRight, -BitVec.toNat_shiftLeft, -BitVec.toNat_mul, -UInt8.toNat_xor, -UInt8.toNat_and, -UInt8.toNat_or, -UInt8.toNat_shiftLeft, -UInt8.toNat_shiftRight, S28, ha, oa, h, h1, hn, e0, f0, f1, m0, m1, g0, g1, eB_mk, l1, l2, l3, l4, q1, q2, q3, q4]
      refine again (i + 3, o ++ [s0, s1, 61, 61]) ⟨by simp only; rw [← ho, st, List.drop_of_length_le (by omega), List.append_assoc]; rfl, by simp only; omega, by simp; omega⟩ (by simp only; omega) (by simp -dsimp -implicitDefEqProofs (maxSteps := 1000000) (disch := omega) [condP_pos, condP_neg, optP_pos, decide_eq_true, decide_eq_false, wrap_i64, Int.natCast_inj, -BitVec.toNat_xor, -BitVec.toNat_and, -BitVec.toNat_or, -BitVec.toNat_not, -BitVec.toNat_ushiftRight, -BitVec.toNat_shiftLeft, -BitVec.toNat_mul, -UInt8.toNat_xor, -UInt8.toNat_and, -UInt8.toNat_or, -UInt8.toNat_shiftLeft, -UInt8.toNat_shiftRight, S28, q1, q2, q3, q4, e61])
  · have e : o = b64G l := by
      rw [← ho, List.drop_of_length_le (by omega)]
      simp [b64G]
    rw [← e]
    simp -dsimp -implicitDefEqProofs (maxSteps := 1000000) (disch := omega) [condP_pos, condP_neg, optP_pos, decide_eq_true, decide_eq_false, wrap_i64, Int.natCast_inj, -BitVec.toNat_xor, -BitVec.toNat_and, -BitVec.toNat_or, -BitVec.toNat_not, -BitVec.toNat_ushiftRight, -BitVec.toNat_shiftLeft, -BitVec.toNat_mul, -UInt8.toNat_xor, -UInt8.toNat_and, -UInt8.toNat_or, -UInt8.toNat_shiftLeft, -UInt8.toNat_shiftRight, S28, h]
end Go.Vai
