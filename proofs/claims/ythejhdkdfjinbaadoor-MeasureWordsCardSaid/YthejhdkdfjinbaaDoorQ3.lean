/-
  What functions of layer 1 and of its reference compute: equations of the abstract run, and plain laws of them.
-/
import Derived.Test.YthejhdkdfjinbaaDoorQ2
set_option linter.unusedVariables false
set_option linter.unusedSimpArgs false
set_option linter.unnecessarySimpa false
set_option linter.unusedSectionVars false
namespace Go.Vai
variable {e3 e4 : Value}
/-! The law of words. -/
theorem hexD_hx : (List.range 256).all (fun n => decide (combG (hexD (n / 16)) (hexD (n % 16)) = UInt8.ofNat n)) = true := by kernel_rfl
theorem comb_hex (b : UInt8) : combG (hexD (b.toNat / 16)) (hexD (b.toNat % 16)) = b := by
  have := of_decide_eq_true (List.all_eq_true.1 hexD_hx b.toNat (List.mem_range.2 b.toNat_lt))
  rw [this]
  simp
theorem unqF_quote : ∀ l : List UInt8, unqF (l.flatMap escG) = l
  | [] => rfl
  | b :: r => by
    rw [List.flatMap_cons]
    by_cases hp : plainB b = true
    · have e : escG b = [b] := if_pos hp
      have h92 : b ≠ 92 := by
        intro h
        rw [h] at hp
        revert hp; decide
      rw [e, List.singleton_append, unqF_one _ _ (.inl h92), unqF_quote r]
    · have e : escG b = [92, hexD (b.toNat / 16), hexD (b.toNat % 16)] := if_neg hp
      rw [e]
      show unqF (92 :: hexD (b.toNat / 16) :: hexD (b.toNat % 16) :: r.flatMap escG) = b :: r
      rw [unqF_esc, comb_hex, unqF_quote r]
theorem inner_quote (l : List UInt8) : innerG (quoteG l) = l.flatMap escG := by
  unfold innerG quoteG
  have : (34 :: (l.flatMap escG ++ [34])).length - 1 = (l.flatMap escG).length + 1 := by simp
  rw [this, List.take_succ_cons, List.drop_one, List.tail_cons, List.take_left]
theorem unquote_quote (l : List UInt8) : unquoteG (quoteG l) = (l, true) := by
  unfold unquoteG
  rw [inner_quote, unqF_quote, if_pos rfl]
theorem unquote_cases (l : List UInt8) : (∃ t, unquoteG l = (t, true) ∧ quoteG t = l) ∨ (unquoteG l = ([], false) ∧ ¬ quoteG [] = l) := by
  by_cases h : quoteG (unqF (innerG l)) = l
  · exact .inl ⟨_, by unfold unquoteG; exact if_pos h, h⟩
  · refine .inr ⟨by unfold unquoteG; exact if_neg h, fun h2 => ?_⟩
    apply h
    rw [← h2, inner_quote]
    rfl
theorem hexD_ok : (List.range 16).all (fun n => decide (33 ≤ (hexD n).toNat ∧ (hexD n).toNat ≤ 126 ∧ (hexD n).toNat ≠ 34)) = true := by kernel_rfl
theorem esc_ok (b c : UInt8) (h : c ∈ escG b) : 33 ≤ c.toNat ∧ c.toNat ≤ 126 ∧ c.toNat ≠ 34 := by
  unfold escG at h
  have hb := b.toNat_lt
  split at h
  · rename_i hp
    simp at h
    subst h
    simp [plainB] at hp
    omega
  · have k1 := of_decide_eq_true (List.all_eq_true.1 hexD_ok (b.toNat / 16) (List.mem_range.2 (by omega)))
    have k2 := of_decide_eq_true (List.all_eq_true.1 hexD_ok (b.toNat % 16) (List.mem_range.2 (by omega)))
    simp only [List.mem_cons, List.not_mem_nil, or_false] at h
    rcases h with h | h | h
    · subst h; decide
    · subst h; exact k1
    · subst h; exact k2
theorem quote_get (l : List UInt8) (i : Nat) (c : UInt8) (h : (quoteG l)[i]? = some c) : 33 ≤ c.toNat ∧ c.toNat ≤ 126 ∧ (c.toNat = 34 ↔ (i = 0 ∨ i + 1 = (quoteG l).length)) := by
  have hl : (quoteG l).length = (l.flatMap escG).length + 2 := by simp [quoteG]
  have h34 : (34 : UInt8).toNat = 34 := rfl
  rw [hl]
  unfold quoteG at h
  match i with
  | 0 =>
    simp at h
    subst h
    simp
  | i + 1 =>
    rw [List.getElem?_cons_succ] at h
    by_cases hi : i < (l.flatMap escG).length
    · rw [List.getElem?_append_left hi] at h
      have hm := List.mem_of_getElem? h
      obtain ⟨b, hb, hc⟩ := List.mem_flatMap.1 hm
      have := esc_ok b c hc
      omega
    · rw [List.getElem?_append_right (by omega)] at h
      by_cases hi2 : i = (l.flatMap escG).length
      · subst hi2
        simp at h
        subst h
        simp
      · rw [List.getElem?_eq_none (by rw [List.length_singleton]; omega)] at h
        cases h
theorem quote_len (l : List UInt8) : (quoteG l).length ≤ 3 * l.length + 2 := by
  have : ∀ l : List UInt8, (l.flatMap escG).length ≤ 3 * l.length := by
    intro l
    induction l with
    | nil => simp
    | cons b r ih =>
      have := esc_len b
      rw [List.flatMap_cons, List.length_append, List.length_cons]
      omega
  have := this l
  simp only [quoteG, List.length_cons, List.length_append, List.length_nil]
  omega
theorem quote_ge (l : List UInt8) : l.length ≤ (quoteG l).length := by
  have : ∀ l : List UInt8, l.length ≤ (l.flatMap escG).length := by
    intro l
    induction l with
    | nil => simp
    | cons b r ih =>
      have h1 : 1 ≤ (escG b).length := by unfold escG; split <;> simp
      rw [List.flatMap_cons, List.length_append, List.length_cons]
      omega
  have := this l
  simp only [quoteG, List.length_cons, List.length_append, List.length_nil]
  omega
def S10 (l w : List UInt8) (i : Nat) : St := { sl := [(0, bs l), (3, bs w), (6, i64 i)], hp := [], nx := 0 }
set_option maxHeartbeats 4000000 in
theorem law_words (l : List UInt8) : (W e3 e4).run 10 [bs l] [] = some (bo true, []) := by
  refine run_wp (by rw [W_T]; exact rfl) ?_
  by_cases h1 : 5000 < l.length
  · simp -dsimp -implicitDefEqProofs (maxSteps := 1000000) (disch := omega) [condP_pos, condP_neg, optP_pos, decide_eq_true, decide_eq_false, wrap_i64, Int.natCast_inj, -BitVec.toNat_xor, -BitVec.toNat_and, -BitVec.toNat_or, -BitVec.toNat_not, -BitVec.toNat_ushiftRight, -BitVec.toNat_shiftLeft, -BitVec.toNat_mul, -UInt8.toNat_xor, -UInt8.toNat_and, -UInt8.toNat_or, -UInt8.toNat_shiftLeft, -UInt8.toNat_shiftRight, run_sane, h1]
  · have hl := quote_len l
    have c1 := run_quote (e3 := e3) (e4 := e4) l (by omega)
    have c2 := run_rquote (e3 := e3) (e4 := e4) l (by omega)
    have c3 := run_unquote (e3 := e3) (e4 := e4) (quoteG l) (by omega)
    rw [unquote_quote] at c3
    have c4 := run_unquote (e3 := e3) (e4 := e4) l (by omega)
    have hg := quote_get l
    generalize quoteG l = w at *
    simp -dsimp -implicitDefEqProofs (maxSteps := 1000000) (disch := omega) [condP_pos, condP_neg, optP_pos, decide_eq_true, decide_eq_false, wrap_i64, Int.natCast_inj, -BitVec.toNat_xor, -BitVec.toNat_and, -BitVec.toNat_or, -BitVec.toNat_not, -BitVec.toNat_ushiftRight, -BitVec.toNat_shiftLeft, -BitVec.toNat_mul, -UInt8.toNat_xor, -UInt8.toNat_and, -UInt8.toNat_or, -UInt8.toNat_shiftLeft, -UInt8.toNat_shiftRight, run_sane, h1, c1, c2, c3]
    refine wp_inv (S10 l w) (fun i => i ≤ w.length) (fun i => w.length - i) 0 (by simp) (by simp -dsimp -implicitDefEqProofs (maxSteps := 1000000) (disch := omega) [condP_pos, condP_neg, optP_pos, decide_eq_true, decide_eq_false, wrap_i64, Int.natCast_inj, -BitVec.toNat_xor, -BitVec.toNat_and, -BitVec.toNat_or, -BitVec.toNat_not, -BitVec.toNat_ushiftRight, -BitVec.toNat_shiftLeft, -BitVec.toNat_mul, -UInt8.toNat_xor, -UInt8.toNat_and, -UInt8.toNat_or, -UInt8.toNat_shiftLeft, -UInt8.toNat_shiftRight, S10]) ?_
    intro i hi
    by_cases h : i < w.length
    · obtain ⟨c, hc⟩ : ∃ c, w[i] = c := ⟨_, rfl⟩
      obtain ⟨g1, g2, g3⟩ := hg i c (by rw [List.getElem?_eq_getElem h, hc])
      have g1' : ¬ c.toNat < 33 := by omega
      have g2' : ¬ 126 < c.toNat := by omega
      by_cases k0 : i = 0
      · have k34 := eq_true (g3.2 (.inl k0))
        have k0' := eq_true k0
        simp -dsimp -implicitDefEqProofs (maxSteps := 1000000) (disch := omega) [condP_pos, condP_neg, optP_pos, decide_eq_true, decide_eq_false, wrap_i64, Int.natCast_inj, -BitVec.toNat_xor, -BitVec.toNat_and, -BitVec.toNat_or, -BitVec.toNat_not, -BitVec.toNat_ushiftRight, -BitVec.toNat_shiftLeft, -BitVec.toNat_mul, -UInt8.toNat_xor, -UInt8.toNat_and, -UInt8.toNat_or, -UInt8.toNat_shiftLeft, -UInt8.toNat_shiftRight, S10, h, hc, g1', g2', k34, k0']
        refine again (i + 1) (by omega) (by omega) (by simp -dsimp -implicitDefEqProofs (maxSteps := 1000000) (disch := omega) [condP_pos, condP_neg, optP_pos, decide_eq_true, decide_eq_false, wrap_i64, Int.natCast_inj, -BitVec.toNat_xor, -BitVec.toNat_and, -BitVec.toNat_or, -BitVec.toNat_not, -BitVec.toNat_ushiftRight, -BitVec.toNat_shiftLeft, -BitVec.toNat_mul, -UInt8.toNat_xor, -UInt8.toNat_and, -UInt8.toNat_or, -UInt8.toNat_shiftLeft, -UInt8.toNat_shiftRight, S10])
      · by_cases k1 : i + 1 = w.length
        · have k34 := eq_true (g3.2 (.inr k1))
          have k1' : ((i : Int) = w.length - 1) = True := eq_true (by omega)
          simp -dsimp -implicitDefEqProofs (maxSteps := 1000000) (disch := omega) [condP_pos, condP_neg, optP_pos, decide_eq_true, decide_eq_false, wrap_i64, Int.natCast_inj, -BitVec.toNat_xor, -BitVec.toNat_and, -BitVec.toNat_or, -BitVec.toNat_not, -BitVec.toNat_ushiftRight, -BitVec.toNat_shiftLeft, -BitVec.toNat_mul, -UInt8.toNat_xor, -UInt8.toNat_and, -UInt8.toNat_or, -UInt8.toNat_shiftLeft, -UInt8.toNat_shiftRight, S10, h, hc, g1', g2', k34, k0, k1']
          refine again (i + 1) (by omega) (by omega) (by simp -dsimp -implicitDefEqProofs (maxSteps := 1000000) (disch := omega) [condP_pos, condP_neg, optP_pos, decide_eq_true, decide_eq_false, wrap_i64, Int.natCast_inj, -BitVec.toNat_xor, -BitVec.toNat_and, -BitVec.toNat_or, -BitVec.toNat_not, -BitVec.toNat_ushiftRight, -BitVec.toNat_shiftLeft, -BitVec.toNat_mul, -UInt8.toNat_xor, -UInt8.toNat_and, -UInt8.toNat_or, -UInt8.toNat_shiftLeft, -UInt8.toNat_shiftRight, S10])
        · have k34 : ¬ c.toNat = 34 := fun e => (g3.1 e).elim k0 k1
          have k1' : ¬ (i : Int) = w.length - 1 := by omega
          simp -dsimp -implicitDefEqProofs (maxSteps := 1000000) (disch := omega) [condP_pos, condP_neg, optP_pos, decide_eq_true, decide_eq_false, wrap_i64, Int.natCast_inj, -BitVec.toNat_xor, -BitVec.toNat_and, -BitVec.toNat_or, -BitVec.toNat_not, -BitVec.toNat_ushiftRight, -BitVec.toNat_shiftLeft, -BitVec.toNat_mul, -UInt8.toNat_xor, -UInt8.toNat_and, -UInt8.toNat_or, -UInt8.toNat_shiftLeft, -UInt8.toNat_shiftRight, S10, h, hc, g1', g2', k34, k0, k1']
          refine again (i + 1) (by omega) (by omega) (by simp -dsimp -implicitDefEqProofs (maxSteps := 1000000) (disch := omega) [condP_pos, condP_neg, optP_pos, decide_eq_true, decide_eq_false, wrap_i64, Int.natCast_inj, -BitVec.toNat_xor, -BitVec.toNat_and, -BitVec.toNat_or, -BitVec.toNat_not, -BitVec.toNat_ushiftRight, -BitVec.toNat_shiftLeft, -BitVec.toNat_mul, -UInt8.toNat_xor, -UInt8.toNat_and, -UInt8.toNat_or, -UInt8.toNat_shiftLeft, -UInt8.toNat_shiftRight, S10])
    · rcases unquote_cases l with ⟨t, hp, ht⟩ | ⟨hp, hn⟩
      · rw [hp] at c4
        have hlt := quote_ge t
        rw [ht] at hlt
        have c5 := run_quote (e3 := e3) (e4 := e4) t (by omega)
        rw [ht] at c5
        have h0 : 0 < l.length := by rw [← ht]; simp [quoteG]
        simp -dsimp -implicitDefEqProofs (maxSteps := 1000000) (disch := omega) [condP_pos, condP_neg, optP_pos, decide_eq_true, decide_eq_false, wrap_i64, Int.natCast_inj, -BitVec.toNat_xor, -BitVec.toNat_and, -BitVec.toNat_or, -BitVec.toNat_not, -BitVec.toNat_ushiftRight, -BitVec.toNat_shiftLeft, -BitVec.toNat_mul, -UInt8.toNat_xor, -UInt8.toNat_and, -UInt8.toNat_or, -UInt8.toNat_shiftLeft, -UInt8.toNat_shiftRight, S10, h, c4, c5, h0]
      · rw [hp] at c4
        have c5 := run_quote (e3 := e3) (e4 := e4) [] (by simp)
        by_cases h0 : 0 < l.length
        · simp -dsimp -implicitDefEqProofs (maxSteps := 1000000) (disch := omega) [condP_pos, condP_neg, optP_pos, decide_eq_true, decide_eq_false, wrap_i64, Int.natCast_inj, -BitVec.toNat_xor, -BitVec.toNat_and, -BitVec.toNat_or, -BitVec.toNat_not, -BitVec.toNat_ushiftRight, -BitVec.toNat_shiftLeft, -BitVec.toNat_mul, -UInt8.toNat_xor, -UInt8.toNat_and, -UInt8.toNat_or, -UInt8.toNat_shiftLeft, -UInt8.toNat_shiftRight, S10, h, c4, c5, h0, hn]
        · simp -dsimp -implicitDefEqProofs (maxSteps := 1000000) (disch := omega) [condP_pos, condP_neg, optP_pos, decide_eq_true, decide_eq_false, wrap_i64, Int.natCast_inj, -BitVec.toNat_xor, -BitVec.toNat_and, -BitVec.toNat_or, -BitVec.toNat_not, -BitVec.toNat_ushiftRight, -BitVec.toNat_shiftLeft, -BitVec.toNat_mul, -UInt8.toNat_xor, -UInt8.toNat_and, -UInt8.toNat_or, -UInt8.toNat_shiftLeft, -UInt8.toNat_shiftRight, S10, h, c4, c5, h0, hn]
end Go.Vai
