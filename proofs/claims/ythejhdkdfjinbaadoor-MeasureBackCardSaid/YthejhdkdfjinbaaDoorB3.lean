/-
  What functions of layer 1 and of its reference compute: equations of the abstract run, and plain laws of them.
-/
import Derived.Test.YthejhdkdfjinbaaDoorBp
set_option linter.unusedVariables false
set_option linter.unusedSimpArgs false
set_option linter.unnecessarySimpa false
set_option linter.unusedSectionVars false
namespace Go.Vai
variable {e3 e4 : Value}
/-! The law of reading back. -/
def kH (c : UInt8) : Bool := !decide (hxI c < 0)
def kS (c : UInt8) : Bool := !decide (sgnI c < 0)
theorem hexF_filter : ∀ (l : List UInt8) (hi : Option Nat), hexF hi (l.filter kH) = hexF hi l
  | [], _ => rfl
  | c :: r, hi => by
    by_cases h : hxI c < 0
    · rw [List.filter_cons_of_neg (by simp [kH, h]), hexF_filter r hi]
      cases hi <;> rw [hexF, if_pos h]
    · rw [List.filter_cons_of_pos (by simp [kH, h])]
      cases hi with
      | none => rw [hexF, hexF, if_neg h, if_neg h, hexF_filter r]
      | some a => rw [hexF, hexF, if_neg h, if_neg h, hexF_filter r]
theorem b64F_filter : ∀ (l : List UInt8) (x n : Nat), b64F x n (l.filter kS) = b64F x n l
  | [], _, _ => rfl
  | c :: r, x, n => by
    by_cases h : sgnI c < 0
    · rw [List.filter_cons_of_neg (by simp [kS, h]), b64F_filter r x n, b64F, if_pos h]
    · rw [List.filter_cons_of_pos (by simp [kS, h]), b64F, b64F, if_neg h, if_neg h, b64F_filter r, b64F_filter r]
theorem mix_filter (ok k : UInt8 → Bool) (hk : ∀ c, ok c = true → k c = false) : ∀ (n s : List UInt8), (mixG ok s n).filter k = s.filter k
  | [], s => by cases s <;> simp [mixG]
  | c :: r, [] => by
    rw [mixG]
    have ih := mix_filter ok k hk r []
    split
    · rename_i h
      rw [List.filter_cons_of_neg (by simp [hk c h]), ih]
    · exact ih
  | c :: r, a :: s => by
    rw [mixG]
    have ih := mix_filter ok k hk r s
    split
    · rename_i h
      rw [List.filter_cons_of_neg (by simp [hk c h]), List.filter_cons, List.filter_cons, ih]
    · rw [List.filter_cons, List.filter_cons, ih]
theorem hx_hex (k : Nat) (h : k < 16) : hxI (hexD k) = k := by
  match k, h with
  | 0, _ | 1, _ | 2, _ | 3, _ | 4, _ | 5, _ | 6, _ | 7, _ | 8, _ | 9, _ | 10, _ | 11, _ | 12, _ | 13, _ | 14, _ | 15, _ => decide
  | n + 16, h => omega
theorem hexG_filter (l : List UInt8) : (hexG l).filter kH = hexG l := by
  rw [List.filter_eq_self]
  intro c hc
  obtain ⟨b, hb, hm⟩ := List.mem_flatMap.1 hc
  have hb' := b.toNat_lt
  simp only [hex2, List.mem_cons, List.not_mem_nil, or_false] at hm
  rcases hm with rfl | rfl
  · have := hx_hex (b.toNat / 16) (by omega); simp [kH, this]; omega
  · have := hx_hex (b.toNat % 16) (by omega); simp [kH, this]; omega
theorem hexF_hexG : ∀ l : List UInt8, hexF none (hexG l) = l
  | [] => rfl
  | b :: r => by
    have hb' := b.toNat_lt
    have e : hexG (b :: r) = hexD (b.toNat / 16) :: hexD (b.toNat % 16) :: hexG r := rfl
    have h1 := hx_hex (b.toNat / 16) (by omega)
    have h2 := hx_hex (b.toNat % 16) (by omega)
    rw [e, hexF, if_neg (by omega), hexF, if_neg (by omega), hexF_hexG r, h1, h2, Int.toNat_natCast, Int.toNat_natCast, show b.toNat / 16 * 16 + b.toNat % 16 = b.toNat by omega]
    simp
theorem unhex_back (l n : List UInt8) : hexF none (mixG (okM true) (hexG l) n) = l := by
  rw [← hexF_filter, mix_filter (okM true) kH (by intro c h; simp [okM] at h; simp [kH]; exact h), hexF_filter, hexF_hexG]
theorem mix_len (ok : UInt8 → Bool) : ∀ (n s : List UInt8), (mixG ok s n).length ≤ s.length + n.length
  | [], s => by cases s <;> simp [mixG]
  | c :: r, [] => by
    rw [mixG]
    have ih := mix_len ok r []
    split <;> simp at * <;> omega
  | c :: r, a :: s => by
    rw [mixG]
    have ih := mix_len ok r s
    split <;> simp at * <;> omega
theorem cut_cons (c : UInt8) (r : List UInt8) (h : c ≠ 61) : cutG (c :: r) = c :: cutG r := by
  unfold cutG; rw [List.takeWhile_cons, if_pos (by simp [h])]
theorem cut_61 (r : List UInt8) : cutG (61 :: r) = [] := by
  unfold cutG; rw [List.takeWhile_cons, if_neg (by simp)]
theorem cut_mix : ∀ (n s : List UInt8), (cutG (mixG (okM false) s n)).filter kS = (cutG s).filter kS := by
  have ok : ∀ c, okM false c = true → c ≠ 61 ∧ kS c = false := by
    intro c h
    simp [okM] at h
    exact ⟨fun e => h.2 (by rw [e]; rfl), by simp [kS]; exact h.1⟩
  intro n
  induction n with
  | nil => intro s; cases s <;> simp [mixG]
  | cons c r ih =>
    intro s
    cases s with
    | nil =>
      rw [mixG]
      split
      · rename_i h
        rw [cut_cons _ _ (ok c h).1, List.filter_cons_of_neg (by simp [(ok c h).2]), ih []]
      · exact ih []
    | cons a s =>
      rw [mixG]
      have key : (cutG (a :: mixG (okM false) s r)).filter kS = (cutG (a :: s)).filter kS := by
        by_cases h61 : a = 61
        · rw [h61, cut_61, cut_61]
        · rw [cut_cons _ _ h61, cut_cons _ _ h61, List.filter_cons, List.filter_cons, ih s]
      split
      · rename_i h
        rw [cut_cons _ _ (ok c h).1, List.filter_cons_of_neg (by simp [(ok c h).2]), key]
      · exact key
theorem sgn_all : (List.range 64).all (fun k => decide (sgnI (sg k) = k ∧ sg k ≠ 61)) = true := by kernel_rfl
theorem sgn_sg (k : Nat) (h : k < 64) : sgnI (sg k) = k ∧ sg k ≠ 61 := of_decide_eq_true (List.all_eq_true.1 sgn_all k (List.mem_range.2 h))
theorem b64F_sg (x n k : Nat) (r : List UInt8) (h : k < 64) (hn : n ≠ 3) : b64F x n (sg k :: r) = b64F (x * 64 + k) (n + 1) r := by
  have := (sgn_sg k h).1
  rw [b64F, if_neg (by omega), if_neg hn, this]
  rfl
theorem b64F_sg3 (x k : Nat) (r : List UInt8) (h : k < 64) : b64F x 3 (sg k :: r) = UInt8.ofNat ((x * 64 + k) / 65536) :: UInt8.ofNat ((x * 64 + k) / 256) :: UInt8.ofNat (x * 64 + k) :: b64F 0 0 r := by
  have := (sgn_sg k h).1
  rw [b64F, if_neg (by omega), if_pos rfl, this]
  rfl
theorem ofNat_eq (n : Nat) (a : UInt8) (h : n % 256 = a.toNat) : UInt8.ofNat n = a := by
  apply UInt8.toNat_inj.1
  simp
  exact h
theorem b64_back : ∀ l : List UInt8, b64F 0 0 (cutG (b64G l)) = l
  | [] => rfl
  | [a] => by
    have ha := a.toNat_lt
    have h0 := sgn_sg (a.toNat / 4) (by omega)
    have h1 := sgn_sg (a.toNat % 4 * 16) (by omega)
    rw [b64G, cut_cons _ _ h0.2, cut_cons _ _ h1.2, cut_61, b64F_sg _ _ _ _ (by omega) (by decide), b64F_sg _ _ _ _ (by omega) (by decide)]
    show [_] = [_]
    rw [ofNat_eq _ a (by omega)]
  | [a, b] => by
    have ha := a.toNat_lt
    have hb := b.toNat_lt
    have h0 := sgn_sg (a.toNat / 4) (by omega)
    have h1 := sgn_sg (a.toNat % 4 * 16 + b.toNat / 16) (by omega)
    have h2 := sgn_sg (b.toNat % 16 * 4) (by omega)
    rw [b64G, cut_cons _ _ h0.2, cut_cons _ _ h1.2, cut_cons _ _ h2.2, cut_61, b64F_sg _ _ _ _ (by omega) (by decide), b64F_sg _ _ _ _ (by omega) (by decide), b64F_sg _ _ _ _ (by omega) (by decide)]
    show [_, _] = [_, _]
    rw [ofNat_eq _ a (by omega), ofNat_eq _ b (by omega)]
  | a :: b :: c :: r => by
    have ha := a.toNat_lt
    have hb := b.toNat_lt
    have hc := c.toNat_lt
    have h0 := sgn_sg (a.toNat / 4) (by omega)
    have h1 := sgn_sg (a.toNat % 4 * 16 + b.toNat / 16) (by omega)
    have h2 := sgn_sg (b.toNat % 16 * 4 + c.toNat / 64) (by omega)
    have h3 := sgn_sg (c.toNat % 64) (by omega)
    rw [b64G, cut_cons _ _ h0.2, cut_cons _ _ h1.2, cut_cons _ _ h2.2, cut_cons _ _ h3.2, b64F_sg _ _ _ _ (by omega) (by decide), b64F_sg _ _ _ _ (by omega) (by decide), b64F_sg _ _ _ _ (by omega) (by decide), b64F_sg3 _ _ _ (by omega), b64_back r]
    rw [ofNat_eq _ a (by omega), ofNat_eq _ b (by omega), ofNat_eq _ c (by omega)]
theorem unb64_back (l n : List UInt8) : b64F 0 0 (cutG (mixG (okM false) (b64G l) n)) = l := by
  rw [← b64F_filter, cut_mix, b64F_filter, b64_back]
theorem b64G_len : ∀ l : List UInt8, (b64G l).length = (l.length + 2) / 3 * 4
  | [] => by simp [b64G]
  | [a] => by simp [b64G]
  | [a, b] => by simp [b64G]
  | a :: b :: c :: r => by
    have := b64G_len r
    simp only [b64G, List.length_cons, this]
    omega
set_option maxHeartbeats 4000000 in
theorem law_back (l n : List UInt8) : (W e3 e4).run 9 [bs l, bs n] [] = some (bo true, []) := by
  refine run_wp (by rw [W_T]; exact rfl) ?_
  by_cases h1 : 5000 < l.length
  · simp -dsimp -implicitDefEqProofs (maxSteps := 1000000) (disch := omega) [condP_pos, condP_neg, optP_pos, decide_eq_true, decide_eq_false, wrap_i64, Int.natCast_inj, -BitVec.toNat_xor, -BitVec.toNat_and, -BitVec.toNat_or, -BitVec.toNat_not, -BitVec.toNat_ushiftRight, -BitVec.toNat_shiftLeft, -BitVec.toNat_mul, -UInt8.toNat_xor, -UInt8.toNat_and, -UInt8.toNat_or, -UInt8.toNat_shiftLeft, -UInt8.toNat_shiftRight, run_sane, h1]
  · by_cases h2 : 5000 < n.length
    · simp -dsimp -implicitDefEqProofs (maxSteps := 1000000) (disch := omega) [condP_pos, condP_neg, optP_pos, decide_eq_true, decide_eq_false, wrap_i64, Int.natCast_inj, -BitVec.toNat_xor, -BitVec.toNat_and, -BitVec.toNat_or, -BitVec.toNat_not, -BitVec.toNat_ushiftRight, -BitVec.toNat_shiftLeft, -BitVec.toNat_mul, -UInt8.toNat_xor, -UInt8.toNat_and, -UInt8.toNat_or, -UInt8.toNat_shiftLeft, -UInt8.toNat_shiftRight, run_sane, h1, h2]
    · have lh := hexG_len l
      have lb := b64G_len l
      have c1 := run_hex (e3 := e3) (e4 := e4) l (by omega)
      have c2 := run_base64 (e3 := e3) (e4 := e4) l (by omega)
      have c3 := run_mixed (e3 := e3) (e4 := e4) (hexG l) n true (by omega) (by omega)
      have c4 := run_mixed (e3 := e3) (e4 := e4) (b64G l) n false (by omega) (by omega)
      have m1 := mix_len (okM true) n (hexG l)
      have m2 := mix_len (okM false) n (b64G l)
      have b1 := unhex_back l n
      have b2 := unb64_back l n
      generalize mixG (okM true) (hexG l) n = x at *
      generalize mixG (okM false) (b64G l) n = y at *
      have c5 := run_unhex (e3 := e3) (e4 := e4) x 1073741824 (by omega) (by decide)
      have c6 := run_unb64 (e3 := e3) (e4 := e4) y 1073741824 (by omega) (by decide)
      have s1 : spendG 1073741824 x.length = ((1073741824 : Int) - x.length, true) := by
        unfold spendG
        rw [if_neg (by omega), Prod.mk.injEq]
        exact ⟨by omega, rfl⟩
      have s2 : spendG 1073741824 y.length = ((1073741824 : Int) - y.length, true) := by
        unfold spendG
        rw [if_neg (by omega), Prod.mk.injEq]
        exact ⟨by omega, rfl⟩
      unfold unhexG at c5
      unfold unb64G at c6
      rw [s1, if_pos rfl, b1] at c5
      rw [s2, if_pos rfl, b2] at c6
      have r1 : ¬ (1073741824 : Int) - x.length ≤ 0 := by omega
      have r2 : ¬ (1073741824 : Int) - y.length ≤ 0 := by omega
      have q1 : ((hexG l).length : Int) = 2 * l.length := by omega
      have q2 : ((b64G l).length : Int) = ((l.length : Int) + 2).tdiv 3 * 4 := by
        rw [Int.tdiv_eq_ediv_of_nonneg (by omega)]; omega
      have q3 : 0 ≤ ((l.length : Int) + 2).tdiv 3 ∧ ((l.length : Int) + 2).tdiv 3 ≤ 5000 := by
        rw [Int.tdiv_eq_ediv_of_nonneg (by omega)]; omega
      simp -dsimp -implicitDefEqProofs (maxSteps := 1000000) (disch := omega) [condP_pos, condP_neg, optP_pos, decide_eq_true, decide_eq_false, wrap_i64, Int.natCast_inj, -BitVec.toNat_xor, -BitVec.toNat_and, -BitVec.toNat_or, -BitVec.toNat_not, -BitVec.toNat_ushiftRight, -BitVec.toNat_shiftLeft, -BitVec.toNat_mul, -UInt8.toNat_xor, -UInt8.toNat_and, -UInt8.toNat_or, -UInt8.toNat_shiftLeft, -UInt8.toNat_shiftRight, run_sane, h1, h2, c1, c2, c3, c4, c5, c6, r1, r2, q1, q2]
end Go.Vai
