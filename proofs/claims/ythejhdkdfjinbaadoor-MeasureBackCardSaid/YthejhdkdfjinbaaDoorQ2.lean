/-
  What functions of layer 1 and of its reference compute: equations of the abstract run, and plain laws of them.
-/
import Derived.Test.YthejhdkdfjinbaaDoorQ1
set_option linter.unusedVariables false
set_option linter.unusedSimpArgs false
set_option linter.unnecessarySimpa false
set_option linter.unusedSectionVars false
namespace Go.Vai
variable {e3 e4 : Value}
/-! Words: the reference's, and reading. -/
def S31 (l : List UInt8) (a : Nat × List UInt8) : St := { sl := [(0, bs l), (3, .osl 0 1 0 a.2.length), (4, i64 a.1)], hp := [(0, some (.arr 1 (a.2.map eB)))], nx := 1 }
set_option maxHeartbeats 2000000 in
theorem run_rquote (l : List UInt8) (hl : l.length ≤ 1000000) : (W e3 e4).run 31 [bs l] [] = some (bs (quoteG l), []) := by
  refine run_wp (by rw [W_T]; exact rfl) ?_
  simp -dsimp -implicitDefEqProofs (maxSteps := 1000000) (disch := omega) [condP_pos, condP_neg, optP_pos, decide_eq_true, decide_eq_false, wrap_i64, Int.natCast_inj, -BitVec.toNat_xor, -BitVec.toNat_and, -BitVec.toNat_or, -BitVec.toNat_not, -BitVec.toNat_ushiftRight, -BitVec.toNat_shiftLeft, -BitVec.toNat_mul, -UInt8.toNat_xor, -UInt8.toNat_and, -UInt8.toNat_or, -UInt8.toNat_shiftLeft, -UInt8.toNat_shiftRight]
  refine wp_inv (S31 l) (fun a => a.1 ≤ l.length ∧ a.2 = 34 :: (l.take a.1).flatMap escG ∧ a.2.length ≤ 1 + 3 * a.1) (fun a => l.length - a.1) (0, [34]) ⟨by simp, by simp, by simp⟩ (by simp -dsimp -implicitDefEqProofs (maxSteps := 1000000) (disch := omega) [condP_pos, condP_neg, optP_pos, decide_eq_true, decide_eq_false, wrap_i64, Int.natCast_inj, -BitVec.toNat_xor, -BitVec.toNat_and, -BitVec.toNat_or, -BitVec.toNat_not, -BitVec.toNat_ushiftRight, -BitVec.toNat_shiftLeft, -BitVec.toNat_mul, -UInt8.toNat_xor, -UInt8.toNat_and, -UInt8.toNat_or, -UInt8.toNat_shiftLeft, -UInt8.toNat_shiftRight, S31, eB]) ?_
  rintro ⟨i, o⟩ ⟨hi, ho, hol⟩
  simp only at hi ho hol
  by_cases h : i < l.length
  · obtain ⟨b, hb⟩ : ∃ b, l[i] = b := ⟨_, rfl⟩
    have hb2 : l[i]? = some b := by rw [List.getElem?_eq_getElem h, hb]
    have hb' := b.toNat_lt
    have ap := esc_app l i b hb2
    have cp := run_plain (e3 := e3) (e4 := e4) b
    by_cases hp : plainB b = true
    · have e : escG b = [b] := if_pos hp
      rw [hp] at cp
      simp -dsimp -implicitDefEqProofs (maxSteps := 1000000) (disch := omega) [condP_pos, condP_neg, optP_pos, decide_eq_true, decide_eq_false, wrap_i64, Int.natCast_inj, -BitVec.toNat_xor, -BitVec.toNat_and, -BitVec.toNat_or, -BitVec.toNat_not, -BitVec.toNat_ushiftRight, -BitVec.toNat_shiftLeft, -BitVec.toNat_mul, -UInt8.toNat_xor, -UInt8.toNat_and, -UInt8.toNat_or, -UInt8.toNat_shiftLeft, -UInt8.toNat_shiftRight, S31, h, hb, cp, eB_mk, show o.length + 1 ≤ 140737488355328 by omega]
      refine again (i + 1, o ++ [b]) ⟨by simp only; omega, by simp only; rw [ho, ap, e]; rfl, by simp; omega⟩ (by simp only; omega) (by simp -dsimp -implicitDefEqProofs (maxSteps := 1000000) (disch := omega) [condP_pos, condP_neg, optP_pos, decide_eq_true, decide_eq_false, wrap_i64, Int.natCast_inj, -BitVec.toNat_xor, -BitVec.toNat_and, -BitVec.toNat_or, -BitVec.toNat_not, -BitVec.toNat_ushiftRight, -BitVec.toNat_shiftLeft, -BitVec.toNat_mul, -UInt8.toNat_xor, -UInt8.toNat_and, -UInt8.toNat_or, -UInt8.toNat_shiftLeft, -UInt8.toNat_shiftRight, S31])
    · have e : escG b = [92, hexD (b.toNat / 16), hexD (b.toNat % 16)] := if_neg hp
      have hp' : plainB b = false := by simpa using hp
      rw [hp'] at cp
      have c1 := run_digit (e3 := e3) (e4 := e4) (b.toNat / 16) (by omega)
      have c2 := run_digit (e3 := e3) (e4 := e4) (b.toNat % 16) (by omega)
      have s1 : (b.toNat : Int).tdiv 16 = ((b.toNat / 16 : Nat) : Int) := by
        rw [Int.tdiv_eq_ediv_of_nonneg (by omega)]; omega
      have s2 : (b.toNat : Int).tmod 16 = ((b.toNat % 16 : Nat) : Int) := by
        rw [Int.tmod_eq_emod_of_nonneg (by omega)]; omega
      have q16 : b.toNat / 16 < 16 := by omega
      have r16 : b.toNat % 16 < 16 := by omega
      generalize b.toNat / 16 = q at *
      generalize b.toNat % 16 = r at *
      have t1 : ∀ X, List.take (o.length + 1) (List.map eB o ++ [X]) = List.map eB o ++ [X] := fun X => List.take_of_length_le (by simp)
      have t2 : ∀ X Y, List.take (o.length + 1 + 1) (List.map eB o ++ [X, Y]) = List.map eB o ++ [X, Y] := fun X Y => List.take_of_length_le (by simp)
      simp -dsimp -implicitDefEqProofs (maxSteps := 1000000) (disch := omega) [condP_pos, condP_neg, optP_pos, decide_eq_true, decide_eq_false, wrap_i64, Int.natCast_inj, -BitVec.toNat_xor, -BitVec.toNat_and, -BitVec.toNat_or, -BitVec.toNat_not, -BitVec.toNat_ushiftRight, -BitVec.toNat_shiftLeft, -BitVec.toNat_mul, -UInt8.toNat_xor, -UInt8.toNat_and, -UInt8.toNat_or, -UInt8.toNat_shiftLeft, -UInt8.toNat_shiftRight, S31, h, hb, cp, eB_mk, s1, s2, c1, c2, show o.length + 3 ≤ 140737488355328 by omega]
      refine again (i + 1, o ++ [92, hexD q, hexD r]) ⟨by simp only; omega, by simp only; rw [ho, ap, e]; rfl, by simp; omega⟩ (by simp only; omega) (by simp -dsimp -implicitDefEqProofs (maxSteps := 1000000) (disch := omega) [condP_pos, condP_neg, optP_pos, decide_eq_true, decide_eq_false, wrap_i64, Int.natCast_inj, -BitVec.toNat_xor, -BitVec.toNat_and, -BitVec.toNat_or, -BitVec.toNat_not, -BitVec.toNat_ushiftRight, -BitVec.toNat_shiftLeft, -BitVec.toNat_mul, -UInt8.toNat_xor, -UInt8.toNat_and, -UInt8.toNat_or, -UInt8.toNat_shiftLeft, -UInt8.toNat_shiftRight, S31, e92, t1, t2])
  · have ho2 : o ++ [34] = quoteG l := by
      rw [ho, show i = l.length by omega, List.take_length]; rfl
    rw [← ho2]
    have tk : bytesOf' (List.take (o.length + 1) (List.map eB o ++ [[FV.sc (.int .u8 34)]])) = some (o ++ [34]) := by
      have e : List.map eB o ++ [[FV.sc (.int .u8 34)]] = (o ++ [34]).map eB := by rw [← e34]; simp
      rw [e, List.take_of_length_le (by simp), bytesOf_map]
    simp -dsimp -implicitDefEqProofs (maxSteps := 1000000) (disch := omega) [condP_pos, condP_neg, optP_pos, decide_eq_true, decide_eq_false, wrap_i64, Int.natCast_inj, -BitVec.toNat_xor, -BitVec.toNat_and, -BitVec.toNat_or, -BitVec.toNat_not, -BitVec.toNat_ushiftRight, -BitVec.toNat_shiftLeft, -BitVec.toNat_mul, -UInt8.toNat_xor, -UInt8.toNat_and, -UInt8.toNat_or, -UInt8.toNat_shiftLeft, -UInt8.toNat_shiftRight, S31, h, show o.length + 1 ≤ 140737488355328 by omega, tk]
/-! Reading. -/
def combG (a b : UInt8) : UInt8 := UInt8.ofNat ((max 0 (hxI a)).toNat * 16 + (max 0 (hxI b)).toNat)
def unqF : List UInt8 → List UInt8
  | [] => []
  | c :: r => match r with
    | a :: b :: r2 => if c = 92 then combG a b :: unqF r2 else c :: unqF (a :: b :: r2)
    | r => c :: unqF r
theorem unqF_esc (a b : UInt8) (r : List UInt8) : unqF (92 :: a :: b :: r) = combG a b :: unqF r := by
  rw [unqF]; simp
theorem unqF_one (c : UInt8) (r : List UInt8) (h : c ≠ 92 ∨ r.length < 2) : unqF (c :: r) = c :: unqF r := by
  match r with
  | [] => simp [unqF]
  | [a] => simp [unqF]
  | a :: b :: r2 =>
    rw [unqF]
    rcases h with h | h
    · rw [if_neg h]
    · simp at h; omega
def innerG (l : List UInt8) : List UInt8 := (l.take (l.length - 1)).drop 1
def unquoteG (l : List UInt8) : List UInt8 × Bool := if quoteG (unqF (innerG l)) = l then (unqF (innerG l), true) else ([], false)
theorem inner_drop (l : List UInt8) (i : Nat) (b : UInt8) (h : i + 1 < l.length) (h0 : 1 ≤ i) (hb : l[i]? = some b) : (innerG l).drop (i - 1) = b :: (innerG l).drop i := by
  unfold innerG
  rw [List.drop_drop, List.drop_drop, show 1 + (i - 1) = i by omega, show 1 + i = i + 1 by omega]
  have hl : i < (l.take (l.length - 1)).length := by simp; omega
  rw [List.drop_eq_getElem_cons hl]
  congr 1
  rw [List.getElem_take]
  rw [List.getElem?_eq_getElem (by omega)] at hb
  exact Option.some.inj hb
theorem inner_len (l : List UInt8) : (innerG l).length = l.length - 2 := by
  unfold innerG
  simp
  omega
theorem or_16 (a b : Nat) (ha : a < 16) (hb : b < 16) : binS .or (.int .i64 ((a : Int) * 16)) (.int .i64 (b : Int)) = some (.int .i64 ((a : Int) * 16 + b)) := by
  show (if IntKind.i64 ≠ IntKind.i64 then none else some (Value.int .i64 (IntKind.i64.wrap (((BitVec.ofInt 64 ((a : Int) * 16) ||| BitVec.ofInt 64 (b : Int)).toNat : Nat) : Int)))) = _
  have e : (BitVec.ofInt 64 ((a : Int) * 16) ||| BitVec.ofInt 64 (b : Int)).toNat = a * 16 + b := by
    have e2 : (a : Int) * 16 = ((2 ^ 4 * a : Nat) : Int) := by omega
    rw [e2, BitVec.toNat_or, ofInt_nat64 (by omega), ofInt_nat64 (by omega)]
    have := (Nat.two_pow_add_eq_or_of_lt (i := 4) (show b < 2 ^ 4 by omega) a).symm
    omega
  rw [e, if_neg (by simp), wrap_i64 (by omega) (by omega)]
  congr 2
def S30 (l : List UInt8) (a : Nat × List UInt8) : St := { sl := [(0, bs l), (4, .osl 0 1 0 a.2.length), (5, i64 a.1)], hp := [(0, some (.arr 1 (a.2.map eB)))], nx := 1 }
set_option maxHeartbeats 2000000 in
theorem run_unquote (l : List UInt8) (hl : l.length ≤ 300000) : (W e3 e4).run 30 [bs l] [] = some (.tup [bs (unquoteG l).1, bo (unquoteG l).2], []) := by
  refine run_wp (by rw [W_T]; exact rfl) ?_
  simp -dsimp -implicitDefEqProofs (maxSteps := 1000000) (disch := omega) [condP_pos, condP_neg, optP_pos, decide_eq_true, decide_eq_false, wrap_i64, Int.natCast_inj, -BitVec.toNat_xor, -BitVec.toNat_and, -BitVec.toNat_or, -BitVec.toNat_not, -BitVec.toNat_ushiftRight, -BitVec.toNat_shiftLeft, -BitVec.toNat_mul, -UInt8.toNat_xor, -UInt8.toNat_and, -UInt8.toNat_or, -UInt8.toNat_shiftLeft, -UInt8.toNat_shiftRight]
  refine wp_inv (S30 l) (fun a => 1 ≤ a.1 ∧ (a.1 = 1 ∨ a.1 + 1 ≤ l.length) ∧ a.2 ++ unqF ((innerG l).drop (a.1 - 1)) = unqF (innerG l) ∧ a.2.length ≤ a.1) (fun a => l.length - a.1) (1, []) ⟨by simp, by simp, by simp, by simp⟩ (by simp -dsimp -implicitDefEqProofs (maxSteps := 1000000) (disch := omega) [condP_pos, condP_neg, optP_pos, decide_eq_true, decide_eq_false, wrap_i64, Int.natCast_inj, -BitVec.toNat_xor, -BitVec.toNat_and, -BitVec.toNat_or, -BitVec.toNat_not, -BitVec.toNat_ushiftRight, -BitVec.toNat_shiftLeft, -BitVec.toNat_mul, -UInt8.toNat_xor, -UInt8.toNat_and, -UInt8.toNat_or, -UInt8.toNat_shiftLeft, -UInt8.toNat_shiftRight, S30]) ?_
  rintro ⟨i, o⟩ ⟨h0, hi, ho, hol⟩
  simp only at h0 hi ho hol
  by_cases h : i + 1 < l.length
  · have h' : (i : Int) < l.length - 1 := by omega
    obtain ⟨b, hb⟩ : ∃ b, l[i] = b := ⟨_, rfl⟩
    have hb2 : l[i]? = some b := by rw [List.getElem?_eq_getElem (by omega), hb]
    have hb' := b.toNat_lt
    have hd := inner_drop l i b h h0 hb2
    have hil := inner_len l
    have step : ∀ c, unqF ((innerG l).drop (i - 1)) = c :: unqF ((innerG l).drop i) → (o ++ [c]) ++ unqF ((innerG l).drop (i + 1 - 1)) = unqF (innerG l) := by
      intro c hc
      rw [← ho, hc, List.append_assoc]; rfl
    by_cases h1 : b.toNat = 92
    · have hb92 : b = 92 := UInt8.toNat_inj.1 h1
      by_cases h2 : i + 3 < l.length
      · have h2' : (i : Int) + 2 < l.length - 1 := by omega
        obtain ⟨p, hp⟩ : ∃ p, l[i + 1] = p := ⟨_, rfl⟩
        obtain ⟨q, hq⟩ : ∃ q, l[i + 2] = q := ⟨_, rfl⟩
        have hd1 := inner_drop l (i + 1) p (by omega) (by omega) (by rw [List.getElem?_eq_getElem (by omega), hp])
        have hd2 := inner_drop l (i + 2) q (by omega) (by omega) (by rw [List.getElem?_eq_getElem (by omega), hq])
        have c1 := run_hexdigit (e3 := e3) (e4 := e4) p
        have c2 := run_hexdigit (e3 := e3) (e4 := e4) q
        have b1 := hxI_le p
        have b2 := hxI_le q
        have i1 : ((i : Int) + 1).toNat = i + 1 := by omega
        have i2 : ((i : Int) + 2).toNat = i + 2 := by omega
        obtain ⟨A, hA⟩ : ∃ A : Nat, max 0 (hxI p) = A := ⟨(max 0 (hxI p)).toNat, by omega⟩
        obtain ⟨B, hB⟩ : ∃ B : Nat, max 0 (hxI q) = B := ⟨(max 0 (hxI q)).toNat, by omega⟩
        have o1 := or_16 A B (by omega) (by omega)
        have hw : ((combG p q).toNat : Int) = (A : Int) * 16 + B := by
          unfold combG
          rw [hA, hB]
          simp
          omega
        simp -dsimp -implicitDefEqProofs (maxSteps := 1000000) (disch := omega) [condP_pos, condP_neg, optP_pos, decide_eq_true, decide_eq_false, wrap_i64, Int.natCast_inj, -BitVec.toNat_xor, -BitVec.toNat_and, -BitVec.toNat_or, -BitVec.toNat_not, -BitVec.toNat_ushiftRight, -BitVec.toNat_shiftLeft, -BitVec.toNat_mul, -UInt8.toNat_xor, -UInt8.toNat_and, -UInt8.toNat_or, -UInt8.toNat_shiftLeft, -UInt8.toNat_shiftRight, S30, h', h1, hb, h2', hp, hq, c1, c2, i1, i2, hA, hB, o1, wrap_u8, ← hw, eB_mk, show o.length + 1 ≤ 140737488355328 by omega]
        refine again (i + 3, o ++ [combG p q]) ⟨by simp only; omega, by simp only; omega, ?_, by simp; omega⟩ (by simp only; omega) (by simp -dsimp -implicitDefEqProofs (maxSteps := 1000000) (disch := omega) [condP_pos, condP_neg, optP_pos, decide_eq_true, decide_eq_false, wrap_i64, Int.natCast_inj, -BitVec.toNat_xor, -BitVec.toNat_and, -BitVec.toNat_or, -BitVec.toNat_not, -BitVec.toNat_ushiftRight, -BitVec.toNat_shiftLeft, -BitVec.toNat_mul, -UInt8.toNat_xor, -UInt8.toNat_and, -UInt8.toNat_or, -UInt8.toNat_shiftLeft, -UInt8.toNat_shiftRight, S30, Int.add_assoc])
        simp only
        rw [← ho, hd, hb92]
        have e1 : (innerG l).drop i = p :: q :: (innerG l).drop (i + 2) := by
          rw [show i = i + 1 - 1 by omega, hd1, show i + 1 - 1 + 2 = i + 2 by omega]
          congr 1
        rw [e1, unqF_esc, List.append_assoc]
        rfl
      · have h2' : ¬ (i : Int) + 2 < l.length - 1 := by omega
        simp -dsimp -implicitDefEqProofs (maxSteps := 1000000) (disch := omega) [condP_pos, condP_neg, optP_pos, decide_eq_true, decide_eq_false, wrap_i64, Int.natCast_inj, -BitVec.toNat_xor, -BitVec.toNat_and, -BitVec.toNat_or, -BitVec.toNat_not, -BitVec.toNat_ushiftRight, -BitVec.toNat_shiftLeft, -BitVec.toNat_mul, -UInt8.toNat_xor, -UInt8.toNat_and, -UInt8.toNat_or, -UInt8.toNat_shiftLeft, -UInt8.toNat_shiftRight, S30, h', h1, hb, h2', eB_mk, show o.length + 1 ≤ 140737488355328 by omega]
        refine again (i + 1, o ++ [92]) ⟨by simp only; omega, by simp only; omega, ?_, by simp; omega⟩ (by simp only; omega) (by simp -dsimp -implicitDefEqProofs (maxSteps := 1000000) (disch := omega) [condP_pos, condP_neg, optP_pos, decide_eq_true, decide_eq_false, wrap_i64, Int.natCast_inj, -BitVec.toNat_xor, -BitVec.toNat_and, -BitVec.toNat_or, -BitVec.toNat_not, -BitVec.toNat_ushiftRight, -BitVec.toNat_shiftLeft, -BitVec.toNat_mul, -UInt8.toNat_xor, -UInt8.toNat_and, -UInt8.toNat_or, -UInt8.toNat_shiftLeft, -UInt8.toNat_shiftRight, S30, e92])
        exact step 92 (by rw [hd, hb92, unqF_one _ _ (.inr (by rw [List.length_drop]; omega))])
    · simp -dsimp -implicitDefEqProofs (maxSteps := 1000000) (disch := omega) [condP_pos, condP_neg, optP_pos, decide_eq_true, decide_eq_false, wrap_i64, Int.natCast_inj, -BitVec.toNat_xor, -BitVec.toNat_and, -BitVec.toNat_or, -BitVec.toNat_not, -BitVec.toNat_ushiftRight, -BitVec.toNat_shiftLeft, -BitVec.toNat_mul, -UInt8.toNat_xor, -UInt8.toNat_and, -UInt8.toNat_or, -UInt8.toNat_shiftLeft, -UInt8.toNat_shiftRight, S30, h', h1, hb, eB_mk, show o.length + 1 ≤ 140737488355328 by omega]
      refine again (i + 1, o ++ [b]) ⟨by simp only; omega, by simp only; omega, ?_, by simp; omega⟩ (by simp only; omega) (by simp -dsimp -implicitDefEqProofs (maxSteps := 1000000) (disch := omega) [condP_pos, condP_neg, optP_pos, decide_eq_true, decide_eq_false, wrap_i64, Int.natCast_inj, -BitVec.toNat_xor, -BitVec.toNat_and, -BitVec.toNat_or, -BitVec.toNat_not, -BitVec.toNat_ushiftRight, -BitVec.toNat_shiftLeft, -BitVec.toNat_mul, -UInt8.toNat_xor, -UInt8.toNat_and, -UInt8.toNat_or, -UInt8.toNat_shiftLeft, -UInt8.toNat_shiftRight, S30])
      exact step b (by rw [hd, unqF_one _ _ (.inl (fun e => h1 (by rw [e]; rfl)))])
  · have h' : ¬ (i : Int) < l.length - 1 := by omega
    have hil := inner_len l
    rw [List.drop_of_length_le (by omega)] at ho
    have ho2 : unqF (innerG l) = o := by rw [← ho]; simp [unqF]
    have c1 := run_quote (e3 := e3) (e4 := e4) o (by omega)
    unfold unquoteG
    rw [ho2]
    by_cases hq : quoteG o = l
    · rw [if_pos hq]
      rw [hq] at c1
      simp -dsimp -implicitDefEqProofs (maxSteps := 1000000) (disch := omega) [condP_pos, condP_neg, optP_pos, decide_eq_true, decide_eq_false, wrap_i64, Int.natCast_inj, -BitVec.toNat_xor, -BitVec.toNat_and, -BitVec.toNat_or, -BitVec.toNat_not, -BitVec.toNat_ushiftRight, -BitVec.toNat_shiftLeft, -BitVec.toNat_mul, -UInt8.toNat_xor, -UInt8.toNat_and, -UInt8.toNat_or, -UInt8.toNat_shiftLeft, -UInt8.toNat_shiftRight, S30, h', c1]
    · rw [if_neg hq]
      simp -dsimp -implicitDefEqProofs (maxSteps := 1000000) (disch := omega) [condP_pos, condP_neg, optP_pos, decide_eq_true, decide_eq_false, wrap_i64, Int.natCast_inj, -BitVec.toNat_xor, -BitVec.toNat_and, -BitVec.toNat_or, -BitVec.toNat_not, -BitVec.toNat_ushiftRight, -BitVec.toNat_shiftLeft, -BitVec.toNat_mul, -UInt8.toNat_xor, -UInt8.toNat_and, -UInt8.toNat_or, -UInt8.toNat_shiftLeft, -UInt8.toNat_shiftRight, S30, h', c1, hq]
end Go.Vai
