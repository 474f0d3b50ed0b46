/-
  What functions of layer 1 and of its reference compute: equations of the abstract run, and plain laws of them.
-/
import Derived.Test.YthejhdkdfjinbaaDoorR1
import Derived.Test.YthejhdkdfjinbaaDoorQ2
set_option linter.unusedVariables false
set_option linter.unusedSimpArgs false
set_option linter.unnecessarySimpa false
set_option linter.unusedSectionVars false
namespace Go.Vai
variable {e3 e4 : Value}
/-! Hexadecimal digits are read. -/
def hexF : Option Nat → List UInt8 → List UInt8
  | _, [] => []
  | hi, c :: r => if hxI c < 0 then hexF hi r else match hi with
    | none => hexF (some (hxI c).toNat) r
    | some a => UInt8.ofNat (a * 16 + (hxI c).toNat) :: hexF none r
def heldA : Option Nat → Int | none => 0 | some a => a
def bitsA : Option Nat → Int | none => 0 | some _ => 4
def highA : Option Nat → Int | none => -1 | some a => a
def S41 (l : List UInt8) (a : Nat × List UInt8 × Option Nat) : St := { sl := [(0, bs l), (1, i64 4), (2, .fn 42 []), (7, .osl 0 1 0 a.2.1.length), (8, i64 (heldA a.2.2)), (9, i64 (bitsA a.2.2)), (15, i64 l.length), (16, i64 a.1)], hp := [(0, some (.arr 1 (a.2.1.map eB)))], nx := 1 }
theorem or_0 (d : Nat) (h : d < 64) : binS .or (.int .i64 0) (.int .i64 (d : Int)) = some (.int .i64 (d : Int)) := by
  show (if IntKind.i64 ≠ IntKind.i64 then none else some (Value.int .i64 (IntKind.i64.wrap (((BitVec.ofInt 64 0 ||| BitVec.ofInt 64 (d : Int)).toNat : Nat) : Int)))) = _
  have e : (BitVec.ofInt 64 0 ||| BitVec.ofInt 64 (d : Int)).toNat = d := by
    rw [BitVec.toNat_or, ofInt_nat64 (by omega)]
    simp
  rw [e, if_neg (by simp), wrap_i64 (by omega) (by omega)]
theorem and_0 (x : Int) : binS .and (.int .i64 x) (.int .i64 0) = some (.int .i64 0) := by
  show (if IntKind.i64 ≠ IntKind.i64 then none else some (Value.int .i64 (IntKind.i64.wrap (((BitVec.ofInt 64 x &&& BitVec.ofInt 64 0).toNat : Nat) : Int)))) = _
  have e : (BitVec.ofInt 64 x &&& BitVec.ofInt 64 0).toNat = 0 := by
    simp
  rw [e, if_neg (by simp)]
  rfl
theorem hexF_neg (hi : Option Nat) (l : List UInt8) (i : Nat) (c : UInt8) (h : i < l.length) (hc : l[i] = c) (hx : hxI c < 0) : hexF hi (l.drop i) = hexF hi (l.drop (i + 1)) := by
  rw [List.drop_eq_getElem_cons h, hc]
  cases hi <;> rw [hexF, if_pos hx]
theorem hexF_none (l : List UInt8) (i : Nat) (c : UInt8) (h : i < l.length) (hc : l[i] = c) (hx : ¬ hxI c < 0) : hexF none (l.drop i) = hexF (some (hxI c).toNat) (l.drop (i + 1)) := by
  rw [List.drop_eq_getElem_cons h, hc, hexF, if_neg hx]
theorem hexF_some (a : Nat) (l : List UInt8) (i : Nat) (c : UInt8) (h : i < l.length) (hc : l[i] = c) (hx : ¬ hxI c < 0) : hexF (some a) (l.drop i) = UInt8.ofNat (a * 16 + (hxI c).toNat) :: hexF none (l.drop (i + 1)) := by
  rw [List.drop_eq_getElem_cons h, hc, hexF, if_neg hx]
set_option maxHeartbeats 4000000 in
theorem run_gather4 (l : List UInt8) (hl : l.length ≤ 1000000) : (W e3 e4).run 41 [bs l, i64 4, .fn 42 []] [] = some (bs (hexF none l), []) := by
  refine run_wp (by rw [W_T]; exact rfl) ?_
  simp -dsimp -implicitDefEqProofs (maxSteps := 1000000) (disch := omega) [condP_pos, condP_neg, optP_pos, decide_eq_true, decide_eq_false, wrap_i64, Int.natCast_inj, -BitVec.toNat_xor, -BitVec.toNat_and, -BitVec.toNat_or, -BitVec.toNat_not, -BitVec.toNat_ushiftRight, -BitVec.toNat_shiftLeft, -BitVec.toNat_mul, -UInt8.toNat_xor, -UInt8.toNat_and, -UInt8.toNat_or, -UInt8.toNat_shiftLeft, -UInt8.toNat_shiftRight]
  refine wp_inv (S41 l) (fun a => a.1 ≤ l.length ∧ a.2.1 ++ hexF a.2.2 (l.drop a.1) = hexF none l ∧ a.2.1.length ≤ a.1 ∧ (∀ x, a.2.2 = some x → x < 16)) (fun a => l.length - a.1) (0, [], none) ⟨by simp, by simp, by simp, by simp⟩ (by simp -dsimp -implicitDefEqProofs (maxSteps := 1000000) (disch := omega) [condP_pos, condP_neg, optP_pos, decide_eq_true, decide_eq_false, wrap_i64, Int.natCast_inj, -BitVec.toNat_xor, -BitVec.toNat_and, -BitVec.toNat_or, -BitVec.toNat_not, -BitVec.toNat_ushiftRight, -BitVec.toNat_shiftLeft, -BitVec.toNat_mul, -UInt8.toNat_xor, -UInt8.toNat_and, -UInt8.toNat_or, -UInt8.toNat_shiftLeft, -UInt8.toNat_shiftRight, S41, heldA, bitsA]) ?_
  rintro ⟨i, o, hi⟩ ⟨h0, ho, hol, hx⟩
  simp only at h0 ho hol hx
  by_cases h : i < l.length
  · obtain ⟨c, hc⟩ : ∃ c, l[i] = c := ⟨_, rfl⟩
    have hcl := c.toNat_lt
    have c1 := run_hexdigit (e3 := e3) (e4 := e4) c
    have hb := hxI_le c
    by_cases hneg : hxI c < 0
    · simp -dsimp -implicitDefEqProofs (maxSteps := 1000000) (disch := omega) [condP_pos, condP_neg, optP_pos, decide_eq_true, decide_eq_false, wrap_i64, Int.natCast_inj, -BitVec.toNat_xor, -BitVec.toNat_and, -BitVec.toNat_or, -BitVec.toNat_not, -BitVec.toNat_ushiftRight, -BitVec.toNat_shiftLeft, -BitVec.toNat_mul, -UInt8.toNat_xor, -UInt8.toNat_and, -UInt8.toNat_or, -UInt8.toNat_shiftLeft, -UInt8.toNat_shiftRight, S41, h, hc, c1, hneg]
      refine again (i + 1, o, hi) ⟨by simp only; omega, by simp only; rw [← ho, hexF_neg hi l i c h hc hneg], by simp only; omega, hx⟩ (by simp only; omega) (by simp -dsimp -implicitDefEqProofs (maxSteps := 1000000) (disch := omega) [condP_pos, condP_neg, optP_pos, decide_eq_true, decide_eq_false, wrap_i64, Int.natCast_inj, -BitVec.toNat_xor, -BitVec.toNat_and, -BitVec.toNat_or, -BitVec.toNat_not, -BitVec.toNat_ushiftRight, -BitVec.toNat_shiftLeft, -BitVec.toNat_mul, -UInt8.toNat_xor, -UInt8.toNat_and, -UInt8.toNat_or, -UInt8.toNat_shiftLeft, -UInt8.toNat_shiftRight, S41])
    · obtain ⟨d, hd⟩ : ∃ d : Nat, hxI c = d := ⟨(hxI c).toNat, by omega⟩
      have hd0 : (hxI c).toNat = d := by omega
      have hneg' : ¬ (d : Int) < 0 := by omega
      rw [hd] at c1
      cases hi with
      | none =>
        have st := hexF_none l i c h hc hneg
        rw [hd0] at st
        have o1 := or_0 d (by omega)
        simp -dsimp -implicitDefEqProofs (maxSteps := 1000000) (disch := omega) [condP_pos, condP_neg, optP_pos, decide_eq_true, decide_eq_false, wrap_i64, Int.natCast_inj, -BitVec.toNat_xor, -BitVec.toNat_and, -BitVec.toNat_or, -BitVec.toNat_not, -BitVec.toNat_ushiftRight, -BitVec.toNat_shiftLeft, -BitVec.toNat_mul, -UInt8.toNat_xor, -UInt8.toNat_and, -UInt8.toNat_or, -UInt8.toNat_shiftLeft, -UInt8.toNat_shiftRight, S41, h, hc, c1, heldA, bitsA, o1]
        refine again (i + 1, o, some d) ⟨by simp only; omega, by simp only; rw [← ho, st], by simp only; omega, by simp; omega⟩ (by simp only; omega) (by simp -dsimp -implicitDefEqProofs (maxSteps := 1000000) (disch := omega) [condP_pos, condP_neg, optP_pos, decide_eq_true, decide_eq_false, wrap_i64, Int.natCast_inj, -BitVec.toNat_xor, -BitVec.toNat_and, -BitVec.toNat_or, -BitVec.toNat_not, -BitVec.toNat_ushiftRight, -BitVec.toNat_shiftLeft, -BitVec.toNat_mul, -UInt8.toNat_xor, -UInt8.toNat_and, -UInt8.toNat_or, -UInt8.toNat_shiftLeft, -UInt8.toNat_shiftRight, S41, heldA, bitsA])
      | some a =>
        have st := hexF_some a l i c h hc hneg
        rw [hd0] at st
        have ha := hx a rfl
        have o1 := or_16 a d ha (by omega)
        have hw : ((UInt8.ofNat (a * 16 + d)).toNat : Int) = (a : Int) * 16 + d := by
          simp; omega
        generalize UInt8.ofNat (a * 16 + d) = b at *
        simp -dsimp -implicitDefEqProofs (maxSteps := 1000000) (disch := omega) [condP_pos, condP_neg, optP_pos, decide_eq_true, decide_eq_false, wrap_i64, Int.natCast_inj, -BitVec.toNat_xor, -BitVec.toNat_and, -BitVec.toNat_or, -BitVec.toNat_not, -BitVec.toNat_ushiftRight, -BitVec.toNat_shiftLeft, -BitVec.toNat_mul, -UInt8.toNat_xor, -UInt8.toNat_and, -UInt8.toNat_or, -UInt8.toNat_shiftLeft, -UInt8.toNat_shiftRight, S41, h, hc, c1, heldA, bitsA, o1, ← hw, wrap_u8, and_0, eB_mk, show o.length + 1 ≤ 140737488355328 by omega]
        refine again (i + 1, o ++ [b], none) ⟨by simp only; omega, by simp only; rw [← ho, st, List.append_assoc]; rfl, by simp; omega, by simp⟩ (by simp only; omega) (by simp -dsimp -implicitDefEqProofs (maxSteps := 1000000) (disch := omega) [condP_pos, condP_neg, optP_pos, decide_eq_true, decide_eq_false, wrap_i64, Int.natCast_inj, -BitVec.toNat_xor, -BitVec.toNat_and, -BitVec.toNat_or, -BitVec.toNat_not, -BitVec.toNat_ushiftRight, -BitVec.toNat_shiftLeft, -BitVec.toNat_mul, -UInt8.toNat_xor, -UInt8.toNat_and, -UInt8.toNat_or, -UInt8.toNat_shiftLeft, -UInt8.toNat_shiftRight, S41, heldA, bitsA])
  · have e : o = hexF none l := by
      rw [← ho, List.drop_of_length_le (by omega)]
      cases hi <;> simp [hexF]
    rw [← e]
    simp -dsimp -implicitDefEqProofs (maxSteps := 1000000) (disch := omega) [condP_pos, condP_neg, optP_pos, decide_eq_true, decide_eq_false, wrap_i64, Int.natCast_inj, -BitVec.toNat_xor, -BitVec.toNat_and, -BitVec.toNat_or, -BitVec.toNat_not, -BitVec.toNat_ushiftRight, -BitVec.toNat_shiftLeft, -BitVec.toNat_mul, -UInt8.toNat_xor, -UInt8.toNat_and, -UInt8.toNat_or, -UInt8.toNat_shiftLeft, -UInt8.toNat_shiftRight, S41, h]
def S23 (l : List UInt8) (rest : Int) (a : Nat × List UInt8 × Option Nat) : St := { sl := [(0, bs l), (6, i64 rest), (8, .osl 0 1 0 a.2.1.length), (9, i64 (highA a.2.2)), (10, i64 a.1)], hp := [(0, some (.arr 1 (a.2.1.map eB)))], nx := 1 }
def unhexG (l : List UInt8) (left : Int) : List UInt8 × Int := if (spendG left l.length).2 = true then (hexF none l, (spendG left l.length).1) else ([], 0)
set_option maxHeartbeats 4000000 in
theorem run_runhex (l : List UInt8) (left : Int) (hl : l.length ≤ 1000000) (hi : inI left) : (W e3 e4).run 23 [bs l, i64 left] [] = some (.tup [bs (unhexG l left).1, i64 (unhexG l left).2], []) := by
  have c0 := run_rspend (e3 := e3) (e4 := e4) left l.length hi ⟨by omega, by omega⟩
  unfold unhexG
  refine run_wp (by rw [W_T]; exact rfl) ?_
  generalize spendG left l.length = sp at *
  obtain ⟨rest, ok⟩ := sp
  simp only at c0 ⊢
  cases ok with
  | false =>
    rw [if_neg (by simp)]
    simp -dsimp -implicitDefEqProofs (maxSteps := 1000000) (disch := omega) [condP_pos, condP_neg, optP_pos, decide_eq_true, decide_eq_false, wrap_i64, Int.natCast_inj, -BitVec.toNat_xor, -BitVec.toNat_and, -BitVec.toNat_or, -BitVec.toNat_not, -BitVec.toNat_ushiftRight, -BitVec.toNat_shiftLeft, -BitVec.toNat_mul, -UInt8.toNat_xor, -UInt8.toNat_and, -UInt8.toNat_or, -UInt8.toNat_shiftLeft, -UInt8.toNat_shiftRight, c0]
  | true =>
    rw [if_pos rfl]
    simp -dsimp -implicitDefEqProofs (maxSteps := 1000000) (disch := omega) [condP_pos, condP_neg, optP_pos, decide_eq_true, decide_eq_false, wrap_i64, Int.natCast_inj, -BitVec.toNat_xor, -BitVec.toNat_and, -BitVec.toNat_or, -BitVec.toNat_not, -BitVec.toNat_ushiftRight, -BitVec.toNat_shiftLeft, -BitVec.toNat_mul, -UInt8.toNat_xor, -UInt8.toNat_and, -UInt8.toNat_or, -UInt8.toNat_shiftLeft, -UInt8.toNat_shiftRight, c0]
    refine wp_inv (S23 l rest) (fun a => a.1 ≤ l.length ∧ a.2.1 ++ hexF a.2.2 (l.drop a.1) = hexF none l ∧ a.2.1.length ≤ a.1 ∧ (∀ x, a.2.2 = some x → x < 16)) (fun a => l.length - a.1) (0, [], none) ⟨by simp, by simp, by simp, by simp⟩ (by simp -dsimp -implicitDefEqProofs (maxSteps := 1000000) (disch := omega) [condP_pos, condP_neg, optP_pos, decide_eq_true, decide_eq_false, wrap_i64, Int.natCast_inj, -BitVec.toNat_xor, -BitVec.toNat_and, -BitVec.toNat_or, -BitVec.toNat_not, -BitVec.toNat_ushiftRight, -BitVec.toNat_shiftLeft, -BitVec.toNat_mul, -UInt8.toNat_xor, -UInt8.toNat_and, -UInt8.toNat_or, -UInt8.toNat_shiftLeft, -UInt8.toNat_shiftRight, S23, highA]) ?_
    rintro ⟨i, o, hi⟩ ⟨h0, ho, hol, hx⟩
    simp only at h0 ho hol hx
    by_cases h : i < l.length
    · obtain ⟨c, hc⟩ : ∃ c, l[i] = c := ⟨_, rfl⟩
      have hcl := c.toNat_lt
      have c1 := run_hexvalue (e3 := e3) (e4 := e4) c
      have hb := hxI_le c
      by_cases hneg : hxI c < 0
      · simp -dsimp -implicitDefEqProofs (maxSteps := 1000000) (disch := omega) [condP_pos, condP_neg, optP_pos, decide_eq_true, decide_eq_false, wrap_i64, Int.natCast_inj, -BitVec.toNat_xor, -BitVec.toNat_and, -BitVec.toNat_or, -BitVec.toNat_not, -BitVec.toNat_ushiftRight, -BitVec.toNat_shiftLeft, -BitVec.toNat_mul, -UInt8.toNat_xor, -UInt8.toNat_and, -UInt8.toNat_or, -UInt8.toNat_shiftLeft, -UInt8.toNat_shiftRight, S23, h, hc, c1, hneg]
        refine again (i + 1, o, hi) ⟨by simp only; omega, by simp only; rw [← ho, hexF_neg hi l i c h hc hneg], by simp only; omega, hx⟩ (by simp only; omega) (by simp -dsimp -implicitDefEqProofs (maxSteps := 1000000) (disch := omega) [condP_pos, condP_neg, optP_pos, decide_eq_true, decide_eq_false, wrap_i64, Int.natCast_inj, -BitVec.toNat_xor, -BitVec.toNat_and, -BitVec.toNat_or, -BitVec.toNat_not, -BitVec.toNat_ushiftRight, -BitVec.toNat_shiftLeft, -BitVec.toNat_mul, -UInt8.toNat_xor, -UInt8.toNat_and, -UInt8.toNat_or, -UInt8.toNat_shiftLeft, -UInt8.toNat_shiftRight, S23])
      · obtain ⟨d, hd⟩ : ∃ d : Nat, hxI c = d := ⟨(hxI c).toNat, by omega⟩
        have hd0 : (hxI c).toNat = d := by omega
        have hneg' : ¬ (d : Int) < 0 := by omega
        rw [hd] at c1
        cases hi with
        | none =>
          have st := hexF_none l i c h hc hneg
          rw [hd0] at st
          simp -dsimp -implicitDefEqProofs (maxSteps := 1000000) (disch := omega) [condP_pos, condP_neg, optP_pos, decide_eq_true, decide_eq_false, wrap_i64, Int.natCast_inj, -BitVec.toNat_xor, -BitVec.toNat_and, -BitVec.toNat_or, -BitVec.toNat_not, -BitVec.toNat_ushiftRight, -BitVec.toNat_shiftLeft, -BitVec.toNat_mul, -UInt8.toNat_xor, -UInt8.toNat_and, -UInt8.toNat_or, -UInt8.toNat_shiftLeft, -UInt8.toNat_shiftRight, S23, h, hc, c1, highA]
          refine again (i + 1, o, some d) ⟨by simp only; omega, by simp only; rw [← ho, st], by simp only; omega, by simp; omega⟩ (by simp only; omega) (by simp -dsimp -implicitDefEqProofs (maxSteps := 1000000) (disch := omega) [condP_pos, condP_neg, optP_pos, decide_eq_true, decide_eq_false, wrap_i64, Int.natCast_inj, -BitVec.toNat_xor, -BitVec.toNat_and, -BitVec.toNat_or, -BitVec.toNat_not, -BitVec.toNat_ushiftRight, -BitVec.toNat_shiftLeft, -BitVec.toNat_mul, -UInt8.toNat_xor, -UInt8.toNat_and, -UInt8.toNat_or, -UInt8.toNat_shiftLeft, -UInt8.toNat_shiftRight, S23, highA])
        | some a =>
          have st := hexF_some a l i c h hc hneg
          rw [hd0] at st
          have ha := hx a rfl
          have hw : ((UInt8.ofNat (a * 16 + d)).toNat : Int) = 16 * (a : Int) + d := by
            simp; omega
          generalize UInt8.ofNat (a * 16 + d) = b at *
          simp -dsimp -implicitDefEqProofs (maxSteps := 1000000) (disch := omega) [condP_pos, condP_neg, optP_pos, decide_eq_true, decide_eq_false, wrap_i64, Int.natCast_inj, -BitVec.toNat_xor, -BitVec.toNat_and, -BitVec.toNat_or, -BitVec.toNat_not, -BitVec.toNat_ushiftRight, -BitVec.toNat_shiftLeft, -BitVec.toNat_mul, -UInt8.toNat_xor, -UInt8.toNat_and, -UInt8.toNat_or, -UInt8.toNat_shiftLeft, -UInt8.toNat_shiftRight, S23, h, hc, c1, highA, ← hw, wrap_u8, eB_mk, show o.length + 1 ≤ 140737488355328 by omega]
          refine again (i + 1, o ++ [b], none) ⟨by simp only; omega, by simp only; rw [← ho, st, List.append_assoc]; rfl, by simp; omega, by simp⟩ (by simp only; omega) (by simp -dsimp -implicitDefEqProofs (maxSteps := 1000000) (disch := omega) [condP_pos, condP_neg, optP_pos, decide_eq_true, decide_eq_false, wrap_i64, Int.natCast_inj, -BitVec.toNat_xor, -BitVec.toNat_and, -BitVec.toNat_or, -BitVec.toNat_not, -BitVec.toNat_ushiftRight, -BitVec.toNat_shiftLeft, -BitVec.toNat_mul, -UInt8.toNat_xor, -UInt8.toNat_and, -UInt8.toNat_or, -UInt8.toNat_shiftLeft, -UInt8.toNat_shiftRight, S23, highA])
    · have e : o = hexF none l := by
        rw [← ho, List.drop_of_length_le (by omega)]
        cases hi <;> simp [hexF]
      rw [← e]
      simp -dsimp -implicitDefEqProofs (maxSteps := 1000000) (disch := omega) [condP_pos, condP_neg, optP_pos, decide_eq_true, decide_eq_false, wrap_i64, Int.natCast_inj, -BitVec.toNat_xor, -BitVec.toNat_and, -BitVec.toNat_or, -BitVec.toNat_not, -BitVec.toNat_ushiftRight, -BitVec.toNat_shiftLeft, -BitVec.toNat_mul, -UInt8.toNat_xor, -UInt8.toNat_and, -UInt8.toNat_or, -UInt8.toNat_shiftLeft, -UInt8.toNat_shiftRight, S23, h]
theorem run_unhex (l : List UInt8) (left : Int) (hl : l.length ≤ 1000000) (hi : inI left) : (W e3 e4).run 22 [bs l, i64 left] [] = some (.tup [bs (unhexG l left).1, i64 (unhexG l left).2], []) := by
  have c0 := run_spend (e3 := e3) (e4 := e4) left l.length hi ⟨by omega, by omega⟩
  have c1 := run_gather4 (e3 := e3) (e4 := e4) l hl
  have c2 : (W e3 e4).run 40 [bs l] [] = some (bs (hexF none l), []) := by
    refine run_wp (by rw [W_T]; exact rfl) ?_
    simp -dsimp -implicitDefEqProofs (maxSteps := 1000000) (disch := omega) [condP_pos, condP_neg, optP_pos, decide_eq_true, decide_eq_false, wrap_i64, Int.natCast_inj, -BitVec.toNat_xor, -BitVec.toNat_and, -BitVec.toNat_or, -BitVec.toNat_not, -BitVec.toNat_ushiftRight, -BitVec.toNat_shiftLeft, -BitVec.toNat_mul, -UInt8.toNat_xor, -UInt8.toNat_and, -UInt8.toNat_or, -UInt8.toNat_shiftLeft, -UInt8.toNat_shiftRight, c1]
  unfold unhexG
  have c3 : (W e3 e4).run 39 [bs l, i64 left, .fn 40 []] [] = some (.tup [bs (if (spendG left l.length).2 = true then (hexF none l, (spendG left l.length).1) else ([], 0)).1, i64 (if (spendG left l.length).2 = true then (hexF none l, (spendG left l.length).1) else ([], 0)).2], []) := by
    refine run_wp (by rw [W_T]; exact rfl) ?_
    generalize spendG left l.length = sp at *
    obtain ⟨rest, ok⟩ := sp
    simp only at c0 ⊢
    cases ok with
    | false =>
      rw [if_neg (by simp)]
      simp -dsimp -implicitDefEqProofs (maxSteps := 1000000) (disch := omega) [condP_pos, condP_neg, optP_pos, decide_eq_true, decide_eq_false, wrap_i64, Int.natCast_inj, -BitVec.toNat_xor, -BitVec.toNat_and, -BitVec.toNat_or, -BitVec.toNat_not, -BitVec.toNat_ushiftRight, -BitVec.toNat_shiftLeft, -BitVec.toNat_mul, -UInt8.toNat_xor, -UInt8.toNat_and, -UInt8.toNat_or, -UInt8.toNat_shiftLeft, -UInt8.toNat_shiftRight, c0]
    | true =>
      rw [if_pos rfl]
      simp -dsimp -implicitDefEqProofs (maxSteps := 1000000) (disch := omega) [condP_pos, condP_neg, optP_pos, decide_eq_true, decide_eq_false, wrap_i64, Int.natCast_inj, -BitVec.toNat_xor, -BitVec.toNat_and, -BitVec.toNat_or, -BitVec.toNat_not, -BitVec.toNat_ushiftRight, -BitVec.toNat_shiftLeft, -BitVec.toNat_mul, -UInt8.toNat_xor, -UInt8.toNat_and, -UInt8.toNat_or, -UInt8.toNat_shiftLeft, -UInt8.toNat_shiftRight, c0, c2]
  refine run_wp (by rw [W_T]; exact rfl) ?_
  generalize spendG left l.length = sp at *
  obtain ⟨rest, ok⟩ := sp
  cases ok with
  | false =>
    rw [if_neg (by simp)] at c3 ⊢
    simp -dsimp -implicitDefEqProofs (maxSteps := 1000000) (disch := omega) [condP_pos, condP_neg, optP_pos, decide_eq_true, decide_eq_false, wrap_i64, Int.natCast_inj, -BitVec.toNat_xor, -BitVec.toNat_and, -BitVec.toNat_or, -BitVec.toNat_not, -BitVec.toNat_ushiftRight, -BitVec.toNat_shiftLeft, -BitVec.toNat_mul, -UInt8.toNat_xor, -UInt8.toNat_and, -UInt8.toNat_or, -UInt8.toNat_shiftLeft, -UInt8.toNat_shiftRight, c3]
  | true =>
    rw [if_pos rfl] at c3 ⊢
    simp -dsimp -implicitDefEqProofs (maxSteps := 1000000) (disch := omega) [condP_pos, condP_neg, optP_pos, decide_eq_true, decide_eq_false, wrap_i64, Int.natCast_inj, -BitVec.toNat_xor, -BitVec.toNat_and, -BitVec.toNat_or, -BitVec.toNat_not, -BitVec.toNat_ushiftRight, -BitVec.toNat_shiftLeft, -BitVec.toNat_mul, -UInt8.toNat_xor, -UInt8.toNat_and, -UInt8.toNat_or, -UInt8.toNat_shiftLeft, -UInt8.toNat_shiftRight, c3]
end Go.Vai
