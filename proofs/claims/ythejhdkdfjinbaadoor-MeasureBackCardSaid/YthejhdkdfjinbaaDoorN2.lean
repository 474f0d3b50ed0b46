/-
  What functions of layer 1 and of its reference compute: equations of the abstract run, and plain laws of them.
-/
import Derived.Test.YthejhdkdfjinbaaDoorN1
set_option linter.unusedVariables false
set_option linter.unusedSimpArgs false
set_option linter.unnecessarySimpa false
set_option linter.unusedSectionVars false
namespace Go.Vai
variable {e3 e4 : Value}
/-! The reference's sum, bit by bit. -/
def stB (x : BitVec 32) : BitVec 32 := if x &&& 1#32 = 1#32 then (x >>> 1) ^^^ 3988292384#32 else x >>> 1
def rB : Nat → BitVec 32 → BitVec 32
  | 0, x => x
  | n + 1, x => stB (rB n x)
def rbyS (c : BitVec 32) (b : UInt8) : BitVec 32 := rB 8 (c ^^^ bb b)
def rcrcS (c : BitVec 32) (l : List UInt8) : BitVec 32 := l.foldl rbyS c
theorem rcrcS_take (c : BitVec 32) (l : List UInt8) (i : Nat) (b : UInt8) (h : l[i]? = some b) : rcrcS c (l.take (i + 1)) = rbyS (rcrcS c (l.take i)) b := by
  rw [List.take_add_one, h]
  simp [rcrcS]
theorem and32_1 (x : BitVec 32) : binS .and (.int .u32 (x.toNat : Int)) (.int .u32 1) = some (.int .u32 ((x &&& 1#32).toNat : Int)) := by
  have h : (1 : Int) = ((1#32).toNat : Int) := rfl
  rw [h]
  show (if IntKind.u32 ≠ IntKind.u32 then none else some (Value.int .u32 (IntKind.u32.wrap (((BitVec.ofInt 32 _ &&& BitVec.ofInt 32 _).toNat : Nat) : Int)))) = _
  rw [ofInt_nat32, ofInt_nat32, wrap_u32x, if_neg (by simp)]
theorem shr1_32 (x : BitVec 32) : ((x.toNat : Int)).fdiv 2 = ((x >>> 1).toNat : Int) := by
  rw [Int.fdiv_eq_ediv_of_nonneg _ (by omega)]
  simp [Nat.shiftRight_eq_div_pow]
theorem xor32p (x : BitVec 32) : binS .xor (.int .u32 (x.toNat : Int)) (.int .u32 3988292384) = some (.int .u32 ((x ^^^ 3988292384#32).toNat : Int)) := by
  rw [← xor32]; rfl
theorem xor32f (x : BitVec 32) : binS .xor (.int .u32 (x.toNat : Int)) (.int .u32 4294967295) = some (.int .u32 ((~~~ x).toNat : Int)) := by
  rw [← BitVec.allOnes_xor, BitVec.xor_comm, ← xor32]; rfl
theorem eq1_iff (x : BitVec 32) : (((x &&& 1#32).toNat : Int) = 1) ↔ x &&& 1#32 = 1#32 := by
  constructor
  · intro h
    apply BitVec.eq_of_toNat_eq
    have : (1#32).toNat = 1 := rfl
    omega
  · intro h; rw [h]; rfl
def S18a (l : List UInt8) (a : Nat × BitVec 32) : St := { sl := [(0, bs l), (3, w32 a.2), (4, i64 a.1)], hp := [], nx := 0 }
def S18b (l : List UInt8) (i : Nat) (a : Nat × BitVec 32) : St := { sl := [(0, bs l), (3, w32 a.2), (4, i64 i), (5, i64 a.1)], hp := [], nx := 0 }
set_option maxHeartbeats 2000000 in
theorem run_rcrc (l : List UInt8) (hl : l.length ≤ 1000000) : (W e3 e4).run 18 [bs l] [] = some (i64 (~~~ rcrcS 0xFFFFFFFF#32 l).toNat, []) := by
  refine run_wp (by rw [W_T]; exact rfl) ?_
  simp -dsimp -implicitDefEqProofs (maxSteps := 1000000) (disch := omega) [condP_pos, condP_neg, optP_pos, decide_eq_true, decide_eq_false, wrap_i64, Int.natCast_inj, -BitVec.toNat_xor, -BitVec.toNat_and, -BitVec.toNat_or, -BitVec.toNat_not, -BitVec.toNat_ushiftRight, -BitVec.toNat_shiftLeft, -BitVec.toNat_mul]
  refine wp_inv (S18a l) (fun a => a.1 ≤ l.length ∧ a.2 = rcrcS 0xFFFFFFFF#32 (l.take a.1)) (fun a => l.length - a.1) (0, 0xFFFFFFFF#32) ⟨by simp, by simp [rcrcS]⟩ (by simp -dsimp -implicitDefEqProofs (maxSteps := 1000000) (disch := omega) [condP_pos, condP_neg, optP_pos, decide_eq_true, decide_eq_false, wrap_i64, Int.natCast_inj, -BitVec.toNat_xor, -BitVec.toNat_and, -BitVec.toNat_or, -BitVec.toNat_not, -BitVec.toNat_ushiftRight, -BitVec.toNat_shiftLeft, -BitVec.toNat_mul, S18a]) ?_
  rintro ⟨i, c⟩ ⟨hi, hc⟩
  simp only at hi hc
  by_cases h : i < l.length
  · obtain ⟨b, hb⟩ : ∃ b, l[i] = b := ⟨_, rfl⟩
    have hb2 : l[i]? = some b := by rw [List.getElem?_eq_getElem h, hb]
    have hb' := b.toNat_lt
    simp -dsimp -implicitDefEqProofs (maxSteps := 1000000) (disch := omega) [condP_pos, condP_neg, optP_pos, decide_eq_true, decide_eq_false, wrap_i64, Int.natCast_inj, -BitVec.toNat_xor, -BitVec.toNat_and, -BitVec.toNat_or, -BitVec.toNat_not, -BitVec.toNat_ushiftRight, -BitVec.toNat_shiftLeft, -BitVec.toNat_mul, S18a, h, hb, xor32b, wrap_u32]
    refine wp_inv (S18b l i) (fun a => a.1 ≤ 8 ∧ a.2 = rB a.1 (c ^^^ bb b)) (fun a => 8 - a.1) (0, c ^^^ bb b) ⟨by simp, rfl⟩ (by simp -dsimp -implicitDefEqProofs (maxSteps := 1000000) (disch := omega) [condP_pos, condP_neg, optP_pos, decide_eq_true, decide_eq_false, wrap_i64, Int.natCast_inj, -BitVec.toNat_xor, -BitVec.toNat_and, -BitVec.toNat_or, -BitVec.toNat_not, -BitVec.toNat_ushiftRight, -BitVec.toNat_shiftLeft, -BitVec.toNat_mul, S18b]) ?_
    rintro ⟨k, x⟩ ⟨hk, hx⟩
    simp only at hk hx
    by_cases hk2 : k < 8
    · by_cases h1 : x &&& 1#32 = 1#32
      · have h2 := (eq1_iff x).2 h1
        have h3 : stB x = (x >>> 1) ^^^ 3988292384#32 := if_pos h1
        simp -dsimp -implicitDefEqProofs (maxSteps := 1000000) (disch := omega) [condP_pos, condP_neg, optP_pos, decide_eq_true, decide_eq_false, wrap_i64, Int.natCast_inj, -BitVec.toNat_xor, -BitVec.toNat_and, -BitVec.toNat_or, -BitVec.toNat_not, -BitVec.toNat_ushiftRight, -BitVec.toNat_shiftLeft, -BitVec.toNat_mul, S18b, hk2, and32_1, h2, shr1_32, xor32p]
        refine again (k + 1, stB x) ⟨by simp only; omega, by simp only; rw [hx]; rfl⟩ (by simp only; omega) (by simp -dsimp -implicitDefEqProofs (maxSteps := 1000000) (disch := omega) [condP_pos, condP_neg, optP_pos, decide_eq_true, decide_eq_false, wrap_i64, Int.natCast_inj, -BitVec.toNat_xor, -BitVec.toNat_and, -BitVec.toNat_or, -BitVec.toNat_not, -BitVec.toNat_ushiftRight, -BitVec.toNat_shiftLeft, -BitVec.toNat_mul, S18b, h3])
      · have h2 : ¬ (((x &&& 1#32).toNat : Int) = 1) := fun h => h1 ((eq1_iff x).1 h)
        have h3 : stB x = x >>> 1 := if_neg h1
        simp -dsimp -implicitDefEqProofs (maxSteps := 1000000) (disch := omega) [condP_pos, condP_neg, optP_pos, decide_eq_true, decide_eq_false, wrap_i64, Int.natCast_inj, -BitVec.toNat_xor, -BitVec.toNat_and, -BitVec.toNat_or, -BitVec.toNat_not, -BitVec.toNat_ushiftRight, -BitVec.toNat_shiftLeft, -BitVec.toNat_mul, S18b, hk2, and32_1, h2, shr1_32, xor32p]
        refine again (k + 1, stB x) ⟨by simp only; omega, by simp only; rw [hx]; rfl⟩ (by simp only; omega) (by simp -dsimp -implicitDefEqProofs (maxSteps := 1000000) (disch := omega) [condP_pos, condP_neg, optP_pos, decide_eq_true, decide_eq_false, wrap_i64, Int.natCast_inj, -BitVec.toNat_xor, -BitVec.toNat_and, -BitVec.toNat_or, -BitVec.toNat_not, -BitVec.toNat_ushiftRight, -BitVec.toNat_shiftLeft, -BitVec.toNat_mul, S18b, h3])
    · obtain rfl : k = 8 := by omega
      simp -dsimp -implicitDefEqProofs (maxSteps := 1000000) (disch := omega) [condP_pos, condP_neg, optP_pos, decide_eq_true, decide_eq_false, wrap_i64, Int.natCast_inj, -BitVec.toNat_xor, -BitVec.toNat_and, -BitVec.toNat_or, -BitVec.toNat_not, -BitVec.toNat_ushiftRight, -BitVec.toNat_shiftLeft, -BitVec.toNat_mul, S18b]
      refine again (i + 1, rbyS c b) ⟨by simp only; omega, by simp only; rw [rcrcS_take _ l i b hb2, hc]⟩ (by simp only; omega) (by simp -dsimp -implicitDefEqProofs (maxSteps := 1000000) (disch := omega) [condP_pos, condP_neg, optP_pos, decide_eq_true, decide_eq_false, wrap_i64, Int.natCast_inj, -BitVec.toNat_xor, -BitVec.toNat_and, -BitVec.toNat_or, -BitVec.toNat_not, -BitVec.toNat_ushiftRight, -BitVec.toNat_shiftLeft, -BitVec.toNat_mul, S18a, rbyS, ← hx])
  · have h1 := (~~~ c).isLt
    have h2 : rcrcS 0xFFFFFFFF#32 l = c := by
      rw [hc, show i = l.length by omega, List.take_length]
    simp -dsimp -implicitDefEqProofs (maxSteps := 1000000) (disch := omega) [condP_pos, condP_neg, optP_pos, decide_eq_true, decide_eq_false, wrap_i64, Int.natCast_inj, -BitVec.toNat_xor, -BitVec.toNat_and, -BitVec.toNat_or, -BitVec.toNat_not, -BitVec.toNat_ushiftRight, -BitVec.toNat_shiftLeft, -BitVec.toNat_mul, S18a, h, xor32f, h2]
/-! Four bits at a time are the same. -/
theorem and1_xor (x y : BitVec 32) : (x ^^^ y) &&& 1#32 = (x &&& 1#32) ^^^ (y &&& 1#32) := by
  ext i
  simp only [BitVec.getElem_and, BitVec.getElem_xor]
  cases x[i] <;> cases y[i] <;> cases (1#32)[i] <;> rfl
theorem and1_cases (x : BitVec 32) : x &&& 1#32 = 0#32 ∨ x &&& 1#32 = 1#32 := by
  have h : (x &&& 1#32).toNat ≤ 1 := by
    rw [BitVec.toNat_and]; exact Nat.and_le_right
  have h2 : (x &&& 1#32).toNat = 0 ∨ (x &&& 1#32).toNat = 1 := by omega
  rcases h2 with h2 | h2
  · exact .inl (BitVec.eq_of_toNat_eq (by rw [h2]; rfl))
  · exact .inr (BitVec.eq_of_toNat_eq (by rw [h2]; rfl))
theorem shr_xor (x y : BitVec 32) (n : Nat) : (x ^^^ y) >>> n = (x >>> n) ^^^ (y >>> n) := by
  ext i
  simp
theorem stB_xor (x y : BitVec 32) : stB (x ^^^ y) = stB x ^^^ stB y := by
  have p : ∀ a b : BitVec 32, ∀ p : BitVec 32, (a ^^^ p) ^^^ (b ^^^ p) = a ^^^ b := by
    intro a b p
    ext i
    simp only [BitVec.getElem_xor]
    cases a[i] <;> cases b[i] <;> cases p[i] <;> rfl
  unfold stB
  rw [and1_xor, shr_xor]
  rcases and1_cases x with h1 | h1 <;> rcases and1_cases y with h2 | h2 <;> rw [h1, h2]
  · rw [if_neg (by decide), if_neg (by decide), if_neg (by decide)]
  · rw [if_pos (by decide), if_neg (by decide), if_pos rfl, BitVec.xor_assoc]
  · rw [if_pos (by decide), if_pos rfl, if_neg (by decide), BitVec.xor_assoc, BitVec.xor_assoc, BitVec.xor_comm (y >>> 1)]
  · rw [if_neg (by decide), if_pos rfl, if_pos rfl, p]
theorem rB_xor : ∀ (n : Nat) (x y : BitVec 32), rB n (x ^^^ y) = rB n x ^^^ rB n y
  | 0, _, _ => rfl
  | n + 1, x, y => by simp only [rB]; rw [rB_xor n, stB_xor]
theorem rB_add : ∀ (n m : Nat) (x : BitVec 32), rB (n + m) x = rB n (rB m x)
  | 0, m, x => by rw [Nat.zero_add]; rfl
  | n + 1, m, x => by rw [Nat.add_right_comm]; simp only [rB]; rw [rB_add n]
theorem nib_rB (n : Nat) (h : n < 16) : nibF (BitVec.ofNat 32 n) = rB 4 (BitVec.ofNat 32 n) := by
  match n, h with
  | 0, _ | 1, _ | 2, _ | 3, _ | 4, _ | 5, _ | 6, _ | 7, _ | 8, _ | 9, _ | 10, _ | 11, _ | 12, _ | 13, _ | 14, _ | 15, _ => decide
  | n + 16, h => omega
theorem stB_even (x : BitVec 32) (h : x.getLsbD 0 = false) : stB x = x >>> 1 := by
  unfold stB
  rw [if_neg]
  intro h2
  have := congrArg (fun y => BitVec.getLsbD y 0) h2
  simp only [BitVec.getLsbD_and, h] at this
  simp at this
theorem rB_even (x : BitVec 32) : rB 4 (x &&& ~~~ 15#32) = x >>> 4 := by
  have e : ∀ i, i < 4 → (x &&& ~~~ 15#32).getLsbD i = false := by
    intro i hi
    rw [BitVec.getLsbD_and]
    match i, hi with
    | 0, _ | 1, _ | 2, _ | 3, _ => simp [show (~~~ 15#32 : BitVec 32) = 4294967280#32 by decide]
  simp only [rB]
  generalize hy : x &&& ~~~ 15#32 = y at *
  have e1 : (y >>> 1).getLsbD 0 = false := by rw [BitVec.getLsbD_ushiftRight]; exact e 1 (by omega)
  have e2 : (y >>> 1 >>> 1).getLsbD 0 = false := by rw [BitVec.getLsbD_ushiftRight, BitVec.getLsbD_ushiftRight]; exact e 2 (by omega)
  have e3 : (y >>> 1 >>> 1 >>> 1).getLsbD 0 = false := by rw [BitVec.getLsbD_ushiftRight, BitVec.getLsbD_ushiftRight, BitVec.getLsbD_ushiftRight]; exact e 3 (by omega)
  rw [stB_even y (e 0 (by omega)), stB_even _ e1, stB_even _ e2, stB_even _ e3, ← hy]
  apply BitVec.eq_of_getLsbD_eq
  intro i hi
  simp only [BitVec.getLsbD_ushiftRight, BitVec.getLsbD_and]
  have h15 : (~~~ 15#32).getLsbD (1 + (1 + (1 + (1 + i)))) = decide (4 + i < 32) := by
    rw [BitVec.getLsbD_not]
    have : (15#32).getLsbD (1 + (1 + (1 + (1 + i)))) = false := by
      rw [BitVec.getLsbD_ofNat, show 1 + (1 + (1 + (1 + i))) = i + 4 by omega]
      have : (15 : Nat).testBit (i + 4) = false := Nat.testBit_lt_two_pow (Nat.lt_of_lt_of_le (show 15 < 2 ^ 4 by omega) (Nat.pow_le_pow_right (by omega) (by omega)))
      simp [this]
    rw [this]
    simp
    omega
  rw [h15, show 1 + (1 + (1 + (1 + i))) = 4 + i by omega]
  by_cases h4 : 4 + i < 32
  · simp [h4]
  · rw [BitVec.getLsbD_of_ge x _ (by omega)]; rfl
theorem tS_rB (x : BitVec 32) : tS x = rB 4 x := by
  have h : x = (x &&& ~~~ 15#32) ^^^ (x &&& 15#32) := by
    ext i
    simp only [BitVec.getElem_xor, BitVec.getElem_and, BitVec.getElem_not]
    cases x[i] <;> cases (15#32)[i] <;> rfl
  have h2 : nibF (x &&& 15#32) = rB 4 (x &&& 15#32) := by
    have := nib_rB (x &&& 15#32).toNat (and15_lt x)
    rwa [BitVec.ofNat_toNat, BitVec.setWidth_eq] at this
  conv => rhs; rw [h]
  rw [rB_xor, rB_even, ← h2]
  rfl
theorem byS_r (c : BitVec 32) (b : UInt8) : byS c b = rbyS c b := by
  unfold byS rbyS
  rw [tS_rB, tS_rB, ← rB_add]
theorem crcS_r (c : BitVec 32) (l : List UInt8) : rcrcS c l = crcS c l := by
  unfold rcrcS crcS
  congr 1
  funext c b
  rw [byS_r]
end Go.Vai
