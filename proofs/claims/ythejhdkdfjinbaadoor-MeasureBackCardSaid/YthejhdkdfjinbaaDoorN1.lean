/-
  What functions of layer 1 and of its reference compute: equations of the abstract run, and plain laws of them.
-/
import Derived.Test.YthejhdkdfjinbaaDoorMp
set_option linter.unusedVariables false
set_option linter.unusedSimpArgs false
set_option linter.unnecessarySimpa false
set_option linter.unusedSectionVars false
namespace Go.Vai
variable {e3 e4 : Value}
/-! Sums: registers of 32 bits. -/
abbrev w32 (x : BitVec 32) : AV := .fz (.sc (.int .u32 (x.toNat : Int)))
def bb (b : UInt8) : BitVec 32 := BitVec.ofNat 32 b.toNat
def nibF (y : BitVec 32) : BitVec 32 := BitVec.ofInt 32 (nibL.getD y.toNat 0)
def tS (x : BitVec 32) : BitVec 32 := (x >>> 4) ^^^ nibF (x &&& 15#32)
def byS (c : BitVec 32) (b : UInt8) : BitVec 32 := tS (tS (c ^^^ bb b))
def crcS (c : BitVec 32) (l : List UInt8) : BitVec 32 := l.foldl byS c
def crcG (l : List UInt8) : BitVec 32 := ~~~ crcS 0xFFFFFFFF#32 l
theorem ofInt_nat32 (x : BitVec 32) : BitVec.ofInt 32 (x.toNat : Int) = x := by
  apply BitVec.eq_of_toNat_eq
  rw [BitVec.toNat_ofInt]
  have := x.isLt
  simp
  omega
theorem wrap_u32 {n : Int} (h0 : 0 ≤ n) (h1 : n < 4294967296) : IntKind.u32.wrap n = n := by
  simp only [IntKind.wrap, IntKind.bits, IntKind.signed]
  simp
  omega
theorem wrap_u32x (x : BitVec 32) : IntKind.u32.wrap (x.toNat : Int) = (x.toNat : Int) := by
  have := x.isLt
  exact wrap_u32 (by omega) (by omega)
theorem xor32 (x y : BitVec 32) : binS .xor (.int .u32 (x.toNat : Int)) (.int .u32 (y.toNat : Int)) = some (.int .u32 ((x ^^^ y).toNat : Int)) := by
  show (if IntKind.u32 ≠ IntKind.u32 then none else some (Value.int .u32 (IntKind.u32.wrap (((BitVec.ofInt 32 _ ^^^ BitVec.ofInt 32 _).toNat : Nat) : Int)))) = _
  rw [ofInt_nat32, ofInt_nat32, wrap_u32x, if_neg (by simp)]
theorem bb_nat (b : UInt8) : ((bb b).toNat : Int) = b.toNat := by
  have := b.toNat_lt
  simp only [bb, BitVec.toNat_ofNat]
  omega
theorem xor32b (x : BitVec 32) (b : UInt8) : binS .xor (.int .u32 (x.toNat : Int)) (.int .u32 (b.toNat : Int)) = some (.int .u32 ((x ^^^ bb b).toNat : Int)) := by
  rw [← bb_nat, xor32]
theorem and32 (x : BitVec 32) : binS .and (.int .u32 (x.toNat : Int)) (.int .u32 15) = some (.int .u32 ((x &&& 15#32).toNat : Int)) := by
  have h : (15 : Int) = ((15#32).toNat : Int) := rfl
  rw [h]
  show (if IntKind.u32 ≠ IntKind.u32 then none else some (Value.int .u32 (IntKind.u32.wrap (((BitVec.ofInt 32 _ &&& BitVec.ofInt 32 _).toNat : Nat) : Int)))) = _
  rw [ofInt_nat32, ofInt_nat32, wrap_u32x, if_neg (by simp)]
theorem shr4_32 (x : BitVec 32) : ((x.toNat : Int)).fdiv 16 = ((x >>> 4).toNat : Int) := by
  rw [Int.fdiv_eq_ediv_of_nonneg _ (by omega)]
  simp [Nat.shiftRight_eq_div_pow]
theorem not32 (x : BitVec 32) : unS .xor (.int .u32 (x.toNat : Int)) = some (.int .u32 ((~~~ x).toNat : Int)) := by
  have h : BitVec.ofInt 32 (if IntKind.u32.signed then -1 else IntKind.u32.max) = BitVec.allOnes 32 := by decide
  show some (Value.int .u32 (IntKind.u32.wrap (((BitVec.ofInt 32 (if IntKind.u32.signed then -1 else IntKind.u32.max) ^^^ BitVec.ofInt 32 _).toNat : Nat) : Int))) = _
  rw [ofInt_nat32, h, wrap_u32x, BitVec.allOnes_xor]
theorem notw (c : BitVec 32) : IntKind.u32.wrap ↑(((if IntKind.u32.signed = true then -1 else IntKind.u32.max) % 4294967296).toNat ^^^ c.toNat % 4294967296) = ((~~~ c).toNat : Int) := by
  have h : ((if IntKind.u32.signed = true then (-1 : Int) else IntKind.u32.max) % 4294967296).toNat = 4294967295 := by decide
  have hc := c.isLt
  rw [h, Nat.mod_eq_of_lt hc]
  have h2 : (4294967295 ^^^ c.toNat) = (~~~ c).toNat := by
    rw [← BitVec.allOnes_xor, BitVec.toNat_xor]
    rfl
  rw [h2, wrap_u32x]
theorem and15_lt (x : BitVec 32) : (x &&& 15#32).toNat < 16 := by
  rw [BitVec.toNat_and]
  have := @Nat.and_le_right x.toNat (15#32).toNat
  have h : (15#32).toNat = 15 := rfl
  omega
theorem nib_len : nibL.length = 16 := rfl
theorem nib_get (y : BitVec 32) (h : y.toNat < 16) : (scI .u32 nibL)[y.toNat]? = some (.sc (.int .u32 ((nibF y).toNat : Int))) := by
  unfold nibF
  generalize y.toNat = n at *
  match n, h with
  | 0, _ | 1, _ | 2, _ | 3, _ | 4, _ | 5, _ | 6, _ | 7, _ | 8, _ | 9, _ | 10, _ | 11, _ | 12, _ | 13, _ | 14, _ | 15, _ => rfl
  | n + 16, h => omega
def S17 (l : List UInt8) (a : Nat × BitVec 32) : St := { sl := [(0, bs l), (3, w32 a.2), (6, i64 l.length), (7, i64 a.1)], hp := [], nx := 0 }
theorem crcS_take (c : BitVec 32) (l : List UInt8) (i : Nat) (b : UInt8) (h : l[i]? = some b) : crcS c (l.take (i + 1)) = byS (crcS c (l.take i)) b := by
  rw [List.take_add_one, h]
  simp [crcS]
set_option maxHeartbeats 2000000 in
theorem run_crc (l : List UInt8) (hl : l.length ≤ 1000000) : (W e3 e4).run 17 [bs l] [] = some (i64 (crcG l).toNat, []) := by
  refine run_wp (by rw [W_T]; exact rfl) ?_
  simp -dsimp -implicitDefEqProofs (maxSteps := 1000000) (disch := omega) [condP_pos, condP_neg, optP_pos, decide_eq_true, decide_eq_false, wrap_i64, Int.natCast_inj]
  refine wp_inv (S17 l) (fun a => a.1 ≤ l.length ∧ a.2 = crcS 0xFFFFFFFF#32 (l.take a.1)) (fun a => l.length - a.1) (0, 0xFFFFFFFF#32) ⟨by simp, by simp [crcS]⟩ (by simp -dsimp -implicitDefEqProofs (maxSteps := 1000000) (disch := omega) [condP_pos, condP_neg, optP_pos, decide_eq_true, decide_eq_false, wrap_i64, Int.natCast_inj, S17]) ?_
  rintro ⟨i, c⟩ ⟨hi, hc⟩
  simp only at hi hc
  by_cases h : i < l.length
  · obtain ⟨b, hb⟩ : ∃ b, l[i] = b := ⟨_, rfl⟩
    have hb2 : l[i]? = some b := by rw [List.getElem?_eq_getElem h, hb]
    have hb' := b.toNat_lt
    have a1 := and15_lt (c ^^^ bb b)
    have a2 := and15_lt (tS (c ^^^ bb b))
    have g0 : (W e3 e4).G 0 = some (scI .u32 nibL) := rfl
    have u1 : ∀ x : BitVec 32, x >>> 4 ^^^ nibF (x &&& 15#32) = tS x := fun x => rfl
    simp -dsimp -implicitDefEqProofs (maxSteps := 1000000) (disch := omega) [condP_pos, condP_neg, optP_pos, decide_eq_true, decide_eq_false, wrap_i64, Int.natCast_inj, -BitVec.toNat_xor, -BitVec.toNat_and, -BitVec.toNat_or, -BitVec.toNat_not, -BitVec.toNat_ushiftRight, -BitVec.toNat_shiftLeft, -BitVec.toNat_mul, S17, h, hb, xor32b, and32, shr4_32, xor32, nib_get, nib_len, g0, wrap_u32, u1]
    refine again (i + 1, byS c b) ⟨by simp only; omega, by simp only; rw [crcS_take _ l i b hb2, hc]⟩ (by simp only; omega) (by simp -dsimp -implicitDefEqProofs (maxSteps := 1000000) (disch := omega) [condP_pos, condP_neg, optP_pos, decide_eq_true, decide_eq_false, wrap_i64, Int.natCast_inj, -BitVec.toNat_xor, -BitVec.toNat_and, -BitVec.toNat_or, -BitVec.toNat_not, -BitVec.toNat_ushiftRight, -BitVec.toNat_shiftLeft, -BitVec.toNat_mul, S17, byS])
  · have h1 := (~~~ c).isLt
    have h2 : crcG l = ~~~ c := by
      rw [hc, show i = l.length by omega, List.take_length, crcG]
    simp -dsimp -implicitDefEqProofs (maxSteps := 1000000) (disch := omega) [condP_pos, condP_neg, optP_pos, decide_eq_true, decide_eq_false, wrap_i64, Int.natCast_inj, S17, h, notw, h2]
end Go.Vai
