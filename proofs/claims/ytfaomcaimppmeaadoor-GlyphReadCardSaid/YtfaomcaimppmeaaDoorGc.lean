/-
  What functions of layer 5 and of its reference compute: equations of the abstract run.
-/
import Derived.Test.YtfaomcaimppmeaaDoorGa
set_option linter.unusedVariables false
set_option linter.unusedSimpArgs false
set_option linter.unnecessarySimpa false
set_option linter.unusedSectionVars false
namespace Go.Vai
variable {v : Env} (hv : v.T = Tt)
def spans : List (Int × Int) := [(0, 31), (127, 159), (173, 173), (847, 847), (1564, 1564), (6158, 6158), (8203, 8207), (8234, 8238), (8288, 8303), (65024, 65039), (65279, 65279), (917504, 921599)]
def inSpan (x : Int) (p : Int × Int) : Bool := decide (p.1 ≤ x) && decide (x ≤ p.2)
def hidG (x : Int) : Bool := spans.any (inSpan x)
include hv
theorem run_within (r a b : Int) : v.run 56 [i64 r, i64 a, i64 b] [] = some (bo (decide (a ≤ r) && decide (r ≤ b)), []) := by
  refine run_wp (by rw [hv]; exact rfl) ?_
  by_cases h1 : a ≤ r <;> by_cases h2 : r ≤ b <;> simp -dsimp -implicitDefEqProofs (maxSteps := 1000000) (disch := omega) [condP_pos, condP_neg, optP_pos, decide_eq_true, decide_eq_false, wrap_i64, Int.natCast_inj, h1, h2]
def S54 (x : Int) (i : Nat) : St := { sl := [(0, i32 x), (17, .agg (spans.flatMap fun p => [i32 p.1, i32 p.2])), (18, i64 i)], hp := [], nx := 0 }
set_option maxHeartbeats 2000000 in
theorem run_hidden (x : Int) : v.run 54 [i32 x] [] = some (bo (hidG x), []) := by
  refine run_wp (by rw [hv]; exact rfl) ?_
  simp -dsimp -implicitDefEqProofs (maxSteps := 1000000) (disch := omega) [condP_pos, condP_neg, optP_pos, decide_eq_true, decide_eq_false, wrap_i64, Int.natCast_inj]
  refine wp_inv (S54 x) (fun i => i ≤ 12 ∧ hidG x = (spans.drop i).any (inSpan x)) (fun i => 12 - i) 0 (by simp [hidG]) (by simp -dsimp -implicitDefEqProofs (maxSteps := 1000000) (disch := omega) [condP_pos, condP_neg, optP_pos, decide_eq_true, decide_eq_false, wrap_i64, Int.natCast_inj, S54, spans]) ?_
  rintro i ⟨hi, hh⟩
  have hc : i = 0 ∨ i = 1 ∨ i = 2 ∨ i = 3 ∨ i = 4 ∨ i = 5 ∨ i = 6 ∨ i = 7 ∨ i = 8 ∨ i = 9 ∨ i = 10 ∨ i = 11 ∨ i = 12 := by omega
  have nxt : ∀ k : Nat, k < 12 → hidG x = (spans.drop k).any (inSpan x) → ∀ p, spans[k]? = some p → (p.1 ≤ x ∧ x ≤ p.2 ∧ hidG x = true) ∨ (p.1 ≤ x ∧ ¬ x ≤ p.2 ∧ hidG x = (spans.drop (k + 1)).any (inSpan x)) ∨ (¬ p.1 ≤ x ∧ hidG x = (spans.drop (k + 1)).any (inSpan x)) := by
    intro k hk he p hp
    obtain ⟨hk', hp'⟩ := List.getElem?_eq_some_iff.1 hp
    rw [List.drop_eq_getElem_cons hk', List.any_cons, hp'] at he
    by_cases a : p.1 ≤ x
    · by_cases b : x ≤ p.2
      · exact .inl ⟨a, b, by rw [he]; simp [inSpan, a, b]⟩
      · exact .inr (.inl ⟨a, b, by rw [he]; simp [inSpan, a, b]⟩)
    · exact .inr (.inr ⟨a, by rw [he]; simp [inSpan, a]⟩)
  rcases hc with rfl | rfl | rfl | rfl | rfl | rfl | rfl | rfl | rfl | rfl | rfl | rfl | rfl
  case inr.inr.inr.inr.inr.inr.inr.inr.inr.inr.inr.inr =>
    have : spans.drop 12 = [] := rfl
    rw [this] at hh
    simp at hh
    simp -dsimp -implicitDefEqProofs (maxSteps := 1000000) (disch := omega) [condP_pos, condP_neg, optP_pos, decide_eq_true, decide_eq_false, wrap_i64, Int.natCast_inj, S54, hh, spans]
  all_goals
    rcases nxt _ (by omega) hh _ rfl with ⟨h1, h2, hn⟩ | ⟨h1, h2, hn⟩ | ⟨h1, hn⟩
    · simp only at h1 h2
      simp -dsimp -implicitDefEqProofs (maxSteps := 1000000) (disch := omega) [condP_pos, condP_neg, optP_pos, decide_eq_true, decide_eq_false, wrap_i64, Int.natCast_inj, S54, spans, h1, h2, hn]
    · simp only at h1 h2
      simp -dsimp -implicitDefEqProofs (maxSteps := 1000000) (disch := omega) [condP_pos, condP_neg, optP_pos, decide_eq_true, decide_eq_false, wrap_i64, Int.natCast_inj, S54, spans, h1, h2]
      refine again _ ⟨?_, hn⟩ ?_ ?_
      · omega
      · first | omega | (simp only; omega) | decide
      · simp -dsimp -implicitDefEqProofs (maxSteps := 1000000) (disch := omega) [condP_pos, condP_neg, optP_pos, decide_eq_true, decide_eq_false, wrap_i64, Int.natCast_inj, S54, spans]
    · simp only at h1
      simp -dsimp -implicitDefEqProofs (maxSteps := 1000000) (disch := omega) [condP_pos, condP_neg, optP_pos, decide_eq_true, decide_eq_false, wrap_i64, Int.natCast_inj, S54, spans, h1]
      refine again _ ⟨?_, hn⟩ ?_ ?_
      · omega
      · first | omega | (simp only; omega) | decide
      · simp -dsimp -implicitDefEqProofs (maxSteps := 1000000) (disch := omega) [condP_pos, condP_neg, optP_pos, decide_eq_true, decide_eq_false, wrap_i64, Int.natCast_inj, S54, spans]
end Go.Vai

set_option linter.unusedVariables false
set_option linter.unusedSimpArgs false
set_option linter.unnecessarySimpa false
set_option linter.unusedSectionVars false
namespace Go.Vai
theorem ofInt_toNat (w : Nat) (a : Int) (h0 : 0 ≤ a) (h1 : a < 2 ^ w) : (BitVec.ofInt w a).toNat = a.toNat := by
  rw [BitVec.toNat_ofInt]
  congr 1
  exact Int.emod_eq_of_lt h0 (by simpa using h1)
theorem and_mask (w n : Nat) (a m : Int) (hm : m = 2 ^ n - 1) (h0 : 0 ≤ a) (h1 : a < 2 ^ w) (h2 : m < 2 ^ w) : (((BitVec.ofInt w a &&& BitVec.ofInt w m).toNat : Nat) : Int) = a % 2 ^ n := by
  have hm0 : 0 ≤ m := by rw [hm]; have : (0 : Int) < 2 ^ n := Int.pow_pos (by omega); omega
  rw [BitVec.toNat_and, ofInt_toNat w a h0 h1, ofInt_toNat w m hm0 h2]
  have : m.toNat = 2 ^ n - 1 := by
    rw [hm]
    have h3 : ((2 : Int) ^ n) = ((2 ^ n : Nat) : Int) := by simp
    rw [h3]; omega
  rw [this, Nat.and_two_pow_sub_one_eq_mod]
  obtain ⟨k, rfl⟩ := Int.eq_ofNat_of_zero_le h0
  simp
theorem or_add (w n : Nat) (a b : Int) (h0 : 0 ≤ a) (h1 : a < 2 ^ w) (hd : a % 2 ^ n = 0) (hb0 : 0 ≤ b) (hb : b < 2 ^ n) (hb2 : b < 2 ^ w) : (((BitVec.ofInt w a ||| BitVec.ofInt w b).toNat : Nat) : Int) = a + b := by
  rw [BitVec.toNat_or, ofInt_toNat w a h0 h1, ofInt_toNat w b hb0 hb2]
  obtain ⟨x, rfl⟩ := Int.eq_ofNat_of_zero_le h0
  obtain ⟨y, rfl⟩ := Int.eq_ofNat_of_zero_le hb0
  have h4 : ((2 : Int) ^ n) = ((2 ^ n : Nat) : Int) := by simp
  rw [h4] at hd hb
  have hq : x = 2 ^ n * (x / 2 ^ n) := by
    have h5 : ((x % 2 ^ n : Nat) : Int) = 0 := by rw [← hd]; simp
    have h6 : x % 2 ^ n = 0 := by omega
    have := Nat.div_add_mod x (2 ^ n)
    omega
  have hb' : y < 2 ^ n := by omega
  simp only [Int.toNat_natCast]
  rw [hq, ← Nat.two_pow_add_eq_or_of_lt hb', ← hq]
  simp
theorem and63 {a : Int} (h0 : 0 ≤ a) (h1 : a < 256) : binS .and (.int .u8 a) (.int .u8 63) = some (.int .u8 (a % 64)) := by
  simp only [binS]
  rw [and_mask _ 6 a 63 rfl h0 (by simpa [IntKind.bits] using h1) (by simp [IntKind.bits])]
  rw [wrap_u8 (by omega) (by omega)]
  simp
theorem and31 {a : Int} (h0 : 0 ≤ a) (h1 : a < 256) : binS .and (.int .u8 a) (.int .u8 31) = some (.int .u8 (a % 32)) := by
  simp only [binS]
  rw [and_mask _ 5 a 31 rfl h0 (by simpa [IntKind.bits] using h1) (by simp [IntKind.bits])]
  rw [wrap_u8 (by omega) (by omega)]
  simp
theorem and15 {a : Int} (h0 : 0 ≤ a) (h1 : a < 256) : binS .and (.int .u8 a) (.int .u8 15) = some (.int .u8 (a % 16)) := by
  simp only [binS]
  rw [and_mask _ 4 a 15 rfl h0 (by simpa [IntKind.bits] using h1) (by simp [IntKind.bits])]
  rw [wrap_u8 (by omega) (by omega)]
  simp
theorem and7 {a : Int} (h0 : 0 ≤ a) (h1 : a < 256) : binS .and (.int .u8 a) (.int .u8 7) = some (.int .u8 (a % 8)) := by
  simp only [binS]
  rw [and_mask _ 3 a 7 rfl h0 (by simpa [IntKind.bits] using h1) (by simp [IntKind.bits])]
  rw [wrap_u8 (by omega) (by omega)]
  simp
theorem or32_6 {a b : Int} (h0 : 0 ≤ a) (h1 : a < 2147483584) (hd : a % 64 = 0) (hb0 : 0 ≤ b) (hb : b < 64) : binS .or (.int .i32 a) (.int .i32 b) = some (.int .i32 (a + b)) := by
  simp only [binS]
  rw [or_add _ 6 a b h0 (by simp [IntKind.bits]; omega) hd hb0 hb (by simp [IntKind.bits]; omega), wrap_i32 (by omega) (by omega)]
  simp
theorem or32_12 {a b : Int} (h0 : 0 ≤ a) (h1 : a < 2147479552) (hd : a % 4096 = 0) (hb0 : 0 ≤ b) (hb : b < 4096) : binS .or (.int .i32 a) (.int .i32 b) = some (.int .i32 (a + b)) := by
  simp only [binS]
  rw [or_add _ 12 a b h0 (by simp [IntKind.bits]; omega) hd hb0 hb (by simp [IntKind.bits]; omega), wrap_i32 (by omega) (by omega)]
  simp
theorem or32_18 {a b : Int} (h0 : 0 ≤ a) (h1 : a < 2147221504) (hd : a % 262144 = 0) (hb0 : 0 ≤ b) (hb : b < 262144) : binS .or (.int .i32 a) (.int .i32 b) = some (.int .i32 (a + b)) := by
  simp only [binS]
  rw [or_add _ 18 a b h0 (by simp [IntKind.bits]; omega) hd hb0 hb (by simp [IntKind.bits]; omega), wrap_i32 (by omega) (by omega)]
  simp
theorem or64_6 {a b : Int} (h0 : 0 ≤ a) (h1 : a < 2147483584) (hd : a % 64 = 0) (hb0 : 0 ≤ b) (hb : b < 64) : binS .or (.int .i64 a) (.int .i64 b) = some (.int .i64 (a + b)) := by
  simp only [binS]
  rw [or_add _ 6 a b h0 (by simp [IntKind.bits]; omega) hd hb0 hb (by simp [IntKind.bits]; omega), wrap_i64 (by omega) (by omega)]
  simp
theorem or64_12 {a b : Int} (h0 : 0 ≤ a) (h1 : a < 2147479552) (hd : a % 4096 = 0) (hb0 : 0 ≤ b) (hb : b < 4096) : binS .or (.int .i64 a) (.int .i64 b) = some (.int .i64 (a + b)) := by
  simp only [binS]
  rw [or_add _ 12 a b h0 (by simp [IntKind.bits]; omega) hd hb0 hb (by simp [IntKind.bits]; omega), wrap_i64 (by omega) (by omega)]
  simp
theorem or64_18 {a b : Int} (h0 : 0 ≤ a) (h1 : a < 2147221504) (hd : a % 262144 = 0) (hb0 : 0 ≤ b) (hb : b < 262144) : binS .or (.int .i64 a) (.int .i64 b) = some (.int .i64 (a + b)) := by
  simp only [binS]
  rw [or_add _ 18 a b h0 (by simp [IntKind.bits]; omega) hd hb0 hb (by simp [IntKind.bits]; omega), wrap_i64 (by omega) (by omega)]
  simp
theorem sh1 : binS .shl (.int .i32 241) (.int .u64 31) = some (.int .i32 (-2147483648)) := by rfl
theorem sh2 : binS .shr (.int .i32 (-2147483648)) (.int .u64 31) = some (.int .i32 (-1)) := by rfl
theorem sh3 (c : Int) : binS .andNot (.int .i32 c) (.int .i32 (-1)) = some (.int .i32 0) := by
  have h : ∀ x : BitVec 32, x &&& ~~~ (BitVec.ofInt 32 (-1)) = 0#32 := by
    intro x
    have h1 : ~~~ (BitVec.ofInt 32 (-1)) = 0#32 := by decide
    rw [h1, BitVec.and_zero]
  have h2 : (BitVec.ofInt IntKind.i32.bits c &&& ~~~ (BitVec.ofInt IntKind.i32.bits (-1))) = 0#32 := h _
  simp only [binS, h2]
  rfl
theorem sh4 : binS .and (.int .i32 65533) (.int .i32 (-1)) = some (.int .i32 65533) := by rfl
theorem sh5 : binS .or (.int .i32 0) (.int .i32 65533) = some (.int .i32 65533) := by rfl
def tlB (b : UInt8) : Bool := decide (128 ≤ b.toNat) && decide (b.toNat < 192)
def decG : List UInt8 → Int × Nat
  | [] => (65533, 0)
  | a :: r => if a.toNat < 128 then (a.toNat, 1) else match r with
    | [] => (65533, 1)
    | b :: r2 => if 194 ≤ a.toNat ∧ a.toNat < 224 ∧ 128 ≤ b.toNat ∧ b.toNat < 192 then (((a.toNat : Int) - 192) * 64 + ((b.toNat : Int) - 128), 2) else match r2 with
      | [] => (65533, 1)
      | c :: r3 => if 224 ≤ a.toNat ∧ a.toNat < 240 ∧ 128 ≤ b.toNat ∧ b.toNat < 192 ∧ 128 ≤ c.toNat ∧ c.toNat < 192 ∧ 2048 ≤ ((a.toNat : Int) - 224) * 4096 + ((b.toNat : Int) - 128) * 64 + ((c.toNat : Int) - 128) ∧
            ¬ (55296 ≤ ((a.toNat : Int) - 224) * 4096 + ((b.toNat : Int) - 128) * 64 + ((c.toNat : Int) - 128) ∧ ((a.toNat : Int) - 224) * 4096 + ((b.toNat : Int) - 128) * 64 + ((c.toNat : Int) - 128) ≤ 57343)
          then (((a.toNat : Int) - 224) * 4096 + ((b.toNat : Int) - 128) * 64 + ((c.toNat : Int) - 128), 3) else match r3 with
        | [] => (65533, 1)
        | d :: _ => if 240 ≤ a.toNat ∧ a.toNat < 245 ∧ 128 ≤ b.toNat ∧ b.toNat < 192 ∧ 128 ≤ c.toNat ∧ c.toNat < 192 ∧ 128 ≤ d.toNat ∧ d.toNat < 192 ∧
              65536 ≤ ((a.toNat : Int) - 240) * 262144 + ((b.toNat : Int) - 128) * 4096 + ((c.toNat : Int) - 128) * 64 + ((d.toNat : Int) - 128) ∧ ((a.toNat : Int) - 240) * 262144 + ((b.toNat : Int) - 128) * 4096 + ((c.toNat : Int) - 128) * 64 + ((d.toNat : Int) - 128) ≤ 1114111
            then (((a.toNat : Int) - 240) * 262144 + ((b.toNat : Int) - 128) * 4096 + ((c.toNat : Int) - 128) * 64 + ((d.toNat : Int) - 128), 4) else (65533, 1)
def firstF (n : Nat) : Int := if n < 128 then 240 else if n < 194 then 241 else if n < 224 then 2 else if n = 224 then 19 else if n < 237 then 3 else if n = 237 then 35 else if n < 240 then 3 else if n = 240 then 52 else if n < 244 then 4 else if n = 244 then 68 else 241
def gFirst : List FV := (List.range 256).map fun n => .sc (.int .u8 (firstF n))
def gAcc : List FV := [.sc (.int .u8 128), .sc (.int .u8 191), .sc (.int .u8 160), .sc (.int .u8 191), .sc (.int .u8 128), .sc (.int .u8 159), .sc (.int .u8 144), .sc (.int .u8 191), .sc (.int .u8 128), .sc (.int .u8 143)] ++ List.replicate 22 (.sc (.int .u8 0))
theorem gFirst_get (n : Nat) (h : n < 256) : gFirst[n]? = some (.sc (.int .u8 (firstF n))) := by
  simp [gFirst, h]
theorem u8_lt (b : UInt8) : b.toNat < 256 := b.toNat_lt
variable {v : Env} (hv : v.T = Tt)
include hv
theorem run_tail (l : List UInt8) (n : Nat) (hn : n < 1000000000) : v.run 82 [bs l, i64 n] [] = some (bo (match l[n]? with
    | some b => tlB b
    | none => false), []) := by
  refine run_wp (by rw [hv]; exact rfl) ?_
  by_cases h : n < l.length
  · obtain ⟨b, hb⟩ : ∃ b, l[n] = b := ⟨_, rfl⟩
    by_cases h1 : 128 ≤ b.toNat <;> by_cases h2 : b.toNat < 192 <;> simp -dsimp -implicitDefEqProofs (maxSteps := 1000000) (disch := omega) [condP_pos, condP_neg, optP_pos, decide_eq_true, decide_eq_false, wrap_i64, Int.natCast_inj, h, hb, h1, h2, tlB]
  · have hg : l[n]? = none := List.getElem?_eq_none (by omega)
    simp -dsimp -implicitDefEqProofs (maxSteps := 1000000) (disch := omega) [condP_pos, condP_neg, optP_pos, decide_eq_true, decide_eq_false, wrap_i64, Int.natCast_inj, h, hg]
end Go.Vai
