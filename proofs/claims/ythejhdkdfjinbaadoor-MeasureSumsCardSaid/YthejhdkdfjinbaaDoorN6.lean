/-
  What functions of layer 1 and of its reference compute: equations of the abstract run, and plain laws of them.
-/
import Derived.Test.YthejhdkdfjinbaaDoorN3
set_option linter.unusedVariables false
set_option linter.unusedSimpArgs false
set_option linter.unnecessarySimpa false
set_option linter.unusedSectionVars false
namespace Go.Vai
variable {e3 e4 : Value}
/-! The law of bursts. -/
def ifb (b : Bool) : BitVec 32 := if b then 1#32 else 0#32
def reg (c : BitVec 32) (f : Nat → Bool) : Nat → BitVec 32
  | 0 => c
  | n + 1 => stB (reg c f n ^^^ ifb (f n))
def val (f : Nat → Bool) : Nat → BitVec 32
  | 0 => 0#32
  | k + 1 => val f k ^^^ (ifb (f k) <<< k)
theorem rB_zero : ∀ n, rB n 0#32 = 0#32
  | 0 => rfl
  | n + 1 => by simp only [rB]; rw [rB_zero n]; decide
theorem rB_one : (List.range 32).all (fun k => decide (rB k (1#32 <<< k) = 1#32)) = true := by kernel_rfl
theorem rB_ifb (b : Bool) (k : Nat) (h : k < 32) : rB k (ifb b <<< k) = ifb b := by
  cases b with
  | false =>
    have : (ifb false <<< k) = 0#32 := by
      show (0#32 <<< k) = 0#32
      simp
    rw [this, rB_zero]; rfl
  | true =>
    have := List.all_eq_true.1 rB_one k (List.mem_range.2 h)
    exact of_decide_eq_true this
theorem reg_add (c : BitVec 32) (f : Nat → Bool) (n : Nat) : ∀ k, k ≤ 32 → reg c f (n + k) = rB k (reg c f n ^^^ val (fun i => f (n + i)) k)
  | 0, _ => by simp [rB, val]
  | k + 1, h => by
    have e : reg c f (n + (k + 1)) = stB (reg c f (n + k) ^^^ ifb (f (n + k))) := rfl
    rw [e, reg_add c f n k (by omega)]
    have : ifb (f (n + k)) = rB k (ifb (f (n + k)) <<< k) := (rB_ifb _ k (by omega)).symm
    rw [this, ← rB_xor, BitVec.xor_assoc]
    rfl
theorem val_congr (f g : Nat → Bool) : ∀ k, (∀ i, i < k → f i = g i) → val f k = val g k
  | 0, _ => rfl
  | k + 1, h => by
    simp only [val]
    rw [val_congr f g k (fun i hi => h i (by omega)), h k (by omega)]
theorem reg_congr (c : BitVec 32) (f g : Nat → Bool) : ∀ k, (∀ i, i < k → f i = g i) → reg c f k = reg c g k
  | 0, _ => rfl
  | k + 1, h => by
    simp only [reg]
    rw [reg_congr c f g k (fun i hi => h i (by omega)), h k (by omega)]
theorem ifb_bit (b : Bool) (k i : Nat) (hi : i < 32) : (ifb b <<< k).getLsbD i = (decide (i = k) && b) := by
  rw [BitVec.getLsbD_shiftLeft]
  cases b with
  | false => simp [ifb]
  | true =>
    show (decide (i < 32) && !decide (i < k) && (1#32).getLsbD (i - k)) = _
    by_cases h : i < k
    · have : ¬ i = k := by omega
      simp [h, this]
    · by_cases h2 : i = k
      · subst h2; simp [hi]
      · have : ¬ i - k = 0 := by omega
        simp [h, h2, BitVec.getLsbD_one, this]
theorem val_bit (f : Nat → Bool) : ∀ (k i : Nat), k ≤ 32 → i < 32 → (val f k).getLsbD i = (decide (i < k) && f i)
  | 0, i, _, _ => by simp [val]
  | k + 1, i, h, hi => by
    simp only [val]
    rw [BitVec.getLsbD_xor, val_bit f k i (by omega) hi, ifb_bit _ _ _ hi]
    by_cases h1 : i < k
    · have : ¬ i = k := by omega
      have h2 : i < k + 1 := by omega
      simp [h1, this, h2]
    · by_cases h2 : i = k
      · subst h2; simp
      · have : ¬ i < k + 1 := by omega
        simp [h1, h2, this]
theorem stB_zero (z : BitVec 32) (h : stB z = 0#32) : z = 0#32 := by
  have b : ∀ i, (stB z).getLsbD i = false := fun i => by rw [h]; simp
  by_cases h1 : z &&& 1#32 = 1#32
  · exfalso
    have := b 31
    unfold stB at this
    rw [if_pos h1, BitVec.getLsbD_xor, BitVec.getLsbD_ushiftRight, BitVec.getLsbD_of_ge z _ (by omega)] at this
    revert this; decide
  · have e : stB z = z >>> 1 := if_neg h1
    have h0 : z &&& 1#32 = 0#32 := (and1_cases z).resolve_right h1
    apply BitVec.eq_of_getLsbD_eq
    intro i hi
    match i, hi with
    | 0, _ =>
      have := congrArg (fun y => BitVec.getLsbD y 0) h0
      simpa using this
    | i + 1, _ =>
      have := b i
      rw [e, BitVec.getLsbD_ushiftRight, Nat.add_comm] at this
      rw [this]; simp
theorem stB_inj (x y : BitVec 32) (h : stB x = stB y) : x = y := by
  have : stB (x ^^^ y) = 0#32 := by rw [stB_xor, h, BitVec.xor_self]
  exact BitVec.xor_eq_zero_iff.1 (stB_zero _ this)
theorem rB_inj : ∀ (n : Nat) (x y : BitVec 32), rB n x = rB n y → x = y
  | 0, _, _, h => h
  | n + 1, x, y, h => rB_inj n x y (stB_inj _ _ h)
theorem xor_cancel (c x y : BitVec 32) (h : c ^^^ x = c ^^^ y) : x = y := by
  have h2 := congrArg (fun z => c ^^^ z) h
  simp only [← BitVec.xor_assoc, BitVec.xor_self, BitVec.zero_xor] at h2
  exact h2
theorem xor_cancel_r (c x y : BitVec 32) (h : x ^^^ c = y ^^^ c) : x = y := by
  rw [BitVec.xor_comm x, BitVec.xor_comm y] at h
  exact xor_cancel c x y h
theorem reg_back (c : BitVec 32) (f g : Nat → Bool) (n : Nat) : ∀ k, (∀ i, n ≤ i → i < n + k → f i = g i) → reg c f (n + k) = reg c g (n + k) → reg c f n = reg c g n
  | 0, _, h => h
  | k + 1, hf, h => by
    have h2 : stB (reg c f (n + k) ^^^ ifb (f (n + k))) = stB (reg c g (n + k) ^^^ ifb (g (n + k))) := h
    rw [hf (n + k) (by omega) (by omega)] at h2
    exact reg_back c f g n k (fun i h1 h2 => hf i h1 (by omega)) (xor_cancel_r _ _ _ (stB_inj _ _ h2))
theorem burst (c : BitVec 32) (f g : Nat → Bool) (at_ N : Nat) (h : ∀ i, i < N → (i < at_ ∨ at_ + 32 ≤ i) → f i = g i) (hr : reg c f N = reg c g N) : ∀ i, i < N → f i = g i := by
  intro i hi
  by_cases hN : N ≤ at_
  · exact h i hi (.inl (by omega))
  · obtain ⟨K, hK⟩ : ∃ K, K = min 32 (N - at_) := ⟨_, rfl⟩
    have e : N = (at_ + K) + (N - at_ - K) := by omega
    rw [e] at hr
    have h1 := reg_back c f g (at_ + K) (N - at_ - K) (fun j a b => h j (by omega) (.inr (by omega))) hr
    rw [reg_add c f at_ K (by omega), reg_add c g at_ K (by omega), reg_congr c f g at_ (fun j a => h j (by omega) (.inl a))] at h1
    have h2 := xor_cancel _ _ _ (rB_inj _ _ _ h1)
    by_cases o : i < at_ ∨ at_ + 32 ≤ i
    · exact h i hi o
    · have b : (val (fun i => f (at_ + i)) K).getLsbD (i - at_) = (val (fun i => g (at_ + i)) K).getLsbD (i - at_) := congrArg (fun z => BitVec.getLsbD z (i - at_)) h2
      rw [val_bit _ _ _ (by omega) (by omega), val_bit _ _ _ (by omega) (by omega), show at_ + (i - at_) = i by omega] at b
      have : i - at_ < K := by omega
      simpa [this] using b
/-! Bits of a text. -/
def bitL (x : List UInt8) (i : Nat) : Bool := ((x[i / 8]?).getD 0).toNat.testBit (i % 8)
theorem val8 : (List.range 256).all (fun n => decide (val (fun i => n.testBit i) 8 = BitVec.ofNat 32 n)) = true := by kernel_rfl
theorem val_bb (b : UInt8) : val (fun i => b.toNat.testBit i) 8 = bb b :=
  of_decide_eq_true (List.all_eq_true.1 val8 b.toNat (List.mem_range.2 b.toNat_lt))
theorem crcS_reg (c : BitVec 32) (l : List UInt8) : ∀ n, n ≤ l.length → crcS c (l.take n) = reg c (bitL l) (8 * n)
  | 0, _ => by simp [crcS, reg]
  | n + 1, h => by
    have hb : l[n]? = some l[n] := List.getElem?_eq_getElem (by omega)
    rw [crcS_take c l n _ hb, crcS_reg c l n (by omega), byS_r, rbyS, show 8 * (n + 1) = 8 * n + 8 by omega, reg_add _ _ _ 8 (by omega), ← val_bb]
    congr 2
    apply val_congr
    intro i hi
    unfold bitL
    rw [show (8 * n + i) / 8 = n by omega, show (8 * n + i) % 8 = i by omega, hb]
    rfl
theorem crc_reg (l : List UInt8) : crcG l = ~~~ reg 0xFFFFFFFF#32 (bitL l) (8 * l.length) := by
  rw [← crcS_reg _ _ _ (Nat.le_refl _), List.take_length]; rfl
theorem bits_eq (a b : UInt8) (h : ∀ i, i < 8 → a.toNat.testBit i = b.toNat.testBit i) : a = b := by
  apply UInt8.toNat_inj.1
  apply Nat.eq_of_testBit_eq
  intro i
  by_cases hi : i < 8
  · exact h i hi
  · have h2 : (256 : Nat) ≤ 2 ^ i := Nat.le_trans (by decide) (Nat.pow_le_pow_right (by omega) (show 8 ≤ i by omega))
    rw [Nat.testBit_lt_two_pow (Nat.lt_of_lt_of_le a.toNat_lt h2), Nat.testBit_lt_two_pow (Nat.lt_of_lt_of_le b.toNat_lt h2)]
theorem texts_eq (l x : List UInt8) (hl : x.length = l.length) (h : ∀ i, i < 8 * l.length → bitL l i = bitL x i) : l = x := by
  apply List.ext_getElem hl.symm
  intro n h1 h2
  apply bits_eq
  intro i hi
  have := h (8 * n + i) (by omega)
  unfold bitL at this
  rw [show (8 * n + i) / 8 = n by omega, show (8 * n + i) % 8 = i by omega, List.getElem?_eq_getElem h1, List.getElem?_eq_getElem h2] at this
  exact this
theorem burst_crc (l x : List UInt8) (at_ : Nat) (hl : x.length = l.length) (h : ∀ i, i < 8 * l.length → (i < at_ ∨ at_ + 32 ≤ i) → bitL l i = bitL x i) (hc : crcG l = crcG x) : l = x := by
  rw [crc_reg, crc_reg, hl] at hc
  have hc2 : reg 0xFFFFFFFF#32 (bitL l) (8 * l.length) = reg 0xFFFFFFFF#32 (bitL x) (8 * l.length) := by
    have := congrArg (fun z => ~~~ z) hc
    simpa using this
  exact texts_eq l x hl (burst _ _ _ at_ _ h hc2)
end Go.Vai
