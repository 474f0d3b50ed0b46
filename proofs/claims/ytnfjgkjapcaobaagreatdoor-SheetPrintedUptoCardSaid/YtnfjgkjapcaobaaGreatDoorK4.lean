/-
  What functions of layer 9 and of its reference compute: equations of the abstract run, and plain laws of them.
-/
import Derived.Test.YtnfjgkjapcaobaaGreatDoorK0
set_option linter.unusedVariables false
set_option linter.unusedSimpArgs false
set_option linter.unnecessarySimpa false
set_option linter.unusedSectionVars false
namespace Go.Vai
variable {m : Int} {e3 e4 : Value}
abbrev u64 (n : Int) : AV := .fz (.sc (.int .u64 n))
theorem eB_mk (b : UInt8) : [FV.sc (.int .u8 (b.toNat : Int))] = eB b := rfl
theorem wrap_u64 {n : Int} (h0 : 0 ≤ n) (h1 : n < 18446744073709551616) : IntKind.u64.wrap n = n := by
 simp only [IntKind.wrap, IntKind.bits, IntKind.signed]
 simp
 omega
theorem wrap_u64m (z : Int) : IntKind.u64.wrap z = z % 18446744073709551616 := by
 simp [IntKind.wrap, IntKind.bits, IntKind.signed]
theorem parse_app (a b : List UInt8) : ∀ (acc v : Nat), Lib.parseUint10 acc a = .ok v → Lib.parseUint10 acc (a ++ b) = Lib.parseUint10 v b := by
 induction a with
 | nil =>
  intro acc v h
  simp only [Lib.parseUint10] at h
  injection h with h
  subst h
  rfl
 | cons c r ih =>
  intro acc v h
  simp only [Lib.parseUint10, List.cons_append] at h ⊢
  split at h
  ·split at h
   ·cases h
   ·split at h
    ·cases h
    ·rename_i h1 h2 h3
     rw [if_pos h1, if_neg h2, if_neg h3]
     exact ih _ _ h
  ·cases h
theorem parse_dig (acc k : Nat) (hk : k < 10) (h : acc * 10 + k < 18446744073709551616) : Lib.parseUint10 acc [UInt8.ofNat (48 + k)] = .ok (acc * 10 + k) := by
 have e : (UInt8.ofNat (48 + k)).toNat = 48 + k := by simp; omega
 simp only [Lib.parseUint10, e]
 rw [if_pos (by omega), if_neg (by omega), if_neg (by omega)]
 congr 1
 omega
theorem parse_dec : ∀ u : Nat, u < 18446744073709551616 → Lib.parseUint10 0 (Lib.decDigits u) = .ok u := by
 intro u
 induction u using Nat.strongRecOn with
 | ind u ih =>
  intro hu
  rw [Lib.decDigits]
  split
  ·rename_i h
   rw [parse_dig 0 u h (by omega)]
   congr 1
   omega
  ·rename_i h
   rw [parse_app _ _ 0 (u / 10) (ih _ (by omega) (by omega)), parse_dig _ _ (by omega) (by omega)]
   congr 1
   omega
theorem dec_len : ∀ (k u : Nat), u < 10 ^ (k + 1) → (Lib.decDigits u).length ≤ k + 1
 | 0, u, h => by
  rw [Lib.decDigits, dif_pos (by omega)]; simp
 | k + 1, u, h => by
  rw [Lib.decDigits]
  split
  ·simp
  ·have := dec_len k (u / 10) (by rw [Nat.pow_succ] at h; omega)
   simp
   omega
theorem dec_ne (u : Nat) : Lib.decDigits u ≠ [] := by
 rw [Lib.decDigits]
 split <;> simp
theorem dec_head (u : Nat) : ∀ c r, Lib.decDigits u = c :: r → 48 ≤ c.toNat ∧ c.toNat ≤ 57 := by
 induction u using Nat.strongRecOn with
 | ind u ih =>
  intro c r h
  rw [Lib.decDigits] at h
  split at h
  ·rename_i h1
   injection h with h h2
   rw [← h]
   simp
   omega
  ·rename_i h1
   cases hd : Lib.decDigits (u / 10) with
   | nil => exact absurd hd (dec_ne _)
   | cons c2 r2 =>
    rw [hd] at h
    injection h with h h2
    rw [← h]
    exact ih _ (by omega) c2 r2 hd
theorem atoi_itoa (n : Int) (h : inI n) : Lib.atoiAll (Lib.itoa n) = .ok n := by
 unfold Lib.itoa
 split
 ·rename_i h0
  have hp := parse_dec n.natAbs (by omega)
  have hm : Lib.parseMag (Lib.decDigits n.natAbs) = .ok n.natAbs := by
   unfold Lib.parseMag
   rw [if_neg (dec_ne _), hp]
  simp only [Lib.atoiAll]
  have e45 : (45 : UInt8).toNat = 45 := rfl
  rw [if_pos (.inr e45), hm]
  simp only [e45]
  rw [if_neg (by simp), if_neg (by simp; omega)]
  simp
  omega
 ·rename_i h0
  have hp := parse_dec n.toNat (by omega)
  have hm : Lib.parseMag (Lib.decDigits n.toNat) = .ok n.toNat := by
   unfold Lib.parseMag
   rw [if_neg (dec_ne _), hp]
  cases hd : Lib.decDigits n.toNat with
  | nil => exact absurd hd (dec_ne _)
  | cons c r =>
   have hh := dec_head _ c r hd
   rw [hd] at hm
   simp only [Lib.atoiAll]
   rw [if_neg (by omega), hm]
   simp only
   rw [if_neg (by omega), if_neg (by omega), if_neg (by omega)]
   congr 1
   omega
theorem parseG_itoa (n : Int) (h : inI n) : parseG (Lib.itoa n) = (n, true) := by
 unfold parseG
 rw [atoi_itoa n h]
 exact if_pos rfl
theorem parseG_cases (l : List UInt8) : (∃ v, parseG l = (v, true) ∧ Lib.itoa v = l ∧ inI v) ∨ (parseG l = (0, false) ∧ ¬ Lib.itoa 0 = l) := by
 have h0 : parseG l = (0, false) → ¬ Lib.itoa 0 = l := by
  intro h1 h
  rw [← h, parseG_itoa 0 (by decide)] at h1
  cases h1
 cases ha : Lib.atoiAll l with
 | ok v =>
  have hb := Lib.atoiAll_bounds ha
  by_cases h : Lib.itoa v = l
  ·exact .inl ⟨v, by unfold parseG; rw [ha]; exact if_pos h, h, hb.1, hb.2⟩
  ·have e : parseG l = (0, false) := by unfold parseG; rw [ha]; exact if_neg h
   exact .inr ⟨e, h0 e⟩
 | range =>
  have e : parseG l = (0, false) := by unfold parseG; rw [ha]
  exact .inr ⟨e, h0 e⟩
 | _ =>
  have e : parseG l = (0, false) := by unfold parseG; rw [ha]
  exact .inr ⟨e, h0 e⟩
def ddG (x : Nat) : List UInt8 := if x = 0 then [] else Lib.decDigits x
theorem ddG_step (x : Nat) (h : x ≠ 0) : ddG x = ddG (x / 10) ++ [UInt8.ofNat (48 + x % 10)] := by
 unfold ddG
 rw [if_neg h, Lib.decDigits]
 by_cases h1 : x < 10
 ·rw [dif_pos h1, if_pos (by omega), Nat.mod_eq_of_lt h1]; rfl
 ·rw [dif_neg h1, if_neg (by omega)]
def S34 (n : Int) (a : Nat × Option (List UInt8)) : St := { sl := [(0, i64 n), (3, u64 a.1), (4, match a.2 with | none => .emp | some l => .osl 0 1 0 l.length)], hp := match a.2 with | none => [] | some l => [(0, some (.arr 1 (l.map eB)))], nx := match a.2 with | none => 0 | some l => 1 }
set_option maxHeartbeats 2000000 in
theorem run_rnumber (n : Int) (h : inI n) : (W m e3 e4).run 27 [i64 n] [] = some (bs (Lib.itoa n), []) := by
 have hz : Lib.itoa 0 = [48] := by simp [Lib.itoa, Lib.decDigits]
 refine run_wp (by rw [W_T]; exact rfl) ?_
 by_cases h0 : n = 0
 ·subst h0
  rw [hz]
  simp -dsimp -implicitDefEqProofs (maxSteps := 1000000) (disch := omega) [ST, -BitVec.toNat_xor, -BitVec.toNat_and, -BitVec.toNat_or, -BitVec.toNat_not, -BitVec.toNat_ushiftRight, -BitVec.toNat_shiftLeft, -BitVec.toNat_mul, -UInt8.toNat_xor, -UInt8.toNat_and, -UInt8.toNat_or, -UInt8.toNat_shiftLeft, -UInt8.toNat_shiftRight]
 ·obtain ⟨u, hu⟩ : ∃ u, u = n.natAbs := ⟨_, rfl⟩
  have hu0 : u ≠ 0 := by omega
  have ei : Lib.itoa n = if n < 0 then 45 :: Lib.decDigits u else Lib.decDigits u := by
   unfold Lib.itoa
   rw [hu]
   split
   ·rfl
   ·congr 1; omega
  by_cases h1 : n < 0
  all_goals
   first
    | (have w1 : IntKind.u64.wrap n = n + 18446744073709551616 := by rw [wrap_u64m]; omega
       have w3 : IntKind.u64.wrap (-(n + 18446744073709551616)) = (u : Int) := by rw [wrap_u64m]; omega
       rw [if_pos h1] at ei
       rw [ei]
       simp -dsimp -implicitDefEqProofs (maxSteps := 1000000) (disch := omega) [ST, -BitVec.toNat_xor, -BitVec.toNat_and, -BitVec.toNat_or, -BitVec.toNat_not, -BitVec.toNat_ushiftRight, -BitVec.toNat_shiftLeft, -BitVec.toNat_mul, -UInt8.toNat_xor, -UInt8.toNat_and, -UInt8.toNat_or, -UInt8.toNat_shiftLeft, -UInt8.toNat_shiftRight, h0, h1, w1, w3])
    | (have w1 : IntKind.u64.wrap n = (u : Int) := by rw [wrap_u64m]; omega
       rw [if_neg h1] at ei
       rw [ei]
       simp -dsimp -implicitDefEqProofs (maxSteps := 1000000) (disch := omega) [ST, -BitVec.toNat_xor, -BitVec.toNat_and, -BitVec.toNat_or, -BitVec.toNat_not, -BitVec.toNat_ushiftRight, -BitVec.toNat_shiftLeft, -BitVec.toNat_mul, -UInt8.toNat_xor, -UInt8.toNat_and, -UInt8.toNat_or, -UInt8.toNat_shiftLeft, -UInt8.toNat_shiftRight, h0, h1, w1])
   refine wp_inv (S34 n) (fun a => a.1 ≤ u ∧ ddG a.1 ++ a.2.getD [] = Lib.decDigits u ∧ (a.2.getD []).length ≤ u - a.1) (fun a => a.1) (u, none) ⟨by simp, by simp [ddG, hu0], by simp⟩ (by simp -dsimp -implicitDefEqProofs (maxSteps := 1000000) (disch := omega) [ST, -BitVec.toNat_xor, -BitVec.toNat_and, -BitVec.toNat_or, -BitVec.toNat_not, -BitVec.toNat_ushiftRight, -BitVec.toNat_shiftLeft, -BitVec.toNat_mul, -UInt8.toNat_xor, -UInt8.toNat_and, -UInt8.toNat_or, -UInt8.toNat_shiftLeft, -UInt8.toNat_shiftRight, S34]) ?_
   rintro ⟨x, _ | l⟩ ⟨hx, hd, hl⟩
   ·simp only [Option.getD_none] at hx hd hl
    by_cases hx0 : x = 0
    ·subst hx0
     exact absurd hd.symm (dec_ne _)
    ·have hx1 : 0 < x := by omega
     have e : ((UInt8.ofNat (48 + x % 10)).toNat : Int) = 48 + (x : Int) % 10 := by simp; omega
     have st := ddG_step x hx0
     have tm : (x : Int).tmod 10 = (x : Int) % 10 := Int.tmod_eq_emod_of_nonneg (by omega)
     generalize UInt8.ofNat (48 + x % 10) = b at *
     simp -dsimp -implicitDefEqProofs (maxSteps := 1000000) (disch := omega) [ST, -BitVec.toNat_xor, -BitVec.toNat_and, -BitVec.toNat_or, -BitVec.toNat_not, -BitVec.toNat_ushiftRight, -BitVec.toNat_shiftLeft, -BitVec.toNat_mul, -UInt8.toNat_xor, -UInt8.toNat_and, -UInt8.toNat_or, -UInt8.toNat_shiftLeft, -UInt8.toNat_shiftRight, S34, hx0, hx1, tm, wrap_u64, wrap_u8, ← e, eB_mk]
     refine again (x / 10, some [b]) ⟨by simp only; omega, by simp only [Option.getD_some]; rw [← st, ← hd, List.append_nil], by simp; omega⟩ (by simp only; omega) (by simp -dsimp -implicitDefEqProofs (maxSteps := 1000000) (disch := omega) [ST, -BitVec.toNat_xor, -BitVec.toNat_and, -BitVec.toNat_or, -BitVec.toNat_not, -BitVec.toNat_ushiftRight, -BitVec.toNat_shiftLeft, -BitVec.toNat_mul, -UInt8.toNat_xor, -UInt8.toNat_and, -UInt8.toNat_or, -UInt8.toNat_shiftLeft, -UInt8.toNat_shiftRight, S34])
   ·simp only [Option.getD_some] at hx hd hl
    by_cases hx0 : x = 0
    ·subst hx0
     have hd : l = Lib.decDigits u := hd
     have hlen := dec_len 19 u (by omega)
     rw [← hd] at hlen
     rw [← hd]
     simp -dsimp -implicitDefEqProofs (maxSteps := 1000000) (disch := omega) [ST, -BitVec.toNat_xor, -BitVec.toNat_and, -BitVec.toNat_or, -BitVec.toNat_not, -BitVec.toNat_ushiftRight, -BitVec.toNat_shiftLeft, -BitVec.toNat_mul, -UInt8.toNat_xor, -UInt8.toNat_and, -UInt8.toNat_or, -UInt8.toNat_shiftLeft, -UInt8.toNat_shiftRight, S34, h1, show 1 + l.length ≤ 9223372036854775807 by omega]
    ·have hx1 : 0 < x := by omega
     have e : ((UInt8.ofNat (48 + x % 10)).toNat : Int) = 48 + (x : Int) % 10 := by simp; omega
     have st := ddG_step x hx0
     have tm : (x : Int).tmod 10 = (x : Int) % 10 := Int.tmod_eq_emod_of_nonneg (by omega)
     generalize UInt8.ofNat (48 + x % 10) = b at *
     have hlen := dec_len 19 u (by omega)
     rw [← hd, List.length_append] at hlen
     simp -dsimp -implicitDefEqProofs (maxSteps := 1000000) (disch := omega) [ST, -BitVec.toNat_xor, -BitVec.toNat_and, -BitVec.toNat_or, -BitVec.toNat_not, -BitVec.toNat_ushiftRight, -BitVec.toNat_shiftLeft, -BitVec.toNat_mul, -UInt8.toNat_xor, -UInt8.toNat_and, -UInt8.toNat_or, -UInt8.toNat_shiftLeft, -UInt8.toNat_shiftRight, S34, hx0, hx1, tm, wrap_u64, wrap_u8, ← e, eB_mk, show 1 + l.length ≤ 140737488355328 by omega]
     refine again (x / 10, some (b :: l)) ⟨by simp only; omega, by simp only [Option.getD_some]; rw [← hd, st, List.append_assoc]; rfl, by simp; omega⟩ (by simp only; omega) (by simp -dsimp -implicitDefEqProofs (maxSteps := 1000000) (disch := omega) [ST, -BitVec.toNat_xor, -BitVec.toNat_and, -BitVec.toNat_or, -BitVec.toNat_not, -BitVec.toNat_ushiftRight, -BitVec.toNat_shiftLeft, -BitVec.toNat_mul, -UInt8.toNat_xor, -UInt8.toNat_and, -UInt8.toNat_or, -UInt8.toNat_shiftLeft, -UInt8.toNat_shiftRight, S34, Nat.add_comm])
theorem itoa_len (v : Int) (h : inI v) : (Lib.itoa v).length ≤ 20 := by
 unfold Lib.itoa
 split
 ·have := dec_len 18 v.natAbs (by omega)
  simp; omega
 ·have := dec_len 18 v.toNat (by omega)
  omega
end Go.Vai
