/-
  What functions of layer 9 and of its reference compute: equations of the abstract run, and plain laws of them.
-/
import Derived.Lib.AtoiAllCases
import Derived.Test.YthaaafdiilahjaaGreatDoorBKA
set_option linter.unusedVariables false
set_option linter.unusedSimpArgs false
set_option linter.unnecessarySimpa false
set_option linter.unusedSectionVars false
namespace Go.Vai
variable {m : Int} {e3 e4 : Value}
theorem W_T : (W m e3 e4).T = Tz := rfl
abbrev inI (n : Int) : Prop := -9223372036854775808 ≤ n ∧ n ≤ 9223372036854775807
theorem run_E {f : FuncId} {xs : List AV} {bl : List (Option Blk)} {r : AV × List (Option Blk)} (hT : Tz f = none) (h : Ez f xs bl = some r) : (W m e3 e4).run f xs bl = some r := by
 rw [Env.run_some]
 refine ⟨1, ?_⟩
 have h1 : (W m e3 e4).T f = none := hT
 unfold runN
 rw [h1]
 exact h
theorem run_itoa (n : Int) (h : inI n) : (W m e3 e4).run 66 [i64 n] [] = some (bs (Lib.itoa n), []) := by
 refine run_E rfl ?_
 simp only [Ez, E0]
 rw [if_pos h, itoaC_eq n h]
theorem run_number (n : Int) (h : inI n) : (W m e3 e4).run 34 [i64 n] [] = some (bs (Lib.itoa n), []) := by
 refine run_wp (by rw [W_T]; exact rfl) ?_
 simp -dsimp -implicitDefEqProofs (maxSteps := 1000000) (disch := omega) [ST, run_itoa n h]
end Go.Vai
namespace Go.Vai
variable {m : Int} {e3 e4 : Value}
def plB (r c : Int) : Bool := decide (1 ≤ r) && decide (r ≤ 99) && (decide (1 ≤ c) && decide (c ≤ 26))
abbrev pl (r c : Int) : AV := .agg [i64 r, i64 c]
theorem run_isPlace (r c : Int) : (W m e3 e4).run 27 [pl r c] [] = some (bo (plB r c), []) := by
 refine run_wp (by rw [W_T]; exact rfl) ?_
 unfold plB
 by_cases h1 : 1 ≤ r <;> by_cases h2 : r ≤ 99 <;> by_cases h3 : 1 ≤ c <;> by_cases h4 : c ≤ 26 <;> simp -dsimp -implicitDefEqProofs (maxSteps := 1000000) (disch := omega) [ST, h1, h2, h3, h4]
inductive Tok where
 | sign (t : List UInt8)
 | num (n : Int)
 | txt (t : List UInt8)
 | plc (r c : Int)
 | name (t : List UInt8)
 deriving DecidableEq
abbrev tok5 (k : Int) (t : List UInt8) (n r c : Int) : List FV := [.sc (.int .i64 k), .sc (.string (mkB t)), .sc (.int .i64 n), .sc (.int .i64 r), .sc (.int .i64 c)]
def eTok : Tok → List FV
 | .sign t => tok5 0 t 0 0 0
 | .num n => tok5 1 [] n 0 0
 | .txt t => tok5 2 t 0 0 0
 | .plc r c => tok5 3 [] 0 r c
 | .name t => tok5 6 t 0 0 0
end Go.Vai
namespace Go.Vai
variable {m : Int} {e3 e4 : Value}
end Go.Vai
namespace Go.Vai
variable {m : Int} {e3 e4 : Value}
@[simp] theorem eTok_len (t : Tok) : (eTok t).length = 5 := by cases t <;> rfl
end Go.Vai
namespace Go.Vai
variable {m : Int} {e3 e4 : Value}
abbrev u64 (n : Int) : AV := .fz (.sc (.int .u64 n))
theorem eB_mk (b : UInt8) : [FV.sc (.int .u8 (b.toNat : Int))] = eB b := rfl
theorem wrap_u64 {n : Int} (h0 : 0 ≤ n) (h1 : n < 18446744073709551616) : IntKind.u64.wrap n = n := by
 simp only [IntKind.wrap, IntKind.bits, IntKind.signed]
 simp
 omega
theorem wrap_u64m (z : Int) : IntKind.u64.wrap z = z % 18446744073709551616 := by
 simp [IntKind.wrap, IntKind.bits, IntKind.signed]
theorem dec_len : ∀ (k u : Nat), u < 10 ^ (k + 1) → (Lib.decDigits u).length ≤ k + 1
 | 0, u, h => by
  rw [Lib.decDigits, dif_pos (by omega)]; simp
 | k + 1, u, h => by
  rw [Lib.decDigits]
  split
  ·simp
  ·have := dec_len k (u / 10) (by rw [Nat.pow_succ] at h; omega)
   simp
   omega
theorem dec_ne (u : Nat) : Lib.decDigits u ≠ [] := by
 rw [Lib.decDigits]
 split <;> simp
def ddG (x : Nat) : List UInt8 := if x = 0 then [] else Lib.decDigits x
theorem ddG_step (x : Nat) (h : x ≠ 0) : ddG x = ddG (x / 10) ++ [UInt8.ofNat (48 + x % 10)] := by
 unfold ddG
 rw [if_neg h, Lib.decDigits]
 by_cases h1 : x < 10
 ·rw [dif_pos h1, if_pos (by omega), Nat.mod_eq_of_lt h1]; rfl
 ·rw [dif_neg h1, if_neg (by omega)]
def S34 (n : Int) (a : Nat × Option (List UInt8)) : St := { sl := [(0, i64 n), (3, u64 a.1), (4, match a.2 with | none => .emp | some l => .osl 0 1 0 l.length)], hp := match a.2 with | none => [] | some l => [(0, some (.arr 1 (l.map eB)))], nx := match a.2 with | none => 0 | some l => 1 }
set_option maxHeartbeats 2000000 in
theorem run_rnumber (n : Int) (h : inI n) : (W m e3 e4).run 40 [i64 n] [] = some (bs (Lib.itoa n), []) := by
 have hz : Lib.itoa 0 = [48] := by simp [Lib.itoa, Lib.decDigits]
 refine run_wp (by rw [W_T]; exact rfl) ?_
 by_cases h0 : n = 0
 ·subst h0
  rw [hz]
  simp -dsimp -implicitDefEqProofs (maxSteps := 1000000) (disch := omega) [ST, -BitVec.toNat_xor, -BitVec.toNat_and, -BitVec.toNat_or, -BitVec.toNat_not, -BitVec.toNat_ushiftRight, -BitVec.toNat_shiftLeft, -BitVec.toNat_mul, -UInt8.toNat_xor, -UInt8.toNat_and, -UInt8.toNat_or, -UInt8.toNat_shiftLeft, -UInt8.toNat_shiftRight]
 ·obtain ⟨u, hu⟩ : ∃ u, u = n.natAbs := ⟨_, rfl⟩
  have hu0 : u ≠ 0 := by omega
  have ei : Lib.itoa n = if n < 0 then 45 :: Lib.decDigits u else Lib.decDigits u := by
   unfold Lib.itoa
   rw [hu]
   split
   ·rfl
   ·congr 1; omega
  by_cases h1 : n < 0
  all_goals
   first
    | (have w1 : IntKind.u64.wrap n = n + 18446744073709551616 := by rw [wrap_u64m]; omega
       have w3 : IntKind.u64.wrap (-(n + 18446744073709551616)) = (u : Int) := by rw [wrap_u64m]; omega
       rw [if_pos h1] at ei
       rw [ei]
       simp -dsimp -implicitDefEqProofs (maxSteps := 1000000) (disch := omega) [ST, -BitVec.toNat_xor, -BitVec.toNat_and, -BitVec.toNat_or, -BitVec.toNat_not, -BitVec.toNat_ushiftRight, -BitVec.toNat_shiftLeft, -BitVec.toNat_mul, -UInt8.toNat_xor, -UInt8.toNat_and, -UInt8.toNat_or, -UInt8.toNat_shiftLeft, -UInt8.toNat_shiftRight, h0, h1, w1, w3])
    | (have w1 : IntKind.u64.wrap n = (u : Int) := by rw [wrap_u64m]; omega
       rw [if_neg h1] at ei
       rw [ei]
       simp -dsimp -implicitDefEqProofs (maxSteps := 1000000) (disch := omega) [ST, -BitVec.toNat_xor, -BitVec.toNat_and, -BitVec.toNat_or, -BitVec.toNat_not, -BitVec.toNat_ushiftRight, -BitVec.toNat_shiftLeft, -BitVec.toNat_mul, -UInt8.toNat_xor, -UInt8.toNat_and, -UInt8.toNat_or, -UInt8.toNat_shiftLeft, -UInt8.toNat_shiftRight, h0, h1, w1])
   refine wp_inv (S34 n) (fun a => a.1 ≤ u ∧ ddG a.1 ++ a.2.getD [] = Lib.decDigits u ∧ (a.2.getD []).length ≤ u - a.1) (fun a => a.1) (u, none) ⟨by simp, by simp [ddG, hu0], by simp⟩ (by simp -dsimp -implicitDefEqProofs (maxSteps := 1000000) (disch := omega) [ST, -BitVec.toNat_xor, -BitVec.toNat_and, -BitVec.toNat_or, -BitVec.toNat_not, -BitVec.toNat_ushiftRight, -BitVec.toNat_shiftLeft, -BitVec.toNat_mul, -UInt8.toNat_xor, -UInt8.toNat_and, -UInt8.toNat_or, -UInt8.toNat_shiftLeft, -UInt8.toNat_shiftRight, S34]) ?_
   rintro ⟨x, _ | l⟩ ⟨hx, hd, hl⟩
   ·simp only [Option.getD_none] at hx hd hl
    by_cases hx0 : x = 0
    ·subst hx0
     exact absurd hd.symm (dec_ne _)
    ·have hx1 : 0 < x := by omega
     have e : ((UInt8.ofNat (48 + x % 10)).toNat : Int) = 48 + (x : Int) % 10 := by simp; omega
     have st := ddG_step x hx0
     have tm : (x : Int).tmod 10 = (x : Int) % 10 := Int.tmod_eq_emod_of_nonneg (by omega)
     generalize UInt8.ofNat (48 + x % 10) = b at *
     simp -dsimp -implicitDefEqProofs (maxSteps := 1000000) (disch := omega) [ST, -BitVec.toNat_xor, -BitVec.toNat_and, -BitVec.toNat_or, -BitVec.toNat_not, -BitVec.toNat_ushiftRight, -BitVec.toNat_shiftLeft, -BitVec.toNat_mul, -UInt8.toNat_xor, -UInt8.toNat_and, -UInt8.toNat_or, -UInt8.toNat_shiftLeft, -UInt8.toNat_shiftRight, S34, hx0, hx1, tm, wrap_u64, wrap_u8, ← e, eB_mk]
     refine again (x / 10, some [b]) ⟨by simp only; omega, by simp only [Option.getD_some]; rw [← st, ← hd, List.append_nil], by simp; omega⟩ (by simp only; omega) (by simp -dsimp -implicitDefEqProofs (maxSteps := 1000000) (disch := omega) [ST, -BitVec.toNat_xor, -BitVec.toNat_and, -BitVec.toNat_or, -BitVec.toNat_not, -BitVec.toNat_ushiftRight, -BitVec.toNat_shiftLeft, -BitVec.toNat_mul, -UInt8.toNat_xor, -UInt8.toNat_and, -UInt8.toNat_or, -UInt8.toNat_shiftLeft, -UInt8.toNat_shiftRight, S34])
   ·simp only [Option.getD_some] at hx hd hl
    by_cases hx0 : x = 0
    ·subst hx0
     have hd : l = Lib.decDigits u := hd
     have hlen := dec_len 19 u (by omega)
     rw [← hd] at hlen
     rw [← hd]
     simp -dsimp -implicitDefEqProofs (maxSteps := 1000000) (disch := omega) [ST, -BitVec.toNat_xor, -BitVec.toNat_and, -BitVec.toNat_or, -BitVec.toNat_not, -BitVec.toNat_ushiftRight, -BitVec.toNat_shiftLeft, -BitVec.toNat_mul, -UInt8.toNat_xor, -UInt8.toNat_and, -UInt8.toNat_or, -UInt8.toNat_shiftLeft, -UInt8.toNat_shiftRight, S34, h1, show 1 + l.length ≤ 9223372036854775807 by omega]
    ·have hx1 : 0 < x := by omega
     have e : ((UInt8.ofNat (48 + x % 10)).toNat : Int) = 48 + (x : Int) % 10 := by simp; omega
     have st := ddG_step x hx0
     have tm : (x : Int).tmod 10 = (x : Int) % 10 := Int.tmod_eq_emod_of_nonneg (by omega)
     generalize UInt8.ofNat (48 + x % 10) = b at *
     have hlen := dec_len 19 u (by omega)
     rw [← hd, List.length_append] at hlen
     simp -dsimp -implicitDefEqProofs (maxSteps := 1000000) (disch := omega) [ST, -BitVec.toNat_xor, -BitVec.toNat_and, -BitVec.toNat_or, -BitVec.toNat_not, -BitVec.toNat_ushiftRight, -BitVec.toNat_shiftLeft, -BitVec.toNat_mul, -UInt8.toNat_xor, -UInt8.toNat_and, -UInt8.toNat_or, -UInt8.toNat_shiftLeft, -UInt8.toNat_shiftRight, S34, hx0, hx1, tm, wrap_u64, wrap_u8, ← e, eB_mk, show 1 + l.length ≤ 140737488355328 by omega]
     refine again (x / 10, some (b :: l)) ⟨by simp only; omega, by simp only [Option.getD_some]; rw [← hd, st, List.append_assoc]; rfl, by simp; omega⟩ (by simp only; omega) (by simp -dsimp -implicitDefEqProofs (maxSteps := 1000000) (disch := omega) [ST, -BitVec.toNat_xor, -BitVec.toNat_and, -BitVec.toNat_or, -BitVec.toNat_not, -BitVec.toNat_ushiftRight, -BitVec.toNat_shiftLeft, -BitVec.toNat_mul, -UInt8.toNat_xor, -UInt8.toNat_and, -UInt8.toNat_or, -UInt8.toNat_shiftLeft, -UInt8.toNat_shiftRight, S34, Nat.add_comm])
theorem itoa_len (v : Int) (h : inI v) : (Lib.itoa v).length ≤ 20 := by
 unfold Lib.itoa
 split
 ·have := dec_len 18 v.natAbs (by omega)
  simp; omega
 ·have := dec_len 18 v.toNat (by omega)
  omega
end Go.Vai
