/-
  What functions of layer 9 and of its reference compute: equations of the abstract run, and plain laws of them.
-/
import Derived.Lib.AtoiAllCases
import Derived.Test.YthaaafdiilahjaaGreatDoorBKA
set_option linter.unusedVariables false
set_option linter.unusedSimpArgs false
set_option linter.unnecessarySimpa false
set_option linter.unusedSectionVars false
namespace Go.Vai
variable {m : Int} {e3 e4 : Value}
theorem W_T : (W m e3 e4).T = Tz := rfl
abbrev inI (n : Int) : Prop := -9223372036854775808 ≤ n ∧ n ≤ 9223372036854775807
theorem run_E {f : FuncId} {xs : List AV} {bl : List (Option Blk)} {r : AV × List (Option Blk)} (hT : Tz f = none) (h : Ez f xs bl = some r) : (W m e3 e4).run f xs bl = some r := by
 rw [Env.run_some]
 refine ⟨1, ?_⟩
 have h1 : (W m e3 e4).T f = none := hT
 unfold runN
 rw [h1]
 exact h
theorem run_itoa (n : Int) (h : inI n) : (W m e3 e4).run 66 [i64 n] [] = some (bs (Lib.itoa n), []) := by
 refine run_E rfl ?_
 simp only [Ez, E0]
 rw [if_pos h, itoaC_eq n h]
theorem run_atoi (l : List UInt8) (h : l.length ≤ 1000000000000) : (W m e3 e4).run 106 [bs l] [] = some (match Lib.atoiAll l with
 | .ok v => .tup [i64 v, .fz (.sc .nilIface)]
 | .range => .tup [i64 (Lib.atoiSat l), .err]
 | _ => .tup [i64 0, .err], []) := by
 refine run_E rfl ?_
 simp only [Ez, E0, mkB_size, mkB_list]
 rw [if_pos (by omega)]
 cases Lib.atoiAll l <;> rfl
theorem run_number (n : Int) (h : inI n) : (W m e3 e4).run 34 [i64 n] [] = some (bs (Lib.itoa n), []) := by
 refine run_wp (by rw [W_T]; exact rfl) ?_
 simp -dsimp -implicitDefEqProofs (maxSteps := 1000000) (disch := omega) [ST, run_itoa n h]
def parseG (l : List UInt8) : Int × Bool := match Lib.atoiAll l with
 | .ok v => if Lib.itoa v = l then (v, true) else (0, false)
 | _ => (0, false)
theorem run_parse (l : List UInt8) (h : l.length ≤ 1000000000000) : (W m e3 e4).run 73 [bs l] [] = some (.tup [i64 (parseG l).1, bo (parseG l).2], []) := by
 have h1 := run_atoi (m := m) (e3 := e3) (e4 := e4) l h
 cases ha : Lib.atoiAll l with
 | ok v =>
  rw [ha] at h1
  have hb := Lib.atoiAll_bounds ha
  have h2 := run_itoa (m := m) (e3 := e3) (e4 := e4) v (by exact ⟨by omega, by omega⟩)
  by_cases he : Lib.itoa v = l
  ·have hp : parseG l = (v, true) := by unfold parseG; rw [ha]; exact if_pos he
   rw [hp]
   rw [he] at h2
   refine run_wp (by rw [W_T]; exact rfl) ?_
   simp -dsimp -implicitDefEqProofs (maxSteps := 1000000) (disch := omega) [ST, h1, h2]
  ·have hp : parseG l = (0, false) := by unfold parseG; rw [ha]; exact if_neg he
   rw [hp]
   refine run_wp (by rw [W_T]; exact rfl) ?_
   simp -dsimp -implicitDefEqProofs (maxSteps := 1000000) (disch := omega) [ST, h1, h2, he]
 | range =>
  rw [ha] at h1
  have hp : parseG l = (0, false) := by unfold parseG; rw [ha]
  rw [hp]
  refine run_wp (by rw [W_T]; exact rfl) ?_
  simp -dsimp -implicitDefEqProofs (maxSteps := 1000000) (disch := omega) [ST, h1]
 | _ =>
  rw [ha] at h1
  have hp : parseG l = (0, false) := by unfold parseG; rw [ha]
  rw [hp]
  refine run_wp (by rw [W_T]; exact rfl) ?_
  simp -dsimp -implicitDefEqProofs (maxSteps := 1000000) (disch := omega) [ST, h1]
def upI (c : UInt8) : Nat := if 97 ≤ c.toNat ∧ c.toNat ≤ 122 then c.toNat - 32 else c.toNat
def colG (c : UInt8) : Nat := if 65 ≤ upI c ∧ upI c ≤ 90 then upI c - 64 else 0
def isD (c : UInt8) : Bool := decide (48 ≤ c.toNat) && decide (c.toNat ≤ 57)
def isL (c : UInt8) : Bool := decide (0 < colG c)
abbrev by8 (b : UInt8) : AV := .fz (.sc (.int .u8 (b.toNat : Int)))
theorem run_column (c : UInt8) : (W m e3 e4).run 72 [by8 c] [] = some (i64 (colG c), []) := by
 refine run_wp (by rw [W_T]; exact rfl) ?_
 have hc := c.toNat_lt
 by_cases h1 : 97 ≤ c.toNat
 ·by_cases h2 : c.toNat ≤ 122
  ·have hu : upI c = c.toNat - 32 := if_pos ⟨h1, h2⟩
   have e1 : colG c = c.toNat - 32 - 64 := by unfold colG; rw [hu, if_pos (by omega)]
   have e2 : ((c.toNat - 32 - 64 : Nat) : Int) = (c.toNat : Int) - 32 - 65 + 1 := by omega
   rw [e1, e2]
   simp -dsimp -implicitDefEqProofs (maxSteps := 1000000) (disch := omega) [ST, h1, h2, wrap_u8]
  ·have hu : upI c = c.toNat := if_neg (by omega)
   have e1 : colG c = 0 := by unfold colG; rw [hu, if_neg (by omega)]
   rw [e1]
   simp -dsimp -implicitDefEqProofs (maxSteps := 1000000) (disch := omega) [ST, h1, h2, wrap_u8]
 ·have hu : upI c = c.toNat := if_neg (by omega)
  by_cases h3 : 65 ≤ c.toNat
  ·by_cases h4 : c.toNat ≤ 90
   ·have e1 : colG c = c.toNat - 64 := by unfold colG; rw [hu, if_pos (by omega)]
    have e2 : ((c.toNat - 64 : Nat) : Int) = (c.toNat : Int) - 65 + 1 := by omega
    rw [e1, e2]
    simp -dsimp -implicitDefEqProofs (maxSteps := 1000000) (disch := omega) [ST, h1, h3, h4, wrap_u8]
   ·have e1 : colG c = 0 := by unfold colG; rw [hu, if_neg (by omega)]
    rw [e1]
    simp -dsimp -implicitDefEqProofs (maxSteps := 1000000) (disch := omega) [ST, h1, h3, h4, wrap_u8]
  ·have e1 : colG c = 0 := by unfold colG; rw [hu, if_neg (by omega)]
   rw [e1]
   simp -dsimp -implicitDefEqProofs (maxSteps := 1000000) (disch := omega) [ST, h1, h3, wrap_u8]
end Go.Vai
namespace Go.Vai
variable {m : Int} {e3 e4 : Value}
def plB (r c : Int) : Bool := decide (1 ≤ r) && decide (r ≤ 99) && (decide (1 ≤ c) && decide (c ≤ 26))
abbrev pl (r c : Int) : AV := .agg [i64 r, i64 c]
theorem run_isPlace (r c : Int) : (W m e3 e4).run 27 [pl r c] [] = some (bo (plB r c), []) := by
 refine run_wp (by rw [W_T]; exact rfl) ?_
 unfold plB
 by_cases h1 : 1 ≤ r <;> by_cases h2 : r ≤ 99 <;> by_cases h3 : 1 ≤ c <;> by_cases h4 : c ≤ 26 <;> simp -dsimp -implicitDefEqProofs (maxSteps := 1000000) (disch := omega) [ST, h1, h2, h3, h4]
def placeG : List UInt8 → Option (Int × Int)
 | [] => none
 | c :: r => if (r.length = 1 ∨ r.length = 2) ∧ 0 < colG c ∧ (parseG r).2 = true ∧ plB (parseG r).1 (colG c) = true then some ((parseG r).1, (colG c : Int)) else none
def placeI : List UInt8 → (Int × Int) × Bool
 | [] => ((0, 0), false)
 | [_] => ((0, 0), false)
 | c :: d :: r => if r.length ≤ 1 ∧ 0 < colG c ∧ 49 ≤ d.toNat ∧ d.toNat ≤ 57 then (((parseG (d :: r)).1, (colG c : Int)), (parseG (d :: r)).2 && plB (parseG (d :: r)).1 (colG c)) else ((0, 0), false)
theorem run_placeOf (l : List UInt8) (hl : l.length ≤ 1000000000000) : (W m e3 e4).run 71 [bs l] [] = some (.tup [pl (placeI l).1.1 (placeI l).1.2, bo (placeI l).2], []) := by
 refine run_wp (by rw [W_T]; exact rfl) ?_
 match l, hl with
 | [], _ => simp -dsimp -implicitDefEqProofs (maxSteps := 1000000) (disch := omega) [ST, placeI]
 | [c], _ => simp -dsimp -implicitDefEqProofs (maxSteps := 1000000) (disch := omega) [ST, placeI]
 | c :: d :: r, hl =>
  obtain ⟨l, hL⟩ : ∃ l, l = c :: d :: r := ⟨_, rfl⟩
  have hlen : l.length = r.length + 2 := by rw [hL]; simp
  have hd := d.toNat_lt
  have hc := run_column (m := m) (e3 := e3) (e4 := e4) c
  have hp := run_parse (m := m) (e3 := e3) (e4 := e4) (d :: r) (by simp at hl; simp; omega)
  have hi := run_isPlace (m := m) (e3 := e3) (e4 := e4) (parseG (d :: r)).1 (colG c)
  have g0 : l[0]? = some c := by rw [hL]; rfl
  have g1 : l[1]? = some d := by rw [hL]; rfl
  have gt : l.drop 1 = d :: r := by rw [hL]; rfl
  have gt2 : l.tail = d :: r := by rw [hL]; rfl
  rw [← hL]
  have k0 : ∀ h : 0 < l.length, l[0] = c := fun h => (List.getElem?_eq_some_iff.1 g0).2
  have k1 : ∀ h : 1 < l.length, l[1] = d := fun h => (List.getElem?_eq_some_iff.1 g1).2
  have key : (if r.length ≤ 1 ∧ 0 < colG c ∧ 49 ≤ d.toNat ∧ d.toNat ≤ 57 then (((parseG (d :: r)).1, (colG c : Int)), (parseG (d :: r)).2 && plB (parseG (d :: r)).1 (colG c)) else ((0, 0), false)) = placeI l := by rw [hL]; rfl
  rw [← key]
  clear hL key g0 g1
  generalize hP : parseG (d :: r) = P at *
  obtain ⟨n, b⟩ := P
  simp only at hp hi ⊢
  by_cases h1 : r.length ≤ 1
  ·by_cases h2 : 0 < colG c
   ·by_cases h3 : 49 ≤ d.toNat
    ·by_cases h4 : d.toNat ≤ 57
     ·rw [if_pos ⟨h1, h2, h3, h4⟩]
      cases b <;> simp -dsimp -implicitDefEqProofs (maxSteps := 1000000) (disch := omega) [ST, h1, h2, h3, h4, hc, hp, hi, hlen, k0, k1, gt, gt2, List.take_of_length_le]
     ·rw [if_neg (by omega)]
      simp -dsimp -implicitDefEqProofs (maxSteps := 1000000) (disch := omega) [ST, h1, h2, h3, h4, hc, hp, hi, hlen, k0, k1]
    ·rw [if_neg (by omega)]
     simp -dsimp -implicitDefEqProofs (maxSteps := 1000000) (disch := omega) [ST, h1, h2, h3, hc, hp, hi, hlen, k0, k1]
   ·rw [if_neg (by omega)]
    simp -dsimp -implicitDefEqProofs (maxSteps := 1000000) (disch := omega) [ST, h1, h2, hc, hp, hi, hlen, k0, k1]
  ·rw [if_neg (by omega)]
   simp -dsimp -implicitDefEqProofs (maxSteps := 1000000) (disch := omega) [ST, h1, hc, hp, hi, hlen, k0, k1]
inductive Tok where
 | sign (t : List UInt8)
 | num (n : Int)
 | txt (t : List UInt8)
 | plc (r c : Int)
 | name (t : List UInt8)
 deriving DecidableEq
abbrev tok5 (k : Int) (t : List UInt8) (n r c : Int) : List FV := [.sc (.int .i64 k), .sc (.string (mkB t)), .sc (.int .i64 n), .sc (.int .i64 r), .sc (.int .i64 c)]
def eTok : Tok → List FV
 | .sign t => tok5 0 t 0 0 0
 | .num n => tok5 1 [] n 0 0
 | .txt t => tok5 2 t 0 0 0
 | .plc r c => tok5 3 [] 0 r c
 | .name t => tok5 6 t 0 0 0
end Go.Vai
namespace Go.Vai
variable {m : Int} {e3 e4 : Value}
theorem run_hasp (l p : List UInt8) (hl : l.length ≤ 1000000000000) (hp : p.length ≤ 1000000000000) : (W m e3 e4).run 100 [bs l, bs p] [] = some (bo (p.isPrefixOf l), []) := by
 refine run_wp (by rw [W_T]; exact rfl) ?_
 by_cases h : p.length ≤ l.length
 ·have e : p.isPrefixOf l = decide (l.take p.length = p) := by
   rw [Bool.eq_iff_iff, List.isPrefixOf_iff_prefix, decide_eq_true_eq, List.prefix_iff_eq_take]
   exact ⟨fun h => h.symm, fun h => h.symm⟩
  rw [e]
  by_cases h2 : l.take p.length = p
  ·simp -dsimp -implicitDefEqProofs (maxSteps := 1000000) (disch := omega) [ST, h, h2]
  ·simp -dsimp -implicitDefEqProofs (maxSteps := 1000000) (disch := omega) [ST, h, h2]
 ·have e : p.isPrefixOf l = false := by
   rw [Bool.eq_false_iff, Ne, List.isPrefixOf_iff_prefix]
   exact fun hh => h hh.length_le
  rw [e]
  simp -dsimp -implicitDefEqProofs (maxSteps := 1000000) (disch := omega) [ST, h]
end Go.Vai
namespace Go.Vai
variable {m : Int} {e3 e4 : Value}
@[simp] theorem eTok_len (t : Tok) : (eTok t).length = 5 := by cases t <;> rfl
end Go.Vai
namespace Go.Vai
variable {m : Int} {e3 e4 : Value}
abbrev u64 (n : Int) : AV := .fz (.sc (.int .u64 n))
theorem eB_mk (b : UInt8) : [FV.sc (.int .u8 (b.toNat : Int))] = eB b := rfl
theorem wrap_u64 {n : Int} (h0 : 0 ≤ n) (h1 : n < 18446744073709551616) : IntKind.u64.wrap n = n := by
 simp only [IntKind.wrap, IntKind.bits, IntKind.signed]
 simp
 omega
theorem wrap_u64m (z : Int) : IntKind.u64.wrap z = z % 18446744073709551616 := by
 simp [IntKind.wrap, IntKind.bits, IntKind.signed]
theorem parse_app (a b : List UInt8) : ∀ (acc v : Nat), Lib.parseUint10 acc a = .ok v → Lib.parseUint10 acc (a ++ b) = Lib.parseUint10 v b := by
 induction a with
 | nil =>
  intro acc v h
  simp only [Lib.parseUint10] at h
  injection h with h
  subst h
  rfl
 | cons c r ih =>
  intro acc v h
  simp only [Lib.parseUint10, List.cons_append] at h ⊢
  split at h
  ·split at h
   ·cases h
   ·split at h
    ·cases h
    ·rename_i h1 h2 h3
     rw [if_pos h1, if_neg h2, if_neg h3]
     exact ih _ _ h
  ·cases h
theorem parse_dig (acc k : Nat) (hk : k < 10) (h : acc * 10 + k < 18446744073709551616) : Lib.parseUint10 acc [UInt8.ofNat (48 + k)] = .ok (acc * 10 + k) := by
 have e : (UInt8.ofNat (48 + k)).toNat = 48 + k := by simp; omega
 simp only [Lib.parseUint10, e]
 rw [if_pos (by omega), if_neg (by omega), if_neg (by omega)]
 congr 1
 omega
theorem parse_dec : ∀ u : Nat, u < 18446744073709551616 → Lib.parseUint10 0 (Lib.decDigits u) = .ok u := by
 intro u
 induction u using Nat.strongRecOn with
 | ind u ih =>
  intro hu
  rw [Lib.decDigits]
  split
  ·rename_i h
   rw [parse_dig 0 u h (by omega)]
   congr 1
   omega
  ·rename_i h
   rw [parse_app _ _ 0 (u / 10) (ih _ (by omega) (by omega)), parse_dig _ _ (by omega) (by omega)]
   congr 1
   omega
theorem dec_len : ∀ (k u : Nat), u < 10 ^ (k + 1) → (Lib.decDigits u).length ≤ k + 1
 | 0, u, h => by
  rw [Lib.decDigits, dif_pos (by omega)]; simp
 | k + 1, u, h => by
  rw [Lib.decDigits]
  split
  ·simp
  ·have := dec_len k (u / 10) (by rw [Nat.pow_succ] at h; omega)
   simp
   omega
theorem dec_ne (u : Nat) : Lib.decDigits u ≠ [] := by
 rw [Lib.decDigits]
 split <;> simp
theorem dec_head (u : Nat) : ∀ c r, Lib.decDigits u = c :: r → 48 ≤ c.toNat ∧ c.toNat ≤ 57 := by
 induction u using Nat.strongRecOn with
 | ind u ih =>
  intro c r h
  rw [Lib.decDigits] at h
  split at h
  ·rename_i h1
   injection h with h h2
   rw [← h]
   simp
   omega
  ·rename_i h1
   cases hd : Lib.decDigits (u / 10) with
   | nil => exact absurd hd (dec_ne _)
   | cons c2 r2 =>
    rw [hd] at h
    injection h with h h2
    rw [← h]
    exact ih _ (by omega) c2 r2 hd
theorem atoi_itoa (n : Int) (h : inI n) : Lib.atoiAll (Lib.itoa n) = .ok n := by
 unfold Lib.itoa
 split
 ·rename_i h0
  have hp := parse_dec n.natAbs (by omega)
  have hm : Lib.parseMag (Lib.decDigits n.natAbs) = .ok n.natAbs := by
   unfold Lib.parseMag
   rw [if_neg (dec_ne _), hp]
  simp only [Lib.atoiAll]
  have e45 : (45 : UInt8).toNat = 45 := rfl
  rw [if_pos (.inr e45), hm]
  simp only [e45]
  rw [if_neg (by simp), if_neg (by simp; omega)]
  simp
  omega
 ·rename_i h0
  have hp := parse_dec n.toNat (by omega)
  have hm : Lib.parseMag (Lib.decDigits n.toNat) = .ok n.toNat := by
   unfold Lib.parseMag
   rw [if_neg (dec_ne _), hp]
  cases hd : Lib.decDigits n.toNat with
  | nil => exact absurd hd (dec_ne _)
  | cons c r =>
   have hh := dec_head _ c r hd
   rw [hd] at hm
   simp only [Lib.atoiAll]
   rw [if_neg (by omega), hm]
   simp only
   rw [if_neg (by omega), if_neg (by omega), if_neg (by omega)]
   congr 1
   omega
theorem parseG_itoa (n : Int) (h : inI n) : parseG (Lib.itoa n) = (n, true) := by
 unfold parseG
 rw [atoi_itoa n h]
 exact if_pos rfl
theorem parseG_cases (l : List UInt8) : (∃ v, parseG l = (v, true) ∧ Lib.itoa v = l ∧ inI v) ∨ (parseG l = (0, false) ∧ ¬ Lib.itoa 0 = l) := by
 have h0 : parseG l = (0, false) → ¬ Lib.itoa 0 = l := by
  intro h1 h
  rw [← h, parseG_itoa 0 (by decide)] at h1
  cases h1
 cases ha : Lib.atoiAll l with
 | ok v =>
  have hb := Lib.atoiAll_bounds ha
  by_cases h : Lib.itoa v = l
  ·exact .inl ⟨v, by unfold parseG; rw [ha]; exact if_pos h, h, hb.1, hb.2⟩
  ·have e : parseG l = (0, false) := by unfold parseG; rw [ha]; exact if_neg h
   exact .inr ⟨e, h0 e⟩
 | range =>
  have e : parseG l = (0, false) := by unfold parseG; rw [ha]
  exact .inr ⟨e, h0 e⟩
 | _ =>
  have e : parseG l = (0, false) := by unfold parseG; rw [ha]
  exact .inr ⟨e, h0 e⟩
def ddG (x : Nat) : List UInt8 := if x = 0 then [] else Lib.decDigits x
theorem ddG_step (x : Nat) (h : x ≠ 0) : ddG x = ddG (x / 10) ++ [UInt8.ofNat (48 + x % 10)] := by
 unfold ddG
 rw [if_neg h, Lib.decDigits]
 by_cases h1 : x < 10
 ·rw [dif_pos h1, if_pos (by omega), Nat.mod_eq_of_lt h1]; rfl
 ·rw [dif_neg h1, if_neg (by omega)]
def S34 (n : Int) (a : Nat × Option (List UInt8)) : St := { sl := [(0, i64 n), (3, u64 a.1), (4, match a.2 with | none => .emp | some l => .osl 0 1 0 l.length)], hp := match a.2 with | none => [] | some l => [(0, some (.arr 1 (l.map eB)))], nx := match a.2 with | none => 0 | some l => 1 }
set_option maxHeartbeats 2000000 in
theorem run_rnumber (n : Int) (h : inI n) : (W m e3 e4).run 40 [i64 n] [] = some (bs (Lib.itoa n), []) := by
 have hz : Lib.itoa 0 = [48] := by simp [Lib.itoa, Lib.decDigits]
 refine run_wp (by rw [W_T]; exact rfl) ?_
 by_cases h0 : n = 0
 ·subst h0
  rw [hz]
  simp -dsimp -implicitDefEqProofs (maxSteps := 1000000) (disch := omega) [ST, -BitVec.toNat_xor, -BitVec.toNat_and, -BitVec.toNat_or, -BitVec.toNat_not, -BitVec.toNat_ushiftRight, -BitVec.toNat_shiftLeft, -BitVec.toNat_mul, -UInt8.toNat_xor, -UInt8.toNat_and, -UInt8.toNat_or, -UInt8.toNat_shiftLeft, -UInt8.toNat_shiftRight]
 ·obtain ⟨u, hu⟩ : ∃ u, u = n.natAbs := ⟨_, rfl⟩
  have hu0 : u ≠ 0 := by omega
  have ei : Lib.itoa n = if n < 0 then 45 :: Lib.decDigits u else Lib.decDigits u := by
   unfold Lib.itoa
   rw [hu]
   split
   ·rfl
   ·congr 1; omega
  by_cases h1 : n < 0
  all_goals
   first
    | (have w1 : IntKind.u64.wrap n = n + 18446744073709551616 := by rw [wrap_u64m]; omega
       have w3 : IntKind.u64.wrap (-(n + 18446744073709551616)) = (u : Int) := by rw [wrap_u64m]; omega
       rw [if_pos h1] at ei
       rw [ei]
       simp -dsimp -implicitDefEqProofs (maxSteps := 1000000) (disch := omega) [ST, -BitVec.toNat_xor, -BitVec.toNat_and, -BitVec.toNat_or, -BitVec.toNat_not, -BitVec.toNat_ushiftRight, -BitVec.toNat_shiftLeft, -BitVec.toNat_mul, -UInt8.toNat_xor, -UInt8.toNat_and, -UInt8.toNat_or, -UInt8.toNat_shiftLeft, -UInt8.toNat_shiftRight, h0, h1, w1, w3])
    | (have w1 : IntKind.u64.wrap n = (u : Int) := by rw [wrap_u64m]; omega
       rw [if_neg h1] at ei
       rw [ei]
       simp -dsimp -implicitDefEqProofs (maxSteps := 1000000) (disch := omega) [ST, -BitVec.toNat_xor, -BitVec.toNat_and, -BitVec.toNat_or, -BitVec.toNat_not, -BitVec.toNat_ushiftRight, -BitVec.toNat_shiftLeft, -BitVec.toNat_mul, -UInt8.toNat_xor, -UInt8.toNat_and, -UInt8.toNat_or, -UInt8.toNat_shiftLeft, -UInt8.toNat_shiftRight, h0, h1, w1])
   refine wp_inv (S34 n) (fun a => a.1 ≤ u ∧ ddG a.1 ++ a.2.getD [] = Lib.decDigits u ∧ (a.2.getD []).length ≤ u - a.1) (fun a => a.1) (u, none) ⟨by simp, by simp [ddG, hu0], by simp⟩ (by simp -dsimp -implicitDefEqProofs (maxSteps := 1000000) (disch := omega) [ST, -BitVec.toNat_xor, -BitVec.toNat_and, -BitVec.toNat_or, -BitVec.toNat_not, -BitVec.toNat_ushiftRight, -BitVec.toNat_shiftLeft, -BitVec.toNat_mul, -UInt8.toNat_xor, -UInt8.toNat_and, -UInt8.toNat_or, -UInt8.toNat_shiftLeft, -UInt8.toNat_shiftRight, S34]) ?_
   rintro ⟨x, _ | l⟩ ⟨hx, hd, hl⟩
   ·simp only [Option.getD_none] at hx hd hl
    by_cases hx0 : x = 0
    ·subst hx0
     exact absurd hd.symm (dec_ne _)
    ·have hx1 : 0 < x := by omega
     have e : ((UInt8.ofNat (48 + x % 10)).toNat : Int) = 48 + (x : Int) % 10 := by simp; omega
     have st := ddG_step x hx0
     have tm : (x : Int).tmod 10 = (x : Int) % 10 := Int.tmod_eq_emod_of_nonneg (by omega)
     generalize UInt8.ofNat (48 + x % 10) = b at *
     simp -dsimp -implicitDefEqProofs (maxSteps := 1000000) (disch := omega) [ST, -BitVec.toNat_xor, -BitVec.toNat_and, -BitVec.toNat_or, -BitVec.toNat_not, -BitVec.toNat_ushiftRight, -BitVec.toNat_shiftLeft, -BitVec.toNat_mul, -UInt8.toNat_xor, -UInt8.toNat_and, -UInt8.toNat_or, -UInt8.toNat_shiftLeft, -UInt8.toNat_shiftRight, S34, hx0, hx1, tm, wrap_u64, wrap_u8, ← e, eB_mk]
     refine again (x / 10, some [b]) ⟨by simp only; omega, by simp only [Option.getD_some]; rw [← st, ← hd, List.append_nil], by simp; omega⟩ (by simp only; omega) (by simp -dsimp -implicitDefEqProofs (maxSteps := 1000000) (disch := omega) [ST, -BitVec.toNat_xor, -BitVec.toNat_and, -BitVec.toNat_or, -BitVec.toNat_not, -BitVec.toNat_ushiftRight, -BitVec.toNat_shiftLeft, -BitVec.toNat_mul, -UInt8.toNat_xor, -UInt8.toNat_and, -UInt8.toNat_or, -UInt8.toNat_shiftLeft, -UInt8.toNat_shiftRight, S34])
   ·simp only [Option.getD_some] at hx hd hl
    by_cases hx0 : x = 0
    ·subst hx0
     have hd : l = Lib.decDigits u := hd
     have hlen := dec_len 19 u (by omega)
     rw [← hd] at hlen
     rw [← hd]
     simp -dsimp -implicitDefEqProofs (maxSteps := 1000000) (disch := omega) [ST, -BitVec.toNat_xor, -BitVec.toNat_and, -BitVec.toNat_or, -BitVec.toNat_not, -BitVec.toNat_ushiftRight, -BitVec.toNat_shiftLeft, -BitVec.toNat_mul, -UInt8.toNat_xor, -UInt8.toNat_and, -UInt8.toNat_or, -UInt8.toNat_shiftLeft, -UInt8.toNat_shiftRight, S34, h1, show 1 + l.length ≤ 9223372036854775807 by omega]
    ·have hx1 : 0 < x := by omega
     have e : ((UInt8.ofNat (48 + x % 10)).toNat : Int) = 48 + (x : Int) % 10 := by simp; omega
     have st := ddG_step x hx0
     have tm : (x : Int).tmod 10 = (x : Int) % 10 := Int.tmod_eq_emod_of_nonneg (by omega)
     generalize UInt8.ofNat (48 + x % 10) = b at *
     have hlen := dec_len 19 u (by omega)
     rw [← hd, List.length_append] at hlen
     simp -dsimp -implicitDefEqProofs (maxSteps := 1000000) (disch := omega) [ST, -BitVec.toNat_xor, -BitVec.toNat_and, -BitVec.toNat_or, -BitVec.toNat_not, -BitVec.toNat_ushiftRight, -BitVec.toNat_shiftLeft, -BitVec.toNat_mul, -UInt8.toNat_xor, -UInt8.toNat_and, -UInt8.toNat_or, -UInt8.toNat_shiftLeft, -UInt8.toNat_shiftRight, S34, hx0, hx1, tm, wrap_u64, wrap_u8, ← e, eB_mk, show 1 + l.length ≤ 140737488355328 by omega]
     refine again (x / 10, some (b :: l)) ⟨by simp only; omega, by simp only [Option.getD_some]; rw [← hd, st, List.append_assoc]; rfl, by simp; omega⟩ (by simp only; omega) (by simp -dsimp -implicitDefEqProofs (maxSteps := 1000000) (disch := omega) [ST, -BitVec.toNat_xor, -BitVec.toNat_and, -BitVec.toNat_or, -BitVec.toNat_not, -BitVec.toNat_ushiftRight, -BitVec.toNat_shiftLeft, -BitVec.toNat_mul, -UInt8.toNat_xor, -UInt8.toNat_and, -UInt8.toNat_or, -UInt8.toNat_shiftLeft, -UInt8.toNat_shiftRight, S34, Nat.add_comm])
def goF : Bool → Nat → List UInt8 → Option Nat
 | _, acc, [] => some acc
 | fst, acc, c :: r => if fst = true ∧ c = 45 then goF false acc r else if isD c = true then goF false ((acc * 10 + (c.toNat - 48)) % 18446744073709551616) r else none
theorem goF_app : ∀ (l k : List UInt8) (acc v : Nat), goF false acc l = some v → goF false acc (l ++ k) = goF false v k
 | [], k, acc, v, h => by simp [goF] at h; subst h; rfl
 | c :: r, k, acc, v, h => by
  simp only [goF, List.cons_append] at h ⊢
  rw [if_neg (by simp)] at h ⊢
  split at h
  ·rename_i hd
   rw [if_pos hd]
   exact goF_app r k _ v h
  ·cases h
theorem goF_dig (acc k : Nat) (hk : k < 10) : goF false acc [UInt8.ofNat (48 + k)] = some ((acc * 10 + k) % 18446744073709551616) := by
 have e : (UInt8.ofNat (48 + k)).toNat = 48 + k := by simp; omega
 simp only [goF]
 rw [if_neg (by simp), if_pos (by unfold isD; rw [e]; simp; omega), e, Nat.add_sub_cancel_left]
theorem goF_dec : ∀ u : Nat, u < 18446744073709551616 → goF false 0 (Lib.decDigits u) = some u := by
 intro u
 induction u using Nat.strongRecOn with
 | ind u ih =>
  intro hu
  rw [Lib.decDigits]
  split
  ·rename_i h
   rw [goF_dig 0 u h]
   congr 1
   omega
  ·rename_i h
   rw [goF_app _ _ 0 (u / 10) (ih _ (by omega) (by omega)), goF_dig _ _ (by omega)]
   congr 1
   omega
def nOf (l : List UInt8) (x : Nat) : Int := if l.head? = some 45 then IntKind.i64.wrap (-(x : Int)) else IntKind.i64.wrap x
theorem i64_in (z : Int) : inI (IntKind.i64.wrap z) := by
 have h : IntKind.i64.wrap z = if (z % 18446744073709551616) < 9223372036854775808 then z % 18446744073709551616 else z % 18446744073709551616 - 18446744073709551616 := by
  simp [IntKind.wrap, IntKind.bits, IntKind.signed]
  split <;> split <;> omega
 unfold inI
 rw [h]
 split <;> omega
theorem parse_ref (l : List UInt8) (hne : l ≠ []) : parseG l = match goF (decide (1 < l.length)) 0 l with
 | none => (0, false)
 | some x => if Lib.itoa (nOf l x) = l then (nOf l x, true) else (0, false) := by
 rcases parseG_cases l with ⟨v, h1, h2, h3⟩ | ⟨h1, h2⟩
 ·have key : goF (decide (1 < l.length)) 0 l = some v.natAbs ∧ nOf l v.natAbs = v := by
   rw [← h2]
   unfold Lib.itoa
   split
   ·rename_i h0
    have hd : Lib.decDigits v.natAbs ≠ [] := dec_ne _
    have hl : 1 < (45 :: Lib.decDigits v.natAbs).length := by
     have := List.length_pos_iff.2 hd
     simp; omega
    rw [decide_eq_true hl]
    refine ⟨?_, ?_⟩
    ·rw [goF, if_pos ⟨rfl, rfl⟩]
     exact goF_dec _ (by omega)
    ·unfold nOf
     rw [if_pos (by simp)]
     have : (-(v.natAbs : Int)) = v := by omega
     rw [this]
     exact wrap_i64 (by omega) (by omega)
   ·rename_i h0
    have e : v.toNat = v.natAbs := by omega
    rw [e]
    have hg := goF_dec v.natAbs (by omega)
    cases hd : Lib.decDigits v.natAbs with
    | nil => exact absurd hd (dec_ne _)
    | cons c r =>
     have hh := dec_head _ c r hd
     have hc : ¬ c = 45 := by rintro rfl; revert hh; decide
     rw [hd] at hg
     refine ⟨?_, ?_⟩
     ·rw [goF, if_neg (fun h => hc h.2)]
      rw [goF, if_neg (fun h => hc h.2)] at hg
      exact hg
     ·unfold nOf
      rw [if_neg (by simp [hc])]
      have : ((v.natAbs : Nat) : Int) = v := by omega
      rw [this]
      exact wrap_i64 (by omega) (by omega)
  rw [key.1]
  simp only
  rw [key.2, if_pos h2, h1]
 ·rw [h1]
  cases hg : goF (decide (1 < l.length)) 0 l with
  | none => rfl
  | some x =>
   simp only
   rw [if_neg]
   intro h
   have := parseG_itoa (nOf l x) (by unfold nOf; split <;> exact i64_in _)
   rw [h, h1] at this
   simp at this
theorem itoa_len (v : Int) (h : inI v) : (Lib.itoa v).length ≤ 20 := by
 unfold Lib.itoa
 split
 ·have := dec_len 18 v.natAbs (by omega)
  simp; omega
 ·have := dec_len 18 v.toNat (by omega)
  omega
theorem parse_long (l : List UInt8) (h : 20 < l.length) : parseG l = (0, false) := by
 rcases parseG_cases l with ⟨v, h1, h2, h3⟩ | ⟨h1, h2⟩
 ·have := itoa_len v h3
  rw [h2] at this
  omega
 ·exact h1
def S163 (l : List UInt8) (a : Nat × Nat) : St := { sl := [(0, bs l), (4, u64 a.2), (5, i64 a.1)], hp := [], nx := 0 }
set_option maxHeartbeats 2000000 in
theorem run_rparse (l : List UInt8) (hl : l.length ≤ 1000000000000) : (W m e3 e4).run 77 [bs l] [] = some (.tup [i64 (parseG l).1, bo (parseG l).2], []) := by
 refine run_wp (by rw [W_T]; exact rfl) ?_
 by_cases h0 : l = []
 ·subst h0
  have e : parseG [] = (0, false) := rfl
  rw [e]
  simp -dsimp -implicitDefEqProofs (maxSteps := 1000000) (disch := omega) [ST]
 ·have hpos : 0 < l.length := List.length_pos_iff.2 h0
  by_cases h20 : 20 < l.length
  ·rw [parse_long l h20]
   simp -dsimp -implicitDefEqProofs (maxSteps := 1000000) (disch := omega) [ST, h20, show ¬ l.length = 0 by omega]
  ·have hR := parse_ref l h0
   generalize parseG l = R at hR ⊢
   obtain ⟨c0, hc0⟩ : ∃ c, l[0] = c := ⟨_, rfl⟩
   have k0 : ∀ h : 0 < l.length, l[0] = c0 := fun _ => hc0
   have hhd : l.head? = some c0 := by rw [List.head?_eq_getElem?, List.getElem?_eq_getElem hpos, hc0]
   simp -dsimp -implicitDefEqProofs (maxSteps := 1000000) (disch := omega) [ST, h20, show ¬ l.length = 0 by omega]
   refine wp_inv (S163 l) (fun a => a.1 ≤ l.length ∧ a.2 < 18446744073709551616 ∧ goF (decide (a.1 = 0 ∧ 1 < l.length)) a.2 (l.drop a.1) = goF (decide (1 < l.length)) 0 l) (fun a => l.length - a.1) (0, 0) ⟨by simp, by simp, by simp⟩ (by simp -dsimp -implicitDefEqProofs (maxSteps := 1000000) (disch := omega) [ST, S163]) ?_
   rintro ⟨i, x⟩ ⟨hi, hx, hg⟩
   simp only at hi hx hg
   by_cases h : i < l.length
   ·obtain ⟨b, hb⟩ : ∃ b, l[i] = b := ⟨_, rfl⟩
    have hb' := b.toNat_lt
    rw [List.drop_eq_getElem_cons h, hb, goF] at hg
    have nx : ∀ y, goF (decide (i + 1 = 0 ∧ 1 < l.length)) y (l.drop (i + 1)) = goF false y (l.drop (i + 1)) := fun y => by rw [decide_eq_false (by omega)]
    by_cases hm : (i = 0 ∧ 1 < l.length) ∧ b = 45
    ·obtain ⟨⟨m1, m2⟩, m3⟩ := hm
     subst m1
     rw [if_pos ⟨by simp [m2], m3⟩] at hg
     have hc45 : c0.toNat = 45 := by rw [← hc0, hb, m3]; rfl
     simp -dsimp -implicitDefEqProofs (maxSteps := 1000000) (disch := omega) [ST, S163, h, k0, hc45, m2]
     refine again (1, x) ⟨by omega, hx, by simp only; rw [nx]; exact hg⟩ (by simp only; omega) (by simp -dsimp -implicitDefEqProofs (maxSteps := 1000000) (disch := omega) [ST, S163])
    ·rw [if_neg (by simpa using hm)] at hg
     by_cases hd : isD b = true
     ·rw [if_pos hd] at hg
      unfold isD at hd
      simp only [Bool.and_eq_true, decide_eq_true_eq] at hd
      have ew : ((((x * 10 + (b.toNat - 48)) % 18446744073709551616 : Nat)) : Int) = IntKind.u64.wrap (IntKind.u64.wrap ((x : Int) * 10) + ((b.toNat : Int) - 48)) := by
       rw [wrap_u64m, wrap_u64m]; omega
      have w1 : IntKind.u64.wrap ((b.toNat : Int) - 48) = (b.toNat : Int) - 48 := wrap_u64 (by omega) (by omega)
      have nxt : goF (decide (i + 1 = 0 ∧ 1 < l.length)) ((x * 10 + (b.toNat - 48)) % 18446744073709551616) (l.drop (i + 1)) = goF (decide (1 < l.length)) 0 l := by rw [nx]; exact hg
      by_cases hi0 : i = 0
      ·by_cases hc45 : c0.toNat = 45
       ·subst hi0
        have : b = c0 := by rw [← hb, hc0]
        subst this
        have hl1 : ¬ 1 < l.length := fun hh => hm ⟨⟨rfl, hh⟩, by apply UInt8.toNat.inj; exact hc45⟩
        simp -dsimp -implicitDefEqProofs (maxSteps := 1000000) (disch := omega) [ST, S163, h, k0, hc45, hl1, hb, wrap_u8, w1]
        omega
       ·subst hi0
        have : b = c0 := by rw [← hb, hc0]
        subst this
        simp -dsimp -implicitDefEqProofs (maxSteps := 1000000) (disch := omega) [ST, S163, h, k0, hc45, wrap_u8, w1]
        refine again (1, (x * 10 + (b.toNat - 48)) % 18446744073709551616) ⟨by omega, by simp only; omega, nxt⟩ (by simp only; omega) (by simp -dsimp -implicitDefEqProofs (maxSteps := 1000000) (disch := omega) [ST, S163, ew])
      ·simp -dsimp -implicitDefEqProofs (maxSteps := 1000000) (disch := omega) [ST, S163, h, k0, hi0, hb, wrap_u8, w1]
       refine again (i + 1, (x * 10 + (b.toNat - 48)) % 18446744073709551616) ⟨by simp only; omega, by simp only; omega, nxt⟩ (by simp only; omega) (by simp -dsimp -implicitDefEqProofs (maxSteps := 1000000) (disch := omega) [ST, S163, ew])
     ·rw [if_neg hd] at hg
      rw [← hg] at hR
      simp only at hR
      rw [hR]
      unfold isD at hd
      simp only [Bool.and_eq_true, decide_eq_true_eq] at hd
      by_cases hi0 : i = 0
      ·subst hi0
       have : b = c0 := by rw [← hb, hc0]
       subst this
       by_cases hl1 : 1 < l.length
       ·have hc45 : ¬ b.toNat = 45 := fun hh => hm ⟨⟨rfl, hl1⟩, by apply UInt8.toNat.inj; exact hh⟩
        by_cases hd1 : 48 ≤ b.toNat
        ·simp -dsimp -implicitDefEqProofs (maxSteps := 1000000) (disch := omega) [ST, S163, h, k0, hc45, hd1, show ¬ b.toNat ≤ 57 by omega]
        ·simp -dsimp -implicitDefEqProofs (maxSteps := 1000000) (disch := omega) [ST, S163, h, k0, hc45, hd1]
       ·by_cases hc45 : b.toNat = 45
        ·simp -dsimp -implicitDefEqProofs (maxSteps := 1000000) (disch := omega) [ST, S163, h, k0, hc45, hl1]
        ·by_cases hd1 : 48 ≤ b.toNat
         ·simp -dsimp -implicitDefEqProofs (maxSteps := 1000000) (disch := omega) [ST, S163, h, k0, hc45, hd1, show ¬ b.toNat ≤ 57 by omega]
         ·simp -dsimp -implicitDefEqProofs (maxSteps := 1000000) (disch := omega) [ST, S163, h, k0, hc45, hd1]
      ·by_cases hd1 : 48 ≤ b.toNat
       ·simp -dsimp -implicitDefEqProofs (maxSteps := 1000000) (disch := omega) [ST, S163, h, k0, hi0, hb, hd1, show ¬ b.toNat ≤ 57 by omega]
       ·simp -dsimp -implicitDefEqProofs (maxSteps := 1000000) (disch := omega) [ST, S163, h, k0, hi0, hb, hd1]
   ·have hil : i = l.length := by omega
    rw [hil, List.drop_length, goF] at hg
    rw [← hg] at hR
    simp only at hR
    have hn := run_rnumber (m := m) (e3 := e3) (e4 := e4) (nOf l x) (by unfold nOf; split <;> exact i64_in _)
    have e64 : ∀ z : Int, IntKind.i64.wrap (IntKind.u64.wrap z) = IntKind.i64.wrap z := by
     intro z
     rw [wrap_u64m]
     simp [IntKind.wrap, IntKind.bits, IntKind.signed]
    by_cases hc45 : c0 = 45
    ·have e : nOf l x = IntKind.i64.wrap (-(x : Int)) := by unfold nOf; rw [hhd, if_pos (by rw [hc45])]
     have hc : c0.toNat = 45 := by rw [hc45]; rfl
     rw [e] at hn hR
     generalize hN : IntKind.i64.wrap (-(x : Int)) = N at *
     by_cases hs : Lib.itoa N = l
     ·rw [hR, if_pos hs]
      simp -dsimp -implicitDefEqProofs (maxSteps := 1000000) (disch := omega) [ST, S163, h, k0, hc, e64, hN, hn, hs]
     ·rw [hR, if_neg hs]
      simp -dsimp -implicitDefEqProofs (maxSteps := 1000000) (disch := omega) [ST, S163, h, k0, hc, e64, hN, hn, hs]
    ·have e : nOf l x = IntKind.i64.wrap (x : Int) := by unfold nOf; rw [hhd, if_neg (by simpa using hc45)]
     have hc : ¬ c0.toNat = 45 := fun hh => hc45 (by apply UInt8.toNat.inj; exact hh)
     rw [e] at hn hR
     generalize hN : IntKind.i64.wrap (x : Int) = N at *
     by_cases hs : Lib.itoa N = l
     ·rw [hR, if_pos hs]
      simp -dsimp -implicitDefEqProofs (maxSteps := 1000000) (disch := omega) [ST, S163, h, k0, hc, e64, hN, hn, hs]
     ·rw [hR, if_neg hs]
      simp -dsimp -implicitDefEqProofs (maxSteps := 1000000) (disch := omega) [ST, S163, h, k0, hc, e64, hN, hn, hs]
end Go.Vai
