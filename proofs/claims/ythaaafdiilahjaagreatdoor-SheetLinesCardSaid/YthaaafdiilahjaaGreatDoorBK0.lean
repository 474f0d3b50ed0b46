/-
  What functions of layer 9 and of its reference compute: equations of the abstract run, and plain laws of them.
-/
import Derived.Lib.AtoiAllCases
import Derived.Test.YthaaafdiilahjaaGreatDoorBKA
set_option linter.unusedVariables false
set_option linter.unusedSimpArgs false
set_option linter.unnecessarySimpa false
set_option linter.unusedSectionVars false
namespace Go.Vai
variable {m : Int} {e3 e4 : Value}
theorem W_T : (W m e3 e4).T = Tz := rfl
abbrev inI (n : Int) : Prop := -9223372036854775808 ≤ n ∧ n ≤ 9223372036854775807
theorem run_E {f : FuncId} {xs : List AV} {bl : List (Option Blk)} {r : AV × List (Option Blk)} (hT : Tz f = none) (h : Ez f xs bl = some r) : (W m e3 e4).run f xs bl = some r := by
 rw [Env.run_some]
 refine ⟨1, ?_⟩
 have h1 : (W m e3 e4).T f = none := hT
 unfold runN
 rw [h1]
 exact h
theorem run_itoa (n : Int) (h : inI n) : (W m e3 e4).run 66 [i64 n] [] = some (bs (Lib.itoa n), []) := by
 refine run_E rfl ?_
 simp only [Ez, E0]
 rw [if_pos h, itoaC_eq n h]
theorem run_atoi (l : List UInt8) (h : l.length ≤ 1000000000000) : (W m e3 e4).run 106 [bs l] [] = some (match Lib.atoiAll l with
 | .ok v => .tup [i64 v, .fz (.sc .nilIface)]
 | .range => .tup [i64 (Lib.atoiSat l), .err]
 | _ => .tup [i64 0, .err], []) := by
 refine run_E rfl ?_
 simp only [Ez, E0, mkB_size, mkB_list]
 rw [if_pos (by omega)]
 cases Lib.atoiAll l <;> rfl
theorem run_number (n : Int) (h : inI n) : (W m e3 e4).run 34 [i64 n] [] = some (bs (Lib.itoa n), []) := by
 refine run_wp (by rw [W_T]; exact rfl) ?_
 simp -dsimp -implicitDefEqProofs (maxSteps := 1000000) (disch := omega) [ST, run_itoa n h]
def parseG (l : List UInt8) : Int × Bool := match Lib.atoiAll l with
 | .ok v => if Lib.itoa v = l then (v, true) else (0, false)
 | _ => (0, false)
theorem run_parse (l : List UInt8) (h : l.length ≤ 1000000000000) : (W m e3 e4).run 73 [bs l] [] = some (.tup [i64 (parseG l).1, bo (parseG l).2], []) := by
 have h1 := run_atoi (m := m) (e3 := e3) (e4 := e4) l h
 cases ha : Lib.atoiAll l with
 | ok v =>
  rw [ha] at h1
  have hb := Lib.atoiAll_bounds ha
  have h2 := run_itoa (m := m) (e3 := e3) (e4 := e4) v (by exact ⟨by omega, by omega⟩)
  by_cases he : Lib.itoa v = l
  ·have hp : parseG l = (v, true) := by unfold parseG; rw [ha]; exact if_pos he
   rw [hp]
   rw [he] at h2
   refine run_wp (by rw [W_T]; exact rfl) ?_
   simp -dsimp -implicitDefEqProofs (maxSteps := 1000000) (disch := omega) [ST, h1, h2]
  ·have hp : parseG l = (0, false) := by unfold parseG; rw [ha]; exact if_neg he
   rw [hp]
   refine run_wp (by rw [W_T]; exact rfl) ?_
   simp -dsimp -implicitDefEqProofs (maxSteps := 1000000) (disch := omega) [ST, h1, h2, he]
 | range =>
  rw [ha] at h1
  have hp : parseG l = (0, false) := by unfold parseG; rw [ha]
  rw [hp]
  refine run_wp (by rw [W_T]; exact rfl) ?_
  simp -dsimp -implicitDefEqProofs (maxSteps := 1000000) (disch := omega) [ST, h1]
 | _ =>
  rw [ha] at h1
  have hp : parseG l = (0, false) := by unfold parseG; rw [ha]
  rw [hp]
  refine run_wp (by rw [W_T]; exact rfl) ?_
  simp -dsimp -implicitDefEqProofs (maxSteps := 1000000) (disch := omega) [ST, h1]
def upI (c : UInt8) : Nat := if 97 ≤ c.toNat ∧ c.toNat ≤ 122 then c.toNat - 32 else c.toNat
def colG (c : UInt8) : Nat := if 65 ≤ upI c ∧ upI c ≤ 90 then upI c - 64 else 0
abbrev by8 (b : UInt8) : AV := .fz (.sc (.int .u8 (b.toNat : Int)))
theorem run_column (c : UInt8) : (W m e3 e4).run 72 [by8 c] [] = some (i64 (colG c), []) := by
 refine run_wp (by rw [W_T]; exact rfl) ?_
 have hc := c.toNat_lt
 by_cases h1 : 97 ≤ c.toNat
 ·by_cases h2 : c.toNat ≤ 122
  ·have hu : upI c = c.toNat - 32 := if_pos ⟨h1, h2⟩
   have e1 : colG c = c.toNat - 32 - 64 := by unfold colG; rw [hu, if_pos (by omega)]
   have e2 : ((c.toNat - 32 - 64 : Nat) : Int) = (c.toNat : Int) - 32 - 65 + 1 := by omega
   rw [e1, e2]
   simp -dsimp -implicitDefEqProofs (maxSteps := 1000000) (disch := omega) [ST, h1, h2, wrap_u8]
  ·have hu : upI c = c.toNat := if_neg (by omega)
   have e1 : colG c = 0 := by unfold colG; rw [hu, if_neg (by omega)]
   rw [e1]
   simp -dsimp -implicitDefEqProofs (maxSteps := 1000000) (disch := omega) [ST, h1, h2, wrap_u8]
 ·have hu : upI c = c.toNat := if_neg (by omega)
  by_cases h3 : 65 ≤ c.toNat
  ·by_cases h4 : c.toNat ≤ 90
   ·have e1 : colG c = c.toNat - 64 := by unfold colG; rw [hu, if_pos (by omega)]
    have e2 : ((c.toNat - 64 : Nat) : Int) = (c.toNat : Int) - 65 + 1 := by omega
    rw [e1, e2]
    simp -dsimp -implicitDefEqProofs (maxSteps := 1000000) (disch := omega) [ST, h1, h3, h4, wrap_u8]
   ·have e1 : colG c = 0 := by unfold colG; rw [hu, if_neg (by omega)]
    rw [e1]
    simp -dsimp -implicitDefEqProofs (maxSteps := 1000000) (disch := omega) [ST, h1, h3, h4, wrap_u8]
  ·have e1 : colG c = 0 := by unfold colG; rw [hu, if_neg (by omega)]
   rw [e1]
   simp -dsimp -implicitDefEqProofs (maxSteps := 1000000) (disch := omega) [ST, h1, h3, wrap_u8]
end Go.Vai
namespace Go.Vai
variable {m : Int} {e3 e4 : Value}
def plB (r c : Int) : Bool := decide (1 ≤ r) && decide (r ≤ 99) && (decide (1 ≤ c) && decide (c ≤ 26))
abbrev pl (r c : Int) : AV := .agg [i64 r, i64 c]
theorem run_isPlace (r c : Int) : (W m e3 e4).run 27 [pl r c] [] = some (bo (plB r c), []) := by
 refine run_wp (by rw [W_T]; exact rfl) ?_
 unfold plB
 by_cases h1 : 1 ≤ r <;> by_cases h2 : r ≤ 99 <;> by_cases h3 : 1 ≤ c <;> by_cases h4 : c ≤ 26 <;> simp -dsimp -implicitDefEqProofs (maxSteps := 1000000) (disch := omega) [ST, h1, h2, h3, h4]
def placeG : List UInt8 → Option (Int × Int)
 | [] => none
 | c :: r => if (r.length = 1 ∨ r.length = 2) ∧ 0 < colG c ∧ (parseG r).2 = true ∧ plB (parseG r).1 (colG c) = true then some ((parseG r).1, (colG c : Int)) else none
def placeI : List UInt8 → (Int × Int) × Bool
 | [] => ((0, 0), false)
 | [_] => ((0, 0), false)
 | c :: d :: r => if r.length ≤ 1 ∧ 0 < colG c ∧ 49 ≤ d.toNat ∧ d.toNat ≤ 57 then (((parseG (d :: r)).1, (colG c : Int)), (parseG (d :: r)).2 && plB (parseG (d :: r)).1 (colG c)) else ((0, 0), false)
theorem run_placeOf (l : List UInt8) (hl : l.length ≤ 1000000000000) : (W m e3 e4).run 71 [bs l] [] = some (.tup [pl (placeI l).1.1 (placeI l).1.2, bo (placeI l).2], []) := by
 refine run_wp (by rw [W_T]; exact rfl) ?_
 match l, hl with
 | [], _ => simp -dsimp -implicitDefEqProofs (maxSteps := 1000000) (disch := omega) [ST, placeI]
 | [c], _ => simp -dsimp -implicitDefEqProofs (maxSteps := 1000000) (disch := omega) [ST, placeI]
 | c :: d :: r, hl =>
  obtain ⟨l, hL⟩ : ∃ l, l = c :: d :: r := ⟨_, rfl⟩
  have hlen : l.length = r.length + 2 := by rw [hL]; simp
  have hd := d.toNat_lt
  have hc := run_column (m := m) (e3 := e3) (e4 := e4) c
  have hp := run_parse (m := m) (e3 := e3) (e4 := e4) (d :: r) (by simp at hl; simp; omega)
  have hi := run_isPlace (m := m) (e3 := e3) (e4 := e4) (parseG (d :: r)).1 (colG c)
  have g0 : l[0]? = some c := by rw [hL]; rfl
  have g1 : l[1]? = some d := by rw [hL]; rfl
  have gt : l.drop 1 = d :: r := by rw [hL]; rfl
  have gt2 : l.tail = d :: r := by rw [hL]; rfl
  rw [← hL]
  have k0 : ∀ h : 0 < l.length, l[0] = c := fun h => (List.getElem?_eq_some_iff.1 g0).2
  have k1 : ∀ h : 1 < l.length, l[1] = d := fun h => (List.getElem?_eq_some_iff.1 g1).2
  have key : (if r.length ≤ 1 ∧ 0 < colG c ∧ 49 ≤ d.toNat ∧ d.toNat ≤ 57 then (((parseG (d :: r)).1, (colG c : Int)), (parseG (d :: r)).2 && plB (parseG (d :: r)).1 (colG c)) else ((0, 0), false)) = placeI l := by rw [hL]; rfl
  rw [← key]
  clear hL key g0 g1
  generalize hP : parseG (d :: r) = P at *
  obtain ⟨n, b⟩ := P
  simp only at hp hi ⊢
  by_cases h1 : r.length ≤ 1
  ·by_cases h2 : 0 < colG c
   ·by_cases h3 : 49 ≤ d.toNat
    ·by_cases h4 : d.toNat ≤ 57
     ·rw [if_pos ⟨h1, h2, h3, h4⟩]
      cases b <;> simp -dsimp -implicitDefEqProofs (maxSteps := 1000000) (disch := omega) [ST, h1, h2, h3, h4, hc, hp, hi, hlen, k0, k1, gt, gt2, List.take_of_length_le]
     ·rw [if_neg (by omega)]
      simp -dsimp -implicitDefEqProofs (maxSteps := 1000000) (disch := omega) [ST, h1, h2, h3, h4, hc, hp, hi, hlen, k0, k1]
    ·rw [if_neg (by omega)]
     simp -dsimp -implicitDefEqProofs (maxSteps := 1000000) (disch := omega) [ST, h1, h2, h3, hc, hp, hi, hlen, k0, k1]
   ·rw [if_neg (by omega)]
    simp -dsimp -implicitDefEqProofs (maxSteps := 1000000) (disch := omega) [ST, h1, h2, hc, hp, hi, hlen, k0, k1]
  ·rw [if_neg (by omega)]
   simp -dsimp -implicitDefEqProofs (maxSteps := 1000000) (disch := omega) [ST, h1, hc, hp, hi, hlen, k0, k1]
inductive Tok where
 | sign (t : List UInt8)
 | num (n : Int)
 | txt (t : List UInt8)
 | plc (r c : Int)
 | name (t : List UInt8)
 deriving DecidableEq
abbrev tok5 (k : Int) (t : List UInt8) (n r c : Int) : List FV := [.sc (.int .i64 k), .sc (.string (mkB t)), .sc (.int .i64 n), .sc (.int .i64 r), .sc (.int .i64 c)]
def eTok : Tok → List FV
 | .sign t => tok5 0 t 0 0 0
 | .num n => tok5 1 [] n 0 0
 | .txt t => tok5 2 t 0 0 0
 | .plc r c => tok5 3 [] 0 r c
 | .name t => tok5 6 t 0 0 0
end Go.Vai
namespace Go.Vai
variable {m : Int} {e3 e4 : Value}
theorem run_hasp (l p : List UInt8) (hl : l.length ≤ 1000000000000) (hp : p.length ≤ 1000000000000) : (W m e3 e4).run 100 [bs l, bs p] [] = some (bo (p.isPrefixOf l), []) := by
 refine run_wp (by rw [W_T]; exact rfl) ?_
 by_cases h : p.length ≤ l.length
 ·have e : p.isPrefixOf l = decide (l.take p.length = p) := by
   rw [Bool.eq_iff_iff, List.isPrefixOf_iff_prefix, decide_eq_true_eq, List.prefix_iff_eq_take]
   exact ⟨fun h => h.symm, fun h => h.symm⟩
  rw [e]
  by_cases h2 : l.take p.length = p
  ·simp -dsimp -implicitDefEqProofs (maxSteps := 1000000) (disch := omega) [ST, h, h2]
  ·simp -dsimp -implicitDefEqProofs (maxSteps := 1000000) (disch := omega) [ST, h, h2]
 ·have e : p.isPrefixOf l = false := by
   rw [Bool.eq_false_iff, Ne, List.isPrefixOf_iff_prefix]
   exact fun hh => h hh.length_le
  rw [e]
  simp -dsimp -implicitDefEqProofs (maxSteps := 1000000) (disch := omega) [ST, h]
end Go.Vai
namespace Go.Vai
variable {m : Int} {e3 e4 : Value}
@[simp] theorem eTok_len (t : Tok) : (eTok t).length = 5 := by cases t <;> rfl
end Go.Vai
namespace Go.Vai
variable {m : Int} {e3 e4 : Value}
abbrev u64 (n : Int) : AV := .fz (.sc (.int .u64 n))
theorem eB_mk (b : UInt8) : [FV.sc (.int .u8 (b.toNat : Int))] = eB b := rfl
theorem parse_app (a b : List UInt8) : ∀ (acc v : Nat), Lib.parseUint10 acc a = .ok v → Lib.parseUint10 acc (a ++ b) = Lib.parseUint10 v b := by
 induction a with
 | nil =>
  intro acc v h
  simp only [Lib.parseUint10] at h
  injection h with h
  subst h
  rfl
 | cons c r ih =>
  intro acc v h
  simp only [Lib.parseUint10, List.cons_append] at h ⊢
  split at h
  ·split at h
   ·cases h
   ·split at h
    ·cases h
    ·rename_i h1 h2 h3
     rw [if_pos h1, if_neg h2, if_neg h3]
     exact ih _ _ h
  ·cases h
theorem parse_dig (acc k : Nat) (hk : k < 10) (h : acc * 10 + k < 18446744073709551616) : Lib.parseUint10 acc [UInt8.ofNat (48 + k)] = .ok (acc * 10 + k) := by
 have e : (UInt8.ofNat (48 + k)).toNat = 48 + k := by simp; omega
 simp only [Lib.parseUint10, e]
 rw [if_pos (by omega), if_neg (by omega), if_neg (by omega)]
 congr 1
 omega
theorem parse_dec : ∀ u : Nat, u < 18446744073709551616 → Lib.parseUint10 0 (Lib.decDigits u) = .ok u := by
 intro u
 induction u using Nat.strongRecOn with
 | ind u ih =>
  intro hu
  rw [Lib.decDigits]
  split
  ·rename_i h
   rw [parse_dig 0 u h (by omega)]
   congr 1
   omega
  ·rename_i h
   rw [parse_app _ _ 0 (u / 10) (ih _ (by omega) (by omega)), parse_dig _ _ (by omega) (by omega)]
   congr 1
   omega
theorem dec_len : ∀ (k u : Nat), u < 10 ^ (k + 1) → (Lib.decDigits u).length ≤ k + 1
 | 0, u, h => by
  rw [Lib.decDigits, dif_pos (by omega)]; simp
 | k + 1, u, h => by
  rw [Lib.decDigits]
  split
  ·simp
  ·have := dec_len k (u / 10) (by rw [Nat.pow_succ] at h; omega)
   simp
   omega
theorem dec_ne (u : Nat) : Lib.decDigits u ≠ [] := by
 rw [Lib.decDigits]
 split <;> simp
theorem dec_head (u : Nat) : ∀ c r, Lib.decDigits u = c :: r → 48 ≤ c.toNat ∧ c.toNat ≤ 57 := by
 induction u using Nat.strongRecOn with
 | ind u ih =>
  intro c r h
  rw [Lib.decDigits] at h
  split at h
  ·rename_i h1
   injection h with h h2
   rw [← h]
   simp
   omega
  ·rename_i h1
   cases hd : Lib.decDigits (u / 10) with
   | nil => exact absurd hd (dec_ne _)
   | cons c2 r2 =>
    rw [hd] at h
    injection h with h h2
    rw [← h]
    exact ih _ (by omega) c2 r2 hd
theorem atoi_itoa (n : Int) (h : inI n) : Lib.atoiAll (Lib.itoa n) = .ok n := by
 unfold Lib.itoa
 split
 ·rename_i h0
  have hp := parse_dec n.natAbs (by omega)
  have hm : Lib.parseMag (Lib.decDigits n.natAbs) = .ok n.natAbs := by
   unfold Lib.parseMag
   rw [if_neg (dec_ne _), hp]
  simp only [Lib.atoiAll]
  have e45 : (45 : UInt8).toNat = 45 := rfl
  rw [if_pos (.inr e45), hm]
  simp only [e45]
  rw [if_neg (by simp), if_neg (by simp; omega)]
  simp
  omega
 ·rename_i h0
  have hp := parse_dec n.toNat (by omega)
  have hm : Lib.parseMag (Lib.decDigits n.toNat) = .ok n.toNat := by
   unfold Lib.parseMag
   rw [if_neg (dec_ne _), hp]
  cases hd : Lib.decDigits n.toNat with
  | nil => exact absurd hd (dec_ne _)
  | cons c r =>
   have hh := dec_head _ c r hd
   rw [hd] at hm
   simp only [Lib.atoiAll]
   rw [if_neg (by omega), hm]
   simp only
   rw [if_neg (by omega), if_neg (by omega), if_neg (by omega)]
   congr 1
   omega
theorem parseG_itoa (n : Int) (h : inI n) : parseG (Lib.itoa n) = (n, true) := by
 unfold parseG
 rw [atoi_itoa n h]
 exact if_pos rfl
theorem parseG_cases (l : List UInt8) : (∃ v, parseG l = (v, true) ∧ Lib.itoa v = l ∧ inI v) ∨ (parseG l = (0, false) ∧ ¬ Lib.itoa 0 = l) := by
 have h0 : parseG l = (0, false) → ¬ Lib.itoa 0 = l := by
  intro h1 h
  rw [← h, parseG_itoa 0 (by decide)] at h1
  cases h1
 cases ha : Lib.atoiAll l with
 | ok v =>
  have hb := Lib.atoiAll_bounds ha
  by_cases h : Lib.itoa v = l
  ·exact .inl ⟨v, by unfold parseG; rw [ha]; exact if_pos h, h, hb.1, hb.2⟩
  ·have e : parseG l = (0, false) := by unfold parseG; rw [ha]; exact if_neg h
   exact .inr ⟨e, h0 e⟩
 | range =>
  have e : parseG l = (0, false) := by unfold parseG; rw [ha]
  exact .inr ⟨e, h0 e⟩
 | _ =>
  have e : parseG l = (0, false) := by unfold parseG; rw [ha]
  exact .inr ⟨e, h0 e⟩
theorem itoa_len (v : Int) (h : inI v) : (Lib.itoa v).length ≤ 20 := by
 unfold Lib.itoa
 split
 ·have := dec_len 18 v.natAbs (by omega)
  simp; omega
 ·have := dec_len 18 v.toNat (by omega)
  omega
end Go.Vai
