/-
  What functions of layer 9 and of its reference compute: equations of the abstract run, and plain laws of them.
-/
import Derived.Test.YtnfjgkjapcaobaaGreatDoorK4
set_option linter.unusedVariables false
set_option linter.unusedSimpArgs false
set_option linter.unnecessarySimpa false
set_option linter.unusedSectionVars false
namespace Go.Vai
variable {m : Int} {e3 e4 : Value}
theorem upI_lt (c : UInt8) : upI c < 256 := by
 have := c.toNat_lt
 unfold upI
 split <;> omega
theorem run_big (c : UInt8) : (W m e3 e4).run 122 [by8 c] [] = some (u8 (upI c), []) := by
 refine run_wp (by rw [W_T]; exact rfl) ?_
 have hc := c.toNat_lt
 unfold upI
 by_cases h1 : 97 ≤ c.toNat
 ·by_cases h2 : c.toNat ≤ 122
  ·rw [if_pos ⟨h1, h2⟩]
   have e : ((c.toNat - 32 : Nat) : Int) = (c.toNat : Int) - 32 := by omega
   rw [e]
   simp -dsimp -implicitDefEqProofs (maxSteps := 1000000) (disch := omega) [ST, h1, h2, wrap_u8]
  ·rw [if_neg (by omega)]
   simp -dsimp -implicitDefEqProofs (maxSteps := 1000000) (disch := omega) [ST, h1, h2]
 ·rw [if_neg (by omega)]
  simp -dsimp -implicitDefEqProofs (maxSteps := 1000000) (disch := omega) [ST, h1]
theorem run_rletter (c : UInt8) : (W m e3 e4).run 90 [by8 c] [] = some (bo (isL c), []) := by
 refine run_wp (by rw [W_T]; exact rfl) ?_
 have h := run_big (m := m) (e3 := e3) (e4 := e4) c
 unfold isL colG
 have hu := upI_lt c
 generalize upI c = u at *
 by_cases h1 : 65 ≤ u
 ·by_cases h2 : u ≤ 90
  ·rw [if_pos ⟨h1, h2⟩]
   simp -dsimp -implicitDefEqProofs (maxSteps := 1000000) (disch := omega) [ST, h, h1, h2, show 0 < u - 64 by omega]
  ·rw [if_neg (by omega)]
   simp -dsimp -implicitDefEqProofs (maxSteps := 1000000) (disch := omega) [ST, h, h1, h2]
 ·rw [if_neg (by omega)]
  simp -dsimp -implicitDefEqProofs (maxSteps := 1000000) (disch := omega) [ST, h, h1]
theorem run_rdigit (c : UInt8) : (W m e3 e4).run 91 [by8 c] [] = some (bo (isD c), []) := by
 refine run_wp (by rw [W_T]; exact rfl) ?_
 have hc := c.toNat_lt
 unfold isD
 by_cases h1 : 48 ≤ c.toNat
 ·by_cases h2 : c.toNat ≤ 57
  ·simp -dsimp -implicitDefEqProofs (maxSteps := 1000000) (disch := omega) [ST, h1, h2]
  ·simp -dsimp -implicitDefEqProofs (maxSteps := 1000000) (disch := omega) [ST, h1, h2]
 ·simp -dsimp -implicitDefEqProofs (maxSteps := 1000000) (disch := omega) [ST, h1]
theorem run_rIsPlace (r c : Int) : (W m e3 e4).run 164 [pl r c] [] = some (bo (plB r c), []) := by
 refine run_wp (by rw [W_T]; exact rfl) ?_
 unfold plB
 by_cases h1 : 1 ≤ r <;> by_cases h2 : r ≤ 99 <;> by_cases h3 : 1 ≤ c <;> by_cases h4 : c ≤ 26 <;> simp -dsimp -implicitDefEqProofs (maxSteps := 1000000) (disch := omega) [ST, h1, h2, h3, h4]
def placeR (l : List UInt8) : AV := match placeG l with
 | some p => .tup [pl p.1 p.2, bo true]
 | none => .tup [pl 0 0, bo false]
theorem run_readPlace (l : List UInt8) (hl : l.length ≤ 1000000000000) : (W m e3 e4).run 124 [bs l] [] = some (placeR l, []) := by
 refine run_wp (by rw [W_T]; exact rfl) ?_
 match l, hl with
 | [], _ => simp -dsimp -implicitDefEqProofs (maxSteps := 1000000) (disch := omega) [ST, placeR, placeG]
 | [c], _ =>
  have e : placeG [c] = none := by simp [placeG]
  simp -dsimp -implicitDefEqProofs (maxSteps := 1000000) (disch := omega) [ST, placeR, e]
 | c :: d :: r, hl =>
  obtain ⟨l, hL⟩ : ∃ l, l = c :: d :: r := ⟨_, rfl⟩
  have hlen : l.length = r.length + 2 := by rw [hL]; simp
  have hb := run_big (m := m) (e3 := e3) (e4 := e4) c
  have hc := run_rletter (m := m) (e3 := e3) (e4 := e4) c
  have hp := run_rparse (m := m) (e3 := e3) (e4 := e4) (d :: r) (by simp at hl; simp; omega)
  have hi := run_rIsPlace (m := m) (e3 := e3) (e4 := e4) (parseG (d :: r)).1 (colG c)
  have g0 : l[0]? = some c := by rw [hL]; rfl
  have gt : l.drop 1 = d :: r := by rw [hL]; rfl
  have gt2 : l.tail = d :: r := by rw [hL]; rfl
  rw [← hL]
  have k0 : ∀ h : 0 < l.length, l[0] = c := fun h => (List.getElem?_eq_some_iff.1 g0).2
  have key : placeG l = if ((d :: r).length = 1 ∨ (d :: r).length = 2) ∧ 0 < colG c ∧ (parseG (d :: r)).2 = true ∧ plB (parseG (d :: r)).1 (colG c) = true then some ((parseG (d :: r)).1, (colG c : Int)) else none := by rw [hL]; rfl
  unfold placeR
  rw [key]
  clear hL key g0
  have hu := upI_lt c
  generalize hP : parseG (d :: r) = P at *
  obtain ⟨n, b⟩ := P
  simp only [List.length_cons] at hp hi ⊢
  by_cases h1 : r.length ≤ 1
  ·by_cases h2 : isL c = true
   ·rw [h2] at hc
    unfold isL at h2
    simp only [decide_eq_true_eq] at h2
    have hcol : colG c = upI c - 64 ∧ 65 ≤ upI c ∧ upI c ≤ 90 := by
     unfold colG at h2 ⊢
     split at h2
     ·rename_i h3; rw [if_pos h3]; exact ⟨rfl, h3⟩
     ·omega
    have ec : ((colG c : Nat) : Int) = (upI c : Int) - 65 + 1 := by omega
    cases b with
    | false =>
     rw [if_neg (by simp)]
     simp -dsimp -implicitDefEqProofs (maxSteps := 1000000) (disch := omega) [ST, h1, h2, hc, hb, hp, hi, hlen, k0, gt, gt2, List.take_of_length_le, wrap_u8]
    | true =>
     cases hpb : plB n (colG c) with
     | true =>
      rw [if_pos ⟨by omega, h2, rfl, rfl⟩]
      rw [hpb] at hi
      rw [ec] at hi ⊢
      simp -dsimp -implicitDefEqProofs (maxSteps := 1000000) (disch := omega) [ST, h1, h2, hc, hb, hp, hi, hlen, k0, gt, gt2, List.take_of_length_le, wrap_u8]
     | false =>
      rw [if_neg (by simp)]
      rw [hpb] at hi
      rw [ec] at hi
      simp -dsimp -implicitDefEqProofs (maxSteps := 1000000) (disch := omega) [ST, h1, h2, hc, hb, hp, hi, hlen, k0, gt, gt2, List.take_of_length_le, wrap_u8]
   ·rw [Bool.eq_false_iff.2 h2] at hc
    unfold isL at h2
    simp only [decide_eq_true_eq] at h2
    rw [if_neg (fun h => h2 h.2.1)]
    simp -dsimp -implicitDefEqProofs (maxSteps := 1000000) (disch := omega) [ST, h1, hc, hlen, k0]
  ·rw [if_neg (by omega)]
   simp -dsimp -implicitDefEqProofs (maxSteps := 1000000) (disch := omega) [ST, h1, hlen, k0]
theorem dec_head1 (u : Nat) (h0 : 1 ≤ u) : ∀ c r, Lib.decDigits u = c :: r → 49 ≤ c.toNat ∧ c.toNat ≤ 57 := by
 induction u using Nat.strongRecOn with
 | ind u ih =>
  intro c r h
  rw [Lib.decDigits] at h
  split at h
  ·rename_i h1
   injection h with h h2
   rw [← h]
   simp
   omega
  ·rename_i h1
   cases hd : Lib.decDigits (u / 10) with
   | nil => exact absurd hd (dec_ne _)
   | cons c2 r2 =>
    rw [hd] at h
    injection h with h h2
    rw [← h]
    exact ih _ (by omega) (by omega) c2 r2 hd
theorem parse_head {d : UInt8} {r : List UInt8} (h : (parseG (d :: r)).2 = true) (hp : 1 ≤ (parseG (d :: r)).1) : 49 ≤ d.toNat ∧ d.toNat ≤ 57 := by
 rcases parseG_cases (d :: r) with ⟨v, h1, h2, h3⟩ | ⟨h1, h2⟩
 ·rw [h1] at hp
  unfold Lib.itoa at h2
  rw [if_neg (by simp at hp; omega)] at h2
  exact dec_head1 v.toNat (by simp at hp; omega) d r h2
 ·rw [h1] at h; cases h
theorem plB_iff {r c : Int} : plB r c = true ↔ 1 ≤ r ∧ r ≤ 99 ∧ 1 ≤ c ∧ c ≤ 26 := by
 unfold plB
 simp only [Bool.and_eq_true, decide_eq_true_eq]
 omega
theorem placeG_I : ∀ l, placeG l = if (placeI l).2 = true then some (placeI l).1 else none
 | [] => rfl
 | [c] => by rw [placeG, if_neg (by simp)]; rfl
 | c :: d :: r => by
  rw [placeG, placeI]
  by_cases h : r.length ≤ 1 ∧ 0 < colG c ∧ 49 ≤ d.toNat ∧ d.toNat ≤ 57
  ·rw [if_pos h]
   by_cases h2 : (parseG (d :: r)).2 = true ∧ plB (parseG (d :: r)).1 (colG c) = true
   ·rw [if_pos ⟨by simp only [List.length_cons]; omega, h.2.1, h2⟩, if_pos (by simp [h2.1, h2.2])]
   ·rw [if_neg (fun hh => h2 hh.2.2), if_neg (by simpa using h2)]
  ·rw [if_neg h, if_neg, if_neg (by simp)]
   rintro ⟨h1, h2, h3, h4⟩
   have := parse_head h3 (plB_iff.1 h4).1
   simp only [List.length_cons] at h1
   exact h ⟨by omega, h2, this⟩
def S123 (l : List UInt8) (b : Bool) (i : Nat) : St := { sl := [(0, bs l), (1, i64 i), (2, bo b)], hp := [], nx := 0 }
def isLD (b : Bool) : UInt8 → Bool := if b then isL else isD
theorem run_rspan (l : List UInt8) (at' : Nat) (b : Bool) (hl : l.length ≤ 1000000000000) (ha : at' ≤ l.length) : (W m e3 e4).run 123 [bs l, i64 at', bo b] [] = some (i64 (at' + spanG (isLD b) (l.drop at') : Nat), []) := by
 refine run_wp (by rw [W_T]; exact rfl) ?_
 simp -dsimp -implicitDefEqProofs (maxSteps := 1000000) (disch := omega) [ST]
 refine wp_inv (S123 l b) (fun i => at' ≤ i ∧ i ≤ l.length ∧ i + spanG (isLD b) (l.drop i) = at' + spanG (isLD b) (l.drop at')) (fun i => l.length - i) at' ⟨Nat.le_refl _, ha, rfl⟩ (by simp -dsimp -implicitDefEqProofs (maxSteps := 1000000) (disch := omega) [ST, S123]) ?_
 rintro i ⟨h0, hi, hs⟩
 by_cases h : i < l.length
 ·obtain ⟨c, hc⟩ : ∃ c, l[i] = c := ⟨_, rfl⟩
  have hc2 : l[i]? = some c := by rw [List.getElem?_eq_getElem h, hc]
  have hsp := spanG_drop (isLD b) l i c hc2
  have h1 := run_rletter (m := m) (e3 := e3) (e4 := e4) c
  have h2 := run_rdigit (m := m) (e3 := e3) (e4 := e4) c
  cases b with
  | true =>
   by_cases hp : isL c = true
   ·rw [if_pos (show isLD true c = true from hp)] at hsp
    rw [hp] at h1
    simp -dsimp -implicitDefEqProofs (maxSteps := 1000000) (disch := omega) [ST, S123, h, hc, h1]
    refine again (i + 1) ⟨by omega, by omega, by omega⟩ (by omega) (by simp -dsimp -implicitDefEqProofs (maxSteps := 1000000) (disch := omega) [ST, S123])
   ·rw [if_neg (show ¬ isLD true c = true from hp)] at hsp
    rw [Bool.eq_false_iff.2 hp] at h1
    simp -dsimp -implicitDefEqProofs (maxSteps := 1000000) (disch := omega) [ST, S123, h, hc, h1]
    omega
  | false =>
   by_cases hp : isD c = true
   ·rw [if_pos (show isLD false c = true from hp)] at hsp
    rw [hp] at h2
    simp -dsimp -implicitDefEqProofs (maxSteps := 1000000) (disch := omega) [ST, S123, h, hc, h2]
    refine again (i + 1) ⟨by omega, by omega, by omega⟩ (by omega) (by simp -dsimp -implicitDefEqProofs (maxSteps := 1000000) (disch := omega) [ST, S123])
   ·rw [if_neg (show ¬ isLD false c = true from hp)] at hsp
    rw [Bool.eq_false_iff.2 hp] at h2
    simp -dsimp -implicitDefEqProofs (maxSteps := 1000000) (disch := omega) [ST, S123, h, hc, h2]
    omega
 ·have : i = l.length := by omega
  subst this
  rw [List.drop_length] at hs
  simp only [spanG] at hs
  simp -dsimp -implicitDefEqProofs (maxSteps := 1000000) (disch := omega) [ST, S123, h]
  omega
end Go.Vai
namespace Go.Vai
variable {m : Int} {e3 e4 : Value}
abbrev tok6 (k : Int) (t : List UInt8) (n r c : Int) (b : Bool) : List FV := [.sc (.int .i64 k), .sc (.string (mkB t)), .sc (.int .i64 n), .sc (.int .i64 r), .sc (.int .i64 c), .sc (.bool b)]
def rTok : Tok → List FV
 | .sign t => tok6 0 t 0 0 0 false
 | .num n => tok6 1 [] n 0 0 false
 | .txt t => tok6 2 t 0 0 0 false
 | .plc r c => tok6 3 [] 0 r c false
 | .name t => tok6 0 t 0 0 0 true
def RT (r : Option (AV × List (Option Blk))) (at' : Nat) : Option (Tok × Nat) → Prop
 | some p => r = some (.tup [tokA (rTok p.1), i64 (at' + p.2 : Nat), bo true], [])
 | none => ∃ k s n r' c b e, r = some (.tup [tokA (tok6 k s n r' c b), i64 e, bo false], [])
def S89 (l : List UInt8) (a : Nat × List UInt8) : St := { sl := [(0, bs l), (1, i64 a.1), (7, .osl 0 1 0 a.2.length)], hp := [(0, some (.arr 1 (a.2.map eB)))], nx := 1 }
def rquotR (l : List UInt8) : Option (List UInt8 × Nat) → AV
 | none => .tup [bs [], i64 l.length, bo false]
 | some p => .tup [bs p.1, i64 p.2, bo true]
theorem run_rquoted (l : List UInt8) (at' : Nat) (hl : l.length ≤ 1000000000000) (ha : at' ≤ l.length) : (W m e3 e4).run 89 [bs l, i64 at'] [] = some (rquotR l (putG [] at' (quotG (l.drop at'))), []) := by
 refine run_wp (by rw [W_T]; exact rfl) ?_
 simp -dsimp -implicitDefEqProofs (maxSteps := 1000000) (disch := omega) [ST, -BitVec.toNat_xor, -BitVec.toNat_and, -BitVec.toNat_or, -BitVec.toNat_not, -BitVec.toNat_ushiftRight, -BitVec.toNat_shiftLeft, -BitVec.toNat_mul, -UInt8.toNat_xor, -UInt8.toNat_and, -UInt8.toNat_or, -UInt8.toNat_shiftLeft, -UInt8.toNat_shiftRight]
 refine wp_inv (S89 l) (fun a => a.2.length ≤ a.1 ∧ a.1 ≤ l.length ∧ putG a.2 a.1 (quotG (l.drop a.1)) = putG [] at' (quotG (l.drop at'))) (fun a => l.length - a.1) (at', []) ⟨by simp, ha, rfl⟩ (by simp -dsimp -implicitDefEqProofs (maxSteps := 1000000) (disch := omega) [ST, -BitVec.toNat_xor, -BitVec.toNat_and, -BitVec.toNat_or, -BitVec.toNat_not, -BitVec.toNat_ushiftRight, -BitVec.toNat_shiftLeft, -BitVec.toNat_mul, -UInt8.toNat_xor, -UInt8.toNat_and, -UInt8.toNat_or, -UInt8.toNat_shiftLeft, -UInt8.toNat_shiftRight, S89]) ?_
 rintro ⟨i, o⟩ ⟨ho, hi, hq⟩
 simp only at ho hi hq
 have t1 : ∀ X, List.take (o.length + 1) (List.map eB o ++ [X]) = List.map eB o ++ [X] := fun X => List.take_of_length_le (by simp)
 by_cases h : i < l.length
 ·obtain ⟨c, hc⟩ : ∃ c, l[i] = c := ⟨_, rfl⟩
  rw [List.drop_eq_getElem_cons h, hc, quotG_cons] at hq
  by_cases h34 : c = 34
  ·subst h34
   rw [if_pos rfl] at hq
   by_cases h2 : i + 1 < l.length
   ·obtain ⟨d, hd⟩ : ∃ d, l[i + 1] = d := ⟨_, rfl⟩
    rw [List.drop_eq_getElem_cons h2, hd] at hq
    simp only at hq
    by_cases h3 : d = 34
    ·subst h3
     rw [if_pos rfl] at hq
     simp -dsimp -implicitDefEqProofs (maxSteps := 1000000) (disch := omega) [ST, -BitVec.toNat_xor, -BitVec.toNat_and, -BitVec.toNat_or, -BitVec.toNat_not, -BitVec.toNat_ushiftRight, -BitVec.toNat_shiftLeft, -BitVec.toNat_mul, -UInt8.toNat_xor, -UInt8.toNat_and, -UInt8.toNat_or, -UInt8.toNat_shiftLeft, -UInt8.toNat_shiftRight, S89, h, hc, h2, hd, t1, show (i : Int) + 1 < l.length by omega, show o.length + 1 ≤ 140737488355328 by omega]
     refine again (i + 2, o ++ [34]) ⟨by simp; omega, by simp only; omega, by rw [← hq]; exact putG_app2 _ _ _⟩ (by simp only; omega) (by simp -dsimp -implicitDefEqProofs (maxSteps := 1000000) (disch := omega) [ST, -BitVec.toNat_xor, -BitVec.toNat_and, -BitVec.toNat_or, -BitVec.toNat_not, -BitVec.toNat_ushiftRight, -BitVec.toNat_shiftLeft, -BitVec.toNat_mul, -UInt8.toNat_xor, -UInt8.toNat_and, -UInt8.toNat_or, -UInt8.toNat_shiftLeft, -UInt8.toNat_shiftRight, S89, eB])
    ·rw [if_neg h3] at hq
     have hdn : ¬ d.toNat = 34 := fun e => h3 (by apply UInt8.toNat.inj; exact e)
     rw [← hq]
     simp -dsimp -implicitDefEqProofs (maxSteps := 1000000) (disch := omega) [ST, -BitVec.toNat_xor, -BitVec.toNat_and, -BitVec.toNat_or, -BitVec.toNat_not, -BitVec.toNat_ushiftRight, -BitVec.toNat_shiftLeft, -BitVec.toNat_mul, -UInt8.toNat_xor, -UInt8.toNat_and, -UInt8.toNat_or, -UInt8.toNat_shiftLeft, -UInt8.toNat_shiftRight, S89, h, hc, h2, hd, t1, hdn, putG, rquotR, show (i : Int) + 1 < l.length by omega, show o.length + 1 ≤ 140737488355328 by omega]
   ·rw [List.drop_of_length_le (by omega)] at hq
    rw [← hq]
    simp -dsimp -implicitDefEqProofs (maxSteps := 1000000) (disch := omega) [ST, -BitVec.toNat_xor, -BitVec.toNat_and, -BitVec.toNat_or, -BitVec.toNat_not, -BitVec.toNat_ushiftRight, -BitVec.toNat_shiftLeft, -BitVec.toNat_mul, -UInt8.toNat_xor, -UInt8.toNat_and, -UInt8.toNat_or, -UInt8.toNat_shiftLeft, -UInt8.toNat_shiftRight, S89, h, hc, h2, t1, putG, rquotR, show ¬ (i : Int) + 1 < l.length by omega]
  ·rw [if_neg h34] at hq
   have hcn : ¬ c.toNat = 34 := fun e => h34 (by apply UInt8.toNat.inj; exact e)
   simp -dsimp -implicitDefEqProofs (maxSteps := 1000000) (disch := omega) [ST, -BitVec.toNat_xor, -BitVec.toNat_and, -BitVec.toNat_or, -BitVec.toNat_not, -BitVec.toNat_ushiftRight, -BitVec.toNat_shiftLeft, -BitVec.toNat_mul, -UInt8.toNat_xor, -UInt8.toNat_and, -UInt8.toNat_or, -UInt8.toNat_shiftLeft, -UInt8.toNat_shiftRight, S89, h, hc, hcn, t1, show o.length + 1 ≤ 140737488355328 by omega]
   refine again (i + 1, o ++ [c]) ⟨by simp; omega, by simp only; omega, by rw [← hq]; exact putG_app1 _ _ _ _⟩ (by simp only; omega) (by simp -dsimp -implicitDefEqProofs (maxSteps := 1000000) (disch := omega) [ST, -BitVec.toNat_xor, -BitVec.toNat_and, -BitVec.toNat_or, -BitVec.toNat_not, -BitVec.toNat_ushiftRight, -BitVec.toNat_shiftLeft, -BitVec.toNat_mul, -UInt8.toNat_xor, -UInt8.toNat_and, -UInt8.toNat_or, -UInt8.toNat_shiftLeft, -UInt8.toNat_shiftRight, S89, eB])
 ·rw [List.drop_of_length_le (by omega)] at hq
  rw [← hq]
  have : i = l.length := by omega
  subst this
  simp -dsimp -implicitDefEqProofs (maxSteps := 1000000) (disch := omega) [ST, -BitVec.toNat_xor, -BitVec.toNat_and, -BitVec.toNat_or, -BitVec.toNat_not, -BitVec.toNat_ushiftRight, -BitVec.toNat_shiftLeft, -BitVec.toNat_mul, -UInt8.toNat_xor, -UInt8.toNat_and, -UInt8.toNat_or, -UInt8.toNat_shiftLeft, -UInt8.toNat_shiftRight, S89, h, putG, rquotR, quotG_nil]
def zeroB : List AV := [i64 0, bs [], i64 0, i64 0, i64 0, bo false]
def S92 (l : List UInt8) (e : Nat) (a : Nat × Nat) : St := { sl := [(0, bs l), (4, .bp 0 0), (7, i64 e), (8, i64 a.2), (9, i64 a.1)], hp := [(0, some (.box zeroB))], nx := 1 }
set_option maxHeartbeats 1000000 in
theorem run_rword_num (l : List UInt8) (at' : Nat) (c : UInt8) (hl : l.length ≤ 1000000000000) (ha : at' < l.length) (hc : l[at'] = c) (hd : isD c = true) :
 RT ((W m e3 e4).run 92 [bs l, i64 at'] []) at' (if spanG isD (l.drop at') > 9 then none else some (.num (valG ((l.drop at').take (spanG isD (l.drop at')))), spanG isD (l.drop at'))) := by
 have d1 := run_rdigit (m := m) (e3 := e3) (e4 := e4) c
 rw [hd] at d1
 have d3 := run_rspan (m := m) (e3 := e3) (e4 := e4) l at' false hl (by omega)
 have hsp := spanG_get isD (l.drop at')
 have hle := spanG_le isD (l.drop at')
 rw [List.length_drop] at hle
 have e0 : spanG (isLD false) (l.drop at') = spanG isD (l.drop at') := rfl
 rw [e0] at d3
 generalize spanG isD (l.drop at') = n at *
 have ki : ∀ h : at' < l.length, l[at'] = c := fun _ => hc
 by_cases h2 : n > 9
 ·rw [if_pos h2]
  refine ⟨0, [], 0, 0, 0, false, (at' + n : Nat), ?_⟩
  refine run_wp (by rw [W_T]; exact rfl) ?_
  simp -dsimp -implicitDefEqProofs (maxSteps := 1000000) (disch := omega) [ST, ha, ki, d1, d3, h2, tokA, show (at' : Int) + n - at' = n by omega]
 ·rw [if_neg h2]
  refine run_wp (by rw [W_T]; exact rfl) ?_
  simp -dsimp -implicitDefEqProofs (maxSteps := 1000000) (disch := omega) [ST, ha, ki, d1, d3, h2, show (at' : Int) + n - at' = n by omega]
  refine wp_inv (S92 l (at' + n)) (fun a => at' ≤ a.1 ∧ a.1 ≤ at' + n ∧ a.2 = valG ((l.drop at').take (a.1 - at')) ∧ a.2 < 10 ^ (a.1 - at')) (fun a => at' + n - a.1) (at', 0) ⟨Nat.le_refl _, by simp, by simp [valG], by simp⟩ (by simp -dsimp -implicitDefEqProofs (maxSteps := 1000000) (disch := omega) [ST, S92, zeroB]) ?_
  rintro ⟨k, v⟩ ⟨h0, hk, hv, hb⟩
  simp only at h0 hk hv hb
  by_cases h : k < at' + n
  ·have hkl : k < l.length := by omega
   obtain ⟨b, hb1⟩ : ∃ b, l[k] = b := ⟨_, rfl⟩
   have hb2 : (l.drop at')[k - at']? = some b := by rw [List.getElem?_drop, show at' + (k - at') = k by omega, List.getElem?_eq_getElem hkl, hb1]
   have hbd := hsp (k - at') b (by omega) hb2
   unfold isD at hbd
   simp only [Bool.and_eq_true, decide_eq_true_eq] at hbd
   have ht := valG_take (l.drop at') (k - at') b hb2
   have h10 : 10 ^ (k - at') ≤ 10 ^ 8 := Nat.pow_le_pow_right (by omega) (by omega)
   have h11 : 10 ^ (k - at' + 1) = 10 * 10 ^ (k - at') := by rw [Nat.pow_succ]; omega
   have eb : ((10 * v + (b.toNat - 48) : Nat) : Int) = (v : Int) * 10 + ((b.toNat : Int) - 48) := by omega
   simp -dsimp -implicitDefEqProofs (maxSteps := 1000000) (disch := omega) [ST, S92, zeroB, h, hkl, hb1, wrap_u8]
   refine again (k + 1, 10 * v + (b.toNat - 48)) ⟨by simp only; omega, by simp only; omega, by simp only; rw [show k + 1 - at' = k - at' + 1 by omega, ht, hv], by simp only; rw [show k + 1 - at' = k - at' + 1 by omega, h11]; omega⟩ (by simp only; omega) (by simp -dsimp -implicitDefEqProofs (maxSteps := 1000000) (disch := omega) [ST, S92, zeroB, eb])
  ·have hkn : k = at' + n := by omega
   subst hkn
   rw [Nat.add_sub_cancel_left] at hv
   rw [← hv]
   simp -dsimp -implicitDefEqProofs (maxSteps := 1000000) (disch := omega) [ST, S92, zeroB, h, tokA, rTok]
end Go.Vai
