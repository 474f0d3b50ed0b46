/-
  What functions of layer 9 and of its reference compute: equations of the abstract run, and plain laws of them.
-/
import Derived.Test.YthaaafdiilahjaaGreatDoorBK0
set_option linter.unusedVariables false
set_option linter.unusedSimpArgs false
set_option linter.unnecessarySimpa false
set_option linter.unusedSectionVars false
namespace Go.Vai
variable {m : Int} {e3 e4 : Value}
def eIn (n : Int) : List FV := [.sc (.int .i64 n)]
def eTx (t : List UInt8) : List FV := [.sc (.string (mkB t))]
def rwS (l : List (List FV)) : AV := .fz (.sl l)
def S41 (a : List Int × List Int × List Int) : St :=
 { sl := [(0, rwS ((a.1 ++ a.2.1).map eIn)), (1, rwS ((a.1 ++ a.2.2).map eIn)), (5, i64 a.1.length)], hp := [], nx := 0 }
theorem run_sameNums (A B : List Int) (hA : A.length ≤ 1000000000000) : (W m e3 e4).run 41 [rwS (A.map eIn), rwS (B.map eIn)] [] = some (bo (decide (A = B)), []) := by
 refine run_wp (by rw [W_T]; exact rfl) ?_
 by_cases hl : A.length = B.length
 ·simp -dsimp -implicitDefEqProofs (maxSteps := 1000000) (disch := omega) [ST, rwS, eIn, hl]
  refine wp_inv S41 (fun a => a.1 ++ a.2.1 = A ∧ a.1 ++ a.2.2 = B) (fun a => a.2.1.length) ([], A, B) (by simp) (by simp -dsimp -implicitDefEqProofs (maxSteps := 1000000) (disch := omega) [ST, S41, rwS, eIn]) ?_
  rintro ⟨pre, ra, rb⟩ ⟨h1, h2⟩
  subst h1; subst h2
  simp at hA hl
  cases ra with
  | nil =>
   obtain rfl : rb = [] := List.eq_nil_of_length_eq_zero (by simpa using hl.symm)
   simp -dsimp -implicitDefEqProofs (maxSteps := 1000000) (disch := omega) [ST, S41, rwS, eIn]
  | cons p ra =>
   cases rb with
   | nil => simp at hl
   | cons q rb =>
    simp at hl hA
    by_cases e : p = q
    ·subst e
     simp -dsimp -implicitDefEqProofs (maxSteps := 1000000) (disch := omega) [ST, S41, rwS, eIn]
     refine again (pre ++ [p], ra, rb) ?_ ?_ ?_
     ·simp
     ·simp
     ·simp -dsimp -implicitDefEqProofs (maxSteps := 1000000) (disch := omega) [ST, S41, rwS, eIn]
    ·simp -dsimp -implicitDefEqProofs (maxSteps := 1000000) (disch := omega) [ST, S41, rwS, eIn, e]
 ·have : A ≠ B := fun e => hl (by rw [e])
  simp -dsimp -implicitDefEqProofs (maxSteps := 1000000) (disch := omega) [ST, rwS, eIn, hl, this]
def S42 (a : List Cel × List Cel × List Cel) : St :=
 { sl := [(0, rwS ((a.1 ++ a.2.1).map eCel)), (1, rwS ((a.1 ++ a.2.2).map eCel)), (5, i64 a.1.length)], hp := [], nx := 0 }
set_option maxRecDepth 8000 in
theorem run_sameCells (A B : List Cel) (hA : A.length ≤ 1000000000000) : (W m e3 e4).run 42 [rwS (A.map eCel), rwS (B.map eCel)] [] = some (bo (decide (A = B)), []) := by
 refine run_wp (by rw [W_T]; exact rfl) ?_
 by_cases hl : A.length = B.length
 ·simp -dsimp -implicitDefEqProofs (maxSteps := 1000000) (disch := omega) [ST, rwS, hl]
  refine wp_inv S42 (fun a => a.1 ++ a.2.1 = A ∧ a.1 ++ a.2.2 = B) (fun a => a.2.1.length) ([], A, B) (by simp) (by simp -dsimp -implicitDefEqProofs (maxSteps := 1000000) (disch := omega) [ST, S42, rwS]) ?_
  rintro ⟨pre, ra, rb⟩ ⟨h1, h2⟩
  subst h1; subst h2
  simp at hA hl
  cases ra with
  | nil =>
   obtain rfl : rb = [] := List.eq_nil_of_length_eq_zero (by simpa using hl.symm)
   simp -dsimp -implicitDefEqProofs (maxSteps := 1000000) (disch := omega) [ST, S42, rwS]
  | cons p ra =>
   cases rb with
   | nil => simp at hl
   | cons q rb =>
    simp at hl hA
    by_cases e : p = q
    ·subst e
     simp -dsimp -implicitDefEqProofs (maxSteps := 1000000) (disch := omega) [ST, S42, rwS, eCel]
     refine again (pre ++ [p], ra, rb) ?_ ?_ ?_
     ·simp
     ·simp
     ·simp -dsimp -implicitDefEqProofs (maxSteps := 1000000) (disch := omega) [ST, S42, rwS, eCel]
    ·have : ¬ (p.1 = q.1 ∧ p.2.1 = q.2.1 ∧ p.2.2 = q.2.2) := fun h => e (Prod.ext h.1 (Prod.ext h.2.1 h.2.2))
     obtain ⟨a1, a2, a3⟩ := p
     obtain ⟨b1, b2, b3⟩ := q
     simp only at this
     by_cases c3 : a3 = b3
     ·subst c3
      by_cases c1 : a1 = b1
      ·subst c1
       have c2 : ¬ a2 = b2 := by simpa using this
       simp -dsimp -implicitDefEqProofs (maxSteps := 1000000) (disch := omega) [ST, S42, rwS, eCel, c2]
      ·by_cases c2 : a2 = b2
       ·subst c2
        simp -dsimp -implicitDefEqProofs (maxSteps := 1000000) (disch := omega) [ST, S42, rwS, eCel, c1]
       ·simp -dsimp -implicitDefEqProofs (maxSteps := 1000000) (disch := omega) [ST, S42, rwS, eCel, c1, c2]
     ·by_cases c1 : a1 = b1 <;> by_cases c2 : a2 = b2 <;> simp -dsimp -implicitDefEqProofs (maxSteps := 1000000) (disch := omega) [ST, S42, rwS, eCel, c1, c2, c3]
 ·have : A ≠ B := fun e => hl (by rw [e])
  simp -dsimp -implicitDefEqProofs (maxSteps := 1000000) (disch := omega) [ST, rwS, hl, this]
end Go.Vai
namespace Go.Vai
variable {m : Int} {e3 e4 : Value}
structure Sh where
 cells : List Cel
 wid : List Int
 mac : List (List UInt8)
deriving DecidableEq
def shA (s : Sh) : AV := .agg [rwS (s.cells.map eCel), rwS (s.wid.map eIn), rwS (s.mac.map eTx)]
theorem shA_mk (s : Sh) : shA s = .agg [rwS (s.cells.map eCel), rwS (s.wid.map eIn), rwS (s.mac.map eTx)] := rfl
def ShOk (s : Sh) : Prop := s.cells.length ≤ 1000000000000 ∧ s.wid.length ≤ 1000000000000 ∧ s.mac.length ≤ 1000000000000
def S14 (s t : Sh) (a : List (List UInt8) × List (List UInt8) × List (List UInt8)) : St :=
 { sl := [(2, .bp 0 0), (3, .bp 1 0), (5, i64 a.1.length)], hp := [(0, some (.box [rwS (s.cells.map eCel), rwS (s.wid.map eIn), rwS ((a.1 ++ a.2.1).map eTx)])), (1, some (.box [rwS (t.cells.map eCel), rwS (t.wid.map eIn), rwS ((a.1 ++ a.2.2).map eTx)]))], nx := 2 }
theorem run_sameSheet (s t : Sh) (hs : ShOk s) : (W m e3 e4).run 14 [shA s, shA t] [] = some (bo (decide (s = t)), []) := by
 obtain ⟨h1, h2, h3⟩ := hs
 obtain ⟨sc, sw, sm⟩ := s
 obtain ⟨tc, tw, tm⟩ := t
 simp only at h1 h2 h3
 have hn := run_sameNums (m := m) (e3 := e3) (e4 := e4) sw tw h2
 have hc := run_sameCells (m := m) (e3 := e3) (e4 := e4) sc tc h1
 simp only [shA_mk, rwS] at hn hc ⊢
 refine run_wp (by rw [W_T]; exact rfl) ?_
 by_cases hl : sm.length = tm.length
 ·by_cases hw : sw = tw
  ·subst hw
   simp -dsimp -implicitDefEqProofs (maxSteps := 1000000) (disch := omega) [ST, hl, hn]
   refine wp_inv (S14 ⟨sc, sw, sm⟩ ⟨tc, sw, tm⟩) (fun a => a.1 ++ a.2.1 = sm ∧ a.1 ++ a.2.2 = tm) (fun a => a.2.1.length) ([], sm, tm) (by simp) (by simp -dsimp -implicitDefEqProofs (maxSteps := 1000000) (disch := omega) [ST, S14, rwS]) ?_
   rintro ⟨pre, ra, rb⟩ ⟨g1, g2⟩
   simp only at g1 g2
   subst g1; subst g2
   simp at h3 hl
   cases ra with
   | nil =>
    obtain rfl : rb = [] := List.eq_nil_of_length_eq_zero (by simpa using hl.symm)
    simp -dsimp -implicitDefEqProofs (maxSteps := 1000000) (disch := omega) [ST, S14, rwS, hc]
   | cons p ra =>
    cases rb with
    | nil => simp at hl
    | cons q rb =>
     simp at hl h3
     by_cases e : p = q
     ·subst e
      simp -dsimp -implicitDefEqProofs (maxSteps := 1000000) (disch := omega) [ST, S14, rwS, eTx]
      refine again (pre ++ [p], ra, rb) ?_ ?_ ?_
      ·simp
      ·simp
      ·simp -dsimp -implicitDefEqProofs (maxSteps := 1000000) (disch := omega) [ST, S14, rwS, eTx]
     ·simp -dsimp -implicitDefEqProofs (maxSteps := 1000000) (disch := omega) [ST, S14, rwS, eTx, e]
  ·simp -dsimp -implicitDefEqProofs (maxSteps := 1000000) (disch := omega) [ST, hl, hn, hw]
 ·have : sm ≠ tm := fun e => hl (by rw [e])
  simp -dsimp -implicitDefEqProofs (maxSteps := 1000000) (disch := omega) [ST, hl, this]
def befB (a b c d : Int) : Bool := decide (a < c) || (decide (a = c) && decide (b < d))
theorem run_order (a b c d : Int) (ha : 1 ≤ a ∧ a ≤ 99) (hb : 1 ≤ b ∧ b ≤ 26) (hc : 1 ≤ c ∧ c ≤ 99) (hd : 1 ≤ d ∧ d ≤ 26) : (W m e3 e4).run 29 [pl a b, pl c d] [] = some (i64 (if a = c then b - d else a - c), []) := by
 refine run_wp (by rw [W_T]; exact rfl) ?_
 by_cases a1 : a = c
 ·subst a1
  simp -dsimp -implicitDefEqProofs (maxSteps := 1000000) (disch := omega) [ST, wrap_i64]
 ·simp -dsimp -implicitDefEqProofs (maxSteps := 1000000) (disch := omega) [ST, a1, wrap_i64]
end Go.Vai
namespace Go.Vai
variable {m : Int} {e3 e4 : Value}
def wrG (r c : Int) : List UInt8 := UInt8.ofNat (64 + (max 1 (min c 26)).toNat) :: Lib.itoa (max 1 (min r 99))
theorem run_written (r c : Int) (hr : inI r) (hc : inI c) : (W m e3 e4).run 33 [pl r c] [] = some (bs (wrG r c), []) := by
 have hn := run_number (m := m) (e3 := e3) (e4 := e4) (max 1 (min r 99)) (by unfold inI; omega)
 have h1 : 1 ≤ max 1 (min c 26) ∧ max 1 (min c 26) ≤ 26 := by omega
 unfold wrG
 generalize hR : max 1 (min r 99) = R at *
 generalize hC : max 1 (min c 26) = C at *
 have e : ((UInt8.ofNat (64 + C.toNat)).toNat : Int) = 65 + C - 1 := by simp; omega
 generalize UInt8.ofNat (64 + C.toNat) = b at *
 have e1 : bytesOf' [eB b] = some [b] := bytesOf_map [b]
 have hl := itoa_len R (by unfold inI; omega)
 refine run_wp (by rw [W_T]; exact rfl) ?_
 simp -dsimp -implicitDefEqProofs (maxSteps := 1000000) (disch := omega) [ST, -BitVec.toNat_xor, -BitVec.toNat_and, -BitVec.toNat_or, -BitVec.toNat_not, -BitVec.toNat_ushiftRight, -BitVec.toNat_shiftLeft, -BitVec.toNat_mul, -UInt8.toNat_xor, -UInt8.toNat_and, -UInt8.toNat_or, -UInt8.toNat_shiftLeft, -UInt8.toNat_shiftRight, hn, hC, hR, wrap_u8, ← e, eB_mk, e1, show 1 + (Lib.itoa R).length ≤ 9223372036854775807 by omega]
def sumT (l : List (List UInt8)) : Nat := (l.map (·.length)).sum
def szSh (s : Sh) : Nat := s.cells.length + s.wid.length + s.mac.length + sumT (s.cells.map (·.2.2)) + sumT s.mac
def fewB (s : Sh) (k : Int) : Bool := decide ((szSh s : Int) ≤ k)
end Go.Vai
namespace Go.Vai
variable {m : Int} {e3 e4 : Value}
theorem sumT_take (l : List (List UInt8)) (i : Nat) (t : List UInt8) (h : l[i]? = some t) : sumT (l.take (i + 1)) = sumT (l.take i) + t.length := by
 unfold sumT
 rw [List.take_add_one, h]
 simp
theorem sumT_le (l : List (List UInt8)) (i : Nat) : sumT (l.take i) ≤ sumT l := by
 have e : sumT l = sumT (l.take i) + sumT (l.drop i) := by
  unfold sumT
  rw [← List.sum_append, ← List.map_append, List.take_append_drop]
 omega
def S8 (s : Sh) (k : Int) (a : Nat × Nat) : St := { sl := [(1, i64 k), (2, .bp 0 0), (5, i64 a.2), (6, i64 a.1)], hp := [(0, some (.box [rwS (s.cells.map eCel), rwS (s.wid.map eIn), rwS (s.mac.map eTx)]))], nx := 1 }
def S8' (s : Sh) (k : Int) (a : Nat × Nat) : St := { sl := [(1, i64 k), (2, .bp 0 0), (5, i64 a.2), (7, i64 a.1)], hp := [(0, some (.box [rwS (s.cells.map eCel), rwS (s.wid.map eIn), rwS (s.mac.map eTx)]))], nx := 1 }
theorem run_few (s : Sh) (k : Int) (hk0 : k ≤ 1000000000000) (q1 : s.cells.length ≤ 140737488351232) (q2 : s.wid.length ≤ 140737488351232) (q3 : s.mac.length ≤ 140737488351232) (hT : ∀ c ∈ s.cells, c.2.2.length ≤ 140737488351232) (hM : ∀ t ∈ s.mac, t.length ≤ 140737488351232) : (W m e3 e4).run 8 [shA s, i64 k] [] = some (bo (fewB s k), []) := by
 unfold fewB
 have hsz : szSh s = s.cells.length + s.wid.length + s.mac.length + sumT (s.cells.map (·.2.2)) + sumT s.mac := rfl
 obtain ⟨N, hN⟩ : ∃ N, szSh s = N := ⟨_, rfl⟩
 rw [hN] at hsz ⊢
 simp only [shA_mk, rwS]
 refine run_wp (by rw [W_T]; exact rfl) ?_
 simp -dsimp -implicitDefEqProofs (maxSteps := 1000000) (disch := omega) [ST]
 refine wp_inv (S8 s k) (fun a => a.1 ≤ s.cells.length ∧ a.2 = s.cells.length + s.wid.length + s.mac.length + sumT ((s.cells.map (·.2.2)).take a.1) ∧ a.2 ≤ 1000000000000000) (fun a => s.cells.length - a.1) (0, s.cells.length + s.wid.length + s.mac.length) ⟨by simp, by simp [sumT], by simp only; omega⟩ (by simp -dsimp -implicitDefEqProofs (maxSteps := 1000000) (disch := omega) [ST, S8, rwS, wrap_i64]) ?_
 rintro ⟨i, n⟩ ⟨hi, hn, hn0⟩
 simp only at hi hn hn0
 have hle := sumT_le (s.cells.map (·.2.2)) i
 have second : ∀ n : Nat, (n ≤ N) → (n = s.cells.length + s.wid.length + s.mac.length + sumT (s.cells.map (·.2.2)) ∨ k < n) → True := fun _ _ _ => trivial
 by_cases h : i < s.cells.length
 ·by_cases hk : (n : Int) ≤ k
  ·obtain ⟨c, hc⟩ : ∃ c, s.cells[i] = c := ⟨_, rfl⟩
   have hc2 : s.cells[i]? = some c := by rw [List.getElem?_eq_getElem h, hc]
   have ht := sumT_take (s.cells.map (·.2.2)) i c.2.2 (by simp [hc2])
   have hle2 := sumT_le (s.cells.map (·.2.2)) (i + 1)
   have hcl := hT c (List.mem_of_getElem? hc2)
   simp -dsimp -implicitDefEqProofs (maxSteps := 1000000) (disch := omega) [ST, S8, rwS, h, hk, hc, eCel, wrap_i64]
   refine again (i + 1, n + c.2.2.length) ⟨by simp only; omega, by simp only; omega, by simp only; omega⟩ (by simp only; omega) (by simp -dsimp -implicitDefEqProofs (maxSteps := 1000000) (disch := omega) [ST, S8, rwS, eCel])
  ·have hkN : ¬ (N : Int) ≤ k := by omega
   simp -dsimp -implicitDefEqProofs (maxSteps := 1000000) (disch := omega) [ST, S8, rwS, h, hk]
   refine wp_inv (S8' s k) (fun a => a = (0, n)) (fun a => 0) (0, n) rfl (by simp -dsimp -implicitDefEqProofs (maxSteps := 1000000) (disch := omega) [ST, S8', rwS]) ?_
   rintro _ rfl
   by_cases h2 : 0 < s.mac.length <;> simp -dsimp -implicitDefEqProofs (maxSteps := 1000000) (disch := omega) [ST, S8', rwS, h2, hk, hkN]
 ·have : i = s.cells.length := by omega
  subst this
  simp -dsimp -implicitDefEqProofs (maxSteps := 1000000) (disch := omega) [ST, S8, rwS, h]
  refine wp_inv (S8' s k) (fun a => a.1 ≤ s.mac.length ∧ a.2 = n + sumT (s.mac.take a.1) ∧ a.2 ≤ 1000000000000000) (fun a => s.mac.length - a.1) (0, n) ⟨by simp, by simp [sumT], by simp only; omega⟩ (by simp -dsimp -implicitDefEqProofs (maxSteps := 1000000) (disch := omega) [ST, S8', rwS]) ?_
  rintro ⟨j, n'⟩ ⟨hj, hn', hn1⟩
  simp only at hj hn' hn1
  have hm := sumT_le s.mac j
  rw [List.take_of_length_le (by simp)] at hn
  by_cases h2 : j < s.mac.length
  ·by_cases hk : (n' : Int) ≤ k
   ·obtain ⟨c, hc⟩ : ∃ c, s.mac[j] = c := ⟨_, rfl⟩
    have hc2 : s.mac[j]? = some c := by rw [List.getElem?_eq_getElem h2, hc]
    have ht := sumT_take s.mac j c hc2
    have hle2 := sumT_le s.mac (j + 1)
    have hcl := hM c (List.mem_of_getElem? hc2)
    simp -dsimp -implicitDefEqProofs (maxSteps := 1000000) (disch := omega) [ST, S8', rwS, h2, hk, hc, eTx, wrap_i64]
    refine again (j + 1, n' + c.length) ⟨by simp only; omega, by simp only; omega, by simp only; omega⟩ (by simp only; omega) (by simp -dsimp -implicitDefEqProofs (maxSteps := 1000000) (disch := omega) [ST, S8', rwS, eTx])
   ·have hkN : ¬ (N : Int) ≤ k := by omega
    simp -dsimp -implicitDefEqProofs (maxSteps := 1000000) (disch := omega) [ST, S8', rwS, h2, hk, hkN]
  ·have : j = s.mac.length := by omega
   subst this
   rw [List.take_length] at hn'
   obtain rfl : N = n' := by omega
   by_cases hk : (N : Int) ≤ k <;> simp -dsimp -implicitDefEqProofs (maxSteps := 1000000) (disch := omega) [ST, S8', rwS, h2, hk]
end Go.Vai
