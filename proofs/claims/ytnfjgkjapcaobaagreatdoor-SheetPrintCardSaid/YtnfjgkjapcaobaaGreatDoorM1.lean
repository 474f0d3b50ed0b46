/-
  What functions of layer 9 and of its reference compute: equations of the abstract run, and plain laws of them.
-/
import Derived.Test.YtnfjgkjapcaobaaGreatDoorLD
set_option linter.unusedVariables false
set_option linter.unusedSimpArgs false
set_option linter.unnecessarySimpa false
set_option linter.unusedSectionVars false
namespace Go.Vai
variable {m : Int} {e3 e4 : Value}
theorem eNds_getE : ∀ (l : List Nd) (i : Nat) (n : Nd), l[i]? = some n → (eNds l)[i]? = some (eNd n)
 | [], i, n, h => by simp at h
 | a :: r, 0, n, h => by simp at h; subst h; rfl
 | a :: r, i + 1, n, h => by simp at h; simp [eNds]; exact eNds_getE r i n h
def szNd : Nd → Nat
 | .mk _ _ _ _ _ _ _ l => 1 + szNds l
where szNds : List Nd → Nat
 | [] => 0
 | n :: r => szNd n + szNds r
theorem szNd_mem : ∀ (l : List Nd) (n : Nd), n ∈ l → szNd n ≤ szNd.szNds l
 | [], n, h => by cases h
 | a :: r, n, h => by
  unfold szNd.szNds
  rcases List.mem_cons.1 h with rfl | h
  ·omega
  ·have := szNd_mem r n h; omega
def S9 (k n : Int) (t : List UInt8) (p1 p2 p3 p4 : Int) (l : List Nd) (i : Nat) : St :=
 { sl := [(2, .bp 0 0), (3, .bp 1 0), (5, i64 i)], hp := [(0, some (.box [i64 k, i64 n, bs t, i64 p1, i64 p2, i64 p3, i64 p4, .fz (.sl (eNds l))])), (1, some (.box [i64 k, i64 n, bs t, i64 p1, i64 p2, i64 p3, i64 p4, .fz (.sl (eNds l))]))], nx := 2 }
theorem run_same : ∀ (s : Nat) (n : Nd), szNd n ≤ s → szNd n ≤ 1000000000000 → (W m e3 e4).run 9 [ndA n, ndA n] [] = some (bo true, [])
 | 0, .mk _ _ _ _ _ _ _ _, h, _ => by unfold szNd at h; omega
 | s + 1, .mk k n t p1 p2 p3 p4 l, h, hN => by
  unfold szNd at h hN
  have ih : ∀ c ∈ l, (W m e3 e4).run 9 [ndA c, ndA c] [] = some (bo true, []) := fun c hc => run_same s c (by have := szNd_mem l c hc; omega) (by have := szNd_mem l c hc; omega)
  have hlen : l.length ≤ 1000000000000 := by
   have : ∀ l : List Nd, l.length ≤ szNd.szNds l := by
    intro l
    induction l with
    | nil => exact Nat.le_refl _
    | cons a r ihh =>
     unfold szNd.szNds
     cases a
     unfold szNd
     simp
     omega
   have := this l
   omega
  refine run_wp (by rw [W_T]; exact rfl) ?_
  simp only [ndA_mk]
  simp -dsimp -implicitDefEqProofs (maxSteps := 1000000) (disch := omega) [ST]
  refine wp_inv (S9 k n t p1 p2 p3 p4 l) (fun i => i ≤ l.length) (fun i => l.length - i) 0 (by simp) (by simp -dsimp -implicitDefEqProofs (maxSteps := 1000000) (disch := omega) [ST, S9]) ?_
  intro i hi
  by_cases hil : i < l.length
  ·obtain ⟨c, hc⟩ : ∃ c, l[i] = c := ⟨_, rfl⟩
   have hc2 : l[i]? = some c := by rw [List.getElem?_eq_getElem hil, hc]
   have he := eNds_getE l i c hc2
   have hih := ih c (List.mem_of_getElem? hc2)
   obtain ⟨k', n', t', q1, q2, q3, q4, l'⟩ := c
   simp only [ndA_mk, eNd] at hih he
   simp -dsimp -implicitDefEqProofs (maxSteps := 1000000) (disch := omega) [ST, S9, hil, he, hih]
   refine again (i + 1) (by omega) (by omega) (by simp -dsimp -implicitDefEqProofs (maxSteps := 1000000) (disch := omega) [ST, S9])
  ·simp -dsimp -implicitDefEqProofs (maxSteps := 1000000) (disch := omega) [ST, S9, hil]
end Go.Vai
namespace Go.Vai
variable {m : Int} {e3 e4 : Value}
def wrG (r c : Int) : List UInt8 := UInt8.ofNat (64 + (max 1 (min c 26)).toNat) :: Lib.itoa (max 1 (min r 99))
theorem run_written (r c : Int) (hr : inI r) (hc : inI c) : (W m e3 e4).run 25 [pl r c] [] = some (bs (wrG r c), []) := by
 have hn := run_number (m := m) (e3 := e3) (e4 := e4) (max 1 (min r 99)) (by unfold inI; omega)
 have h1 : 1 ≤ max 1 (min c 26) ∧ max 1 (min c 26) ≤ 26 := by omega
 unfold wrG
 generalize hR : max 1 (min r 99) = R at *
 generalize hC : max 1 (min c 26) = C at *
 have e : ((UInt8.ofNat (64 + C.toNat)).toNat : Int) = 65 + C - 1 := by simp; omega
 generalize UInt8.ofNat (64 + C.toNat) = b at *
 have e1 : bytesOf' [eB b] = some [b] := bytesOf_map [b]
 have hl := itoa_len R (by unfold inI; omega)
 refine run_wp (by rw [W_T]; exact rfl) ?_
 simp -dsimp -implicitDefEqProofs (maxSteps := 1000000) (disch := omega) [ST, -BitVec.toNat_xor, -BitVec.toNat_and, -BitVec.toNat_or, -BitVec.toNat_not, -BitVec.toNat_ushiftRight, -BitVec.toNat_shiftLeft, -BitVec.toNat_mul, -UInt8.toNat_xor, -UInt8.toNat_and, -UInt8.toNat_or, -UInt8.toNat_shiftLeft, -UInt8.toNat_shiftRight, hn, hC, hR, wrap_u8, ← e, eB_mk, e1, show 1 + (Lib.itoa R).length ≤ 9223372036854775807 by omega]
theorem run_placeText (r c : Int) (hr : inI r) (hc : inI c) : (W m e3 e4).run 29 [pl r c] [] = some (bs (wrG r c), []) := by
 have hn := run_rnumber (m := m) (e3 := e3) (e4 := e4) (max 1 (min r 99)) (by unfold inI; omega)
 have h1 : 1 ≤ max 1 (min c 26) ∧ max 1 (min c 26) ≤ 26 := by omega
 unfold wrG
 generalize hR : max 1 (min r 99) = R at *
 generalize hC : max 1 (min c 26) = C at *
 have e : ((UInt8.ofNat (64 + C.toNat)).toNat : Int) = 65 + C - 1 := by simp; omega
 generalize UInt8.ofNat (64 + C.toNat) = b at *
 have e1 : bytesOf' [eB b] = some [b] := bytesOf_map [b]
 have hl := itoa_len R (by unfold inI; omega)
 refine run_wp (by rw [W_T]; exact rfl) ?_
 simp -dsimp -implicitDefEqProofs (maxSteps := 1000000) (disch := omega) [ST, -BitVec.toNat_xor, -BitVec.toNat_and, -BitVec.toNat_or, -BitVec.toNat_not, -BitVec.toNat_ushiftRight, -BitVec.toNat_shiftLeft, -BitVec.toNat_mul, -UInt8.toNat_xor, -UInt8.toNat_and, -UInt8.toNat_or, -UInt8.toNat_shiftLeft, -UInt8.toNat_shiftRight, hn, hC, hR, wrap_u8, ← e, eB_mk, e1, show 1 + (Lib.itoa R).length ≤ 9223372036854775807 by omega]
theorem dbl_len : ∀ l, (dbl l).length ≤ 2 * l.length
 | [] => Nat.le_refl _
 | b :: r => by have := dbl_len r; unfold dbl; split <;> simp <;> omega
theorem dbl_take (l : List UInt8) (i : Nat) (b : UInt8) (h : l[i]? = some b) : dbl (l.take (i + 1)) = dbl (l.take i) ++ (if b = 34 then [34, 34] else [b]) := by
 have app : ∀ a c : List UInt8, dbl (a ++ c) = dbl a ++ dbl c := by
  intro a c
  induction a with
  | nil => rfl
  | cons x r ih => simp only [List.cons_append, dbl]; split <;> simp [ih]
 rw [List.take_add_one, h, app]
 congr 1
def S28 (l : List UInt8) (a : Nat × List UInt8) : St := { sl := [(0, bs l), (3, .osl 0 1 0 a.2.length), (4, i64 a.1)], hp := [(0, some (.arr 1 (a.2.map eB)))], nx := 1 }
theorem run_twice (l : List UInt8) (hl : l.length ≤ 1000000000000) : (W m e3 e4).run 28 [bs l] [] = some (bs (34 :: dbl l ++ [34]), []) := by
 refine run_wp (by rw [W_T]; exact rfl) ?_
 simp -dsimp -implicitDefEqProofs (maxSteps := 1000000) (disch := omega) [ST, -BitVec.toNat_xor, -BitVec.toNat_and, -BitVec.toNat_or, -BitVec.toNat_not, -BitVec.toNat_ushiftRight, -BitVec.toNat_shiftLeft, -BitVec.toNat_mul, -UInt8.toNat_xor, -UInt8.toNat_and, -UInt8.toNat_or, -UInt8.toNat_shiftLeft, -UInt8.toNat_shiftRight]
 refine wp_inv (S28 l) (fun a => a.1 ≤ l.length ∧ a.2 = 34 :: dbl (l.take a.1) ∧ a.2.length ≤ 2 * a.1 + 1) (fun a => l.length - a.1) (0, [34]) ⟨by simp, by simp [dbl], by simp⟩ (by simp -dsimp -implicitDefEqProofs (maxSteps := 1000000) (disch := omega) [ST, -BitVec.toNat_xor, -BitVec.toNat_and, -BitVec.toNat_or, -BitVec.toNat_not, -BitVec.toNat_ushiftRight, -BitVec.toNat_shiftLeft, -BitVec.toNat_mul, -UInt8.toNat_xor, -UInt8.toNat_and, -UInt8.toNat_or, -UInt8.toNat_shiftLeft, -UInt8.toNat_shiftRight, S28, eB]) ?_
 rintro ⟨i, o⟩ ⟨hi, ho, hol⟩
 simp only at hi ho hol
 have t1 : ∀ X, List.take (o.length + 1) (List.map eB o ++ [X]) = List.map eB o ++ [X] := fun X => List.take_of_length_le (by simp)
 by_cases h : i < l.length
 ·obtain ⟨b, hb⟩ : ∃ b, l[i] = b := ⟨_, rfl⟩
  have hb2 : l[i]? = some b := by rw [List.getElem?_eq_getElem h, hb]
  have hd := dbl_take l i b hb2
  by_cases h34 : b = 34
  ·subst h34
   rw [if_pos rfl] at hd
   simp -dsimp -implicitDefEqProofs (maxSteps := 1000000) (disch := omega) [ST, -BitVec.toNat_xor, -BitVec.toNat_and, -BitVec.toNat_or, -BitVec.toNat_not, -BitVec.toNat_ushiftRight, -BitVec.toNat_shiftLeft, -BitVec.toNat_mul, -UInt8.toNat_xor, -UInt8.toNat_and, -UInt8.toNat_or, -UInt8.toNat_shiftLeft, -UInt8.toNat_shiftRight, S28, h, hb, t1, show o.length + 1 ≤ 140737488355328 by omega, show o.length + 1 + 1 ≤ 140737488355328 by omega]
   refine again (i + 1, o ++ [34, 34]) ⟨by simp only; omega, by simp only; rw [ho, hd]; simp, by simp; omega⟩ (by simp only; omega) (by simp -dsimp -implicitDefEqProofs (maxSteps := 1000000) (disch := omega) [ST, -BitVec.toNat_xor, -BitVec.toNat_and, -BitVec.toNat_or, -BitVec.toNat_not, -BitVec.toNat_ushiftRight, -BitVec.toNat_shiftLeft, -BitVec.toNat_mul, -UInt8.toNat_xor, -UInt8.toNat_and, -UInt8.toNat_or, -UInt8.toNat_shiftLeft, -UInt8.toNat_shiftRight, S28, eB])
  ·rw [if_neg h34] at hd
   have hn := nat_ne (c := b) (k := 34) (by omega) h34
   simp -dsimp -implicitDefEqProofs (maxSteps := 1000000) (disch := omega) [ST, -BitVec.toNat_xor, -BitVec.toNat_and, -BitVec.toNat_or, -BitVec.toNat_not, -BitVec.toNat_ushiftRight, -BitVec.toNat_shiftLeft, -BitVec.toNat_mul, -UInt8.toNat_xor, -UInt8.toNat_and, -UInt8.toNat_or, -UInt8.toNat_shiftLeft, -UInt8.toNat_shiftRight, S28, h, hb, hn, t1, show o.length + 1 ≤ 140737488355328 by omega]
   refine again (i + 1, o ++ [b]) ⟨by simp only; omega, by simp only; rw [ho, hd]; simp, by simp; omega⟩ (by simp only; omega) (by simp -dsimp -implicitDefEqProofs (maxSteps := 1000000) (disch := omega) [ST, -BitVec.toNat_xor, -BitVec.toNat_and, -BitVec.toNat_or, -BitVec.toNat_not, -BitVec.toNat_ushiftRight, -BitVec.toNat_shiftLeft, -BitVec.toNat_mul, -UInt8.toNat_xor, -UInt8.toNat_and, -UInt8.toNat_or, -UInt8.toNat_shiftLeft, -UInt8.toNat_shiftRight, S28, eB])
 ·have : i = l.length := by omega
  subst this
  rw [List.take_length] at ho
  have e : 34 :: dbl l ++ [34] = o ++ [34] := by rw [ho]
  rw [e]
  have e2 : bytesOf' (o.map eB ++ [[FV.sc (.int .u8 34)]]) = some (o ++ [34]) := by
   have := bytesOf_map (o ++ [34])
   rw [List.map_append] at this
   exact this
  simp -dsimp -implicitDefEqProofs (maxSteps := 1000000) (disch := omega) [ST, -BitVec.toNat_xor, -BitVec.toNat_and, -BitVec.toNat_or, -BitVec.toNat_not, -BitVec.toNat_ushiftRight, -BitVec.toNat_shiftLeft, -BitVec.toNat_mul, -UInt8.toNat_xor, -UInt8.toNat_and, -UInt8.toNat_or, -UInt8.toNat_shiftLeft, -UInt8.toNat_shiftRight, S28, h, t1, e2, show o.length + 1 ≤ 140737488355328 by omega]
end Go.Vai
namespace Go.Vai
variable {m : Int} {e3 e4 : Value}
mutual
def printG : Nd → List UInt8
 | .mk k n t a b c d l =>
  if k = 1 then Lib.itoa n
  else if k = 2 then 34 :: dbl t ++ [34]
  else if k = 3 then wrG a b
  else if k = 4 then wrG a b ++ (58 :: wrG c d)
  else if k = 5 then opG t (printGs l)
  else if k = 6 then t ++ (40 :: joinC [44] (printGs l) ++ [41])
  else []
def printGs : List Nd → List (List UInt8)
 | [] => []
 | n :: r => printG n :: printGs r
def opG (t : List UInt8) : List (List UInt8) → List UInt8
 | [x] => 40 :: 45 :: x ++ [41]
 | [x, y] => 40 :: x ++ (t ++ (y ++ [41]))
 | _ => []
end
def wNd : Nd → Nat
 | .mk _ _ t _ _ _ _ l => 1 + t.length + wNds l
where wNds : List Nd → Nat
 | [] => 0
 | n :: r => wNd n + wNds r
def okNd : Nd → Prop
 | .mk _ n _ a b c d l => inI n ∧ inI a ∧ inI b ∧ inI c ∧ inI d ∧ okNds l
where okNds : List Nd → Prop
 | [] => True
 | n :: r => okNd n ∧ okNds r
theorem wNd_mem : ∀ (l : List Nd) (n : Nd), n ∈ l → wNd n ≤ wNd.wNds l
 | [], n, h => by cases h
 | a :: r, n, h => by
  unfold wNd.wNds
  rcases List.mem_cons.1 h with rfl | h
  ·omega
  ·have := wNd_mem r n h; omega
theorem okNd_mem : ∀ (l : List Nd) (n : Nd), okNd.okNds l → n ∈ l → okNd n
 | [], n, _, h => by cases h
 | a :: r, n, hk, h => by
  unfold okNd.okNds at hk
  rcases List.mem_cons.1 h with rfl | h
  ·exact hk.1
  ·exact okNd_mem r n hk.2 h
end Go.Vai
namespace Go.Vai
variable {m : Int} {e3 e4 : Value}
theorem wrG_len (r c : Int) : (wrG r c).length ≤ 21 := by
 have := itoa_len (max 1 (min r 99)) (by unfold inI; omega)
 unfold wrG
 simp; omega
def sumL : List (List UInt8) → Nat
 | [] => 0
 | x :: r => x.length + 1 + sumL r
theorem joinC_len (sep : List UInt8) (hs : sep.length ≤ 1) : ∀ xs, (joinC sep xs).length ≤ sumL xs
 | [] => by simp [joinC]
 | [x] => by simp [joinC, sumL]
 | x :: y :: r => by
  have := joinC_len sep hs (y :: r)
  rw [joinC, sumL]
  ·simp; omega
  ·simp
theorem opG_len (t : List UInt8) : ∀ xs, (opG t xs).length ≤ sumL xs + t.length + 3
 | [] => by simp [opG]
 | [x] => by simp [opG, sumL]; omega
 | [x, y] => by simp [opG, sumL]; omega
 | x :: y :: z :: r => by simp [opG]
theorem printG_len : ∀ (s : Nat) (n : Nd), wNd n ≤ s → okNd n → (printG n).length + 1 ≤ 50 * wNd n
 | 0, .mk k n t a b c d l, h, _ => by unfold wNd at h; omega
 | s + 1, .mk k n t a b c d l, h, hok => by
  unfold wNd at h ⊢
  unfold okNd at hok
  have hs : ∀ l' : List Nd, (∀ x ∈ l', x ∈ l) → sumL (printGs l') ≤ 50 * wNd.wNds l' := by
   intro l'
   induction l' with
   | nil => intro _; simp [printGs, sumL]
   | cons x r ih =>
    intro hx
    have h1 := printG_len s x (by have := wNd_mem l x (hx x (by simp)); omega) (okNd_mem l x hok.2.2.2.2.2 (hx x (by simp)))
    have h2 := ih (fun y hy => hx y (by simp [hy]))
    simp only [printGs, sumL, wNd.wNds]
    omega
  have hs := hs l (fun _ h => h)
  have w1 := wrG_len a b
  have w2 := wrG_len c d
  have i1 := itoa_len n hok.1
  have d1 := dbl_len t
  have o1 := opG_len t (printGs l)
  have j1 := joinC_len [44] (by simp) (printGs l)
  rw [printG]
  split
  ·omega
  ·split
   ·simp; omega
   ·split
    ·omega
    ·split
     ·simp; omega
     ·split
      ·omega
      ·split
       ·simp; omega
       ·simp; omega
end Go.Vai
namespace Go.Vai
variable {m : Int} {e3 e4 : Value}
theorem strsOf_map : ∀ xs : List (List UInt8), strsOf (xs.map eS) = some xs
 | [] => rfl
 | x :: r => by simp [strsOf, eS, strsOf_map r]
theorem run_join26 (xs : List (List UInt8)) (h1 : (joinC [44] xs).length ≤ 140737488355328) (h2 : xs.length ≤ 140737488355328) : (W m e3 e4).run 26 [rw_ (xs.map eS), bs [44]] [] = some (bs (joinC [44] xs), []) := by
 refine run_E rfl ?_
 simp only [Ez, E0, strsOf_map, Option.bind_some, mkB_list]
 rw [if_pos ⟨h1, h2⟩]
theorem printGs_get : ∀ (l : List Nd) (i : Nat) (n : Nd), l[i]? = some n → (printGs l).take (i + 1) = (printGs l).take i ++ [printG n]
 | [], i, n, h => by simp at h
 | a :: r, 0, n, h => by simp at h; subst h; simp [printGs]
 | a :: r, i + 1, n, h => by simp at h; simp [printGs, printGs_get r i n h]
theorem printGs_len : ∀ l, (printGs l).length = l.length
 | [] => rfl
 | a :: r => by simp [printGs, printGs_len r]
def S10 (k n : Int) (t : List UInt8) (p1 p2 p3 p4 : Int) (l : List Nd) (i : Nat) : St :=
 { sl := [(1, .bp 0 0), (3, .osl 1 1 0 i), (70, rw_ (eNds l)), (71, i64 l.length), (72, i64 i)], hp := [(0, some (.box [i64 k, i64 n, bs t, i64 p1, i64 p2, i64 p3, i64 p4, .fz (.sl (eNds l))])), (1, some (.arr 1 (((printGs l).take i).map eS)))], nx := 2 }
set_option maxHeartbeats 1000000 in
theorem run_print : ∀ (s : Nat) (n : Nd), wNd n ≤ s → wNd n ≤ 100000000 → okNd n → (W m e3 e4).run 10 [ndA n] [] = some (bs (printG n), [])
 | 0, .mk k n t a b c d l, h, _, _ => by unfold wNd at h; omega
 | s + 1, .mk k n t a b c d l, h, hw, hok => by
  have hlen := printG_len _ (.mk k n t a b c d l) (Nat.le_refl _) hok
  have hok0 := hok
  have hw0 := hw
  unfold wNd at h hw
  unfold okNd at hok
  obtain ⟨o1, o2, o3, o4, o5, o6⟩ := hok
  have ih : ∀ x ∈ l, (W m e3 e4).run 10 [ndA x] [] = some (bs (printG x), []) := fun x hx => run_print s x (by have := wNd_mem l x hx; omega) (by have := wNd_mem l x hx; omega) (okNd_mem l x o6 hx)
  have il : ∀ x ∈ l, (printG x).length ≤ 5000000000 := fun x hx => by
   have := wNd_mem l x hx
   have := printG_len _ x (Nat.le_refl _) (okNd_mem l x o6 hx)
   omega
  have w1 := wrG_len a b
  have w2 := wrG_len c d
  have dl := dbl_len t
  by_cases k1 : k = 1
  ·subst k1
   have e : printG (.mk 1 n t a b c d l) = Lib.itoa n := by rw [printG, if_pos rfl]
   rw [e]
   refine run_wp (by rw [W_T]; exact rfl) ?_
   simp only [ndA_mk]
   simp -dsimp -implicitDefEqProofs (maxSteps := 1000000) (disch := omega) [ST, run_number n o1]
  by_cases k2 : k = 2
  ·subst k2
   have e : printG (.mk 2 n t a b c d l) = 34 :: dbl t ++ [34] := by rw [printG]; rfl
   rw [e]
   refine run_wp (by rw [W_T]; exact rfl) ?_
   simp only [ndA_mk]
   have hr := run_replace (m := m) (e3 := e3) (e4 := e4) t (by omega)
   simp -dsimp -implicitDefEqProofs (maxSteps := 1000000) (disch := omega) [ST, hr, show 1 + (dbl t).length ≤ 9223372036854775807 by omega, show (dbl t).length + 1 + 1 ≤ 9223372036854775807 by omega]
  by_cases k3 : k = 3
  ·subst k3
   have e : printG (.mk 3 n t a b c d l) = wrG a b := by rw [printG]; rfl
   rw [e]
   refine run_wp (by rw [W_T]; exact rfl) ?_
   simp only [ndA_mk]
   simp -dsimp -implicitDefEqProofs (maxSteps := 1000000) (disch := omega) [ST, run_written a b o2 o3]
  by_cases k4 : k = 4
  ·subst k4
   have e : printG (.mk 4 n t a b c d l) = wrG a b ++ (58 :: wrG c d) := by rw [printG]; rfl
   rw [e]
   refine run_wp (by rw [W_T]; exact rfl) ?_
   simp only [ndA_mk]
   simp -dsimp -implicitDefEqProofs (maxSteps := 1000000) (disch := omega) [ST, run_written a b o2 o3, run_written c d o4 o5, show (wrG a b).length + 1 ≤ 9223372036854775807 by omega, show (wrG a b).length + 1 + (wrG c d).length ≤ 9223372036854775807 by omega]
  by_cases k5 : k = 5
  ·subst k5
   have e : printG (.mk 5 n t a b c d l) = opG t (printGs l) := by rw [printG]; rfl
   rw [e]
   match l, ih, il with
   | [], _, _ =>
    refine run_wp (by rw [W_T]; exact rfl) ?_
    simp only [ndA_mk]
    simp -dsimp -implicitDefEqProofs (maxSteps := 1000000) (disch := omega) [ST, eNds, printGs, opG]
   | [x], ih, il =>
    have hx := ih x (by simp)
    have hlx := il x (by simp)
    refine run_wp (by rw [W_T]; exact rfl) ?_
    simp only [ndA_mk, printGs, opG]
    generalize printG x = px at *
    obtain ⟨xk, xn, xt, x1, x2, x3, x4, xl⟩ := x
    simp only [ndA_mk] at hx
    simp -dsimp -implicitDefEqProofs (maxSteps := 1000000) (disch := omega) [ST, eNds, eNd, hx, show 1 + 1 + px.length ≤ 9223372036854775807 by omega, show 2 + px.length ≤ 9223372036854775807 by omega, show px.length + 1 + 1 + 1 ≤ 9223372036854775807 by omega]
   | [x, y], ih, il =>
    have hx := ih x (by simp)
    have hlx := il x (by simp)
    have hy := ih y (by simp)
    have hly := il y (by simp)
    refine run_wp (by rw [W_T]; exact rfl) ?_
    simp only [ndA_mk, printGs, opG]
    generalize printG x = px at *
    generalize printG y = py at *
    obtain ⟨xk, xn, xt, x1, x2, x3, x4, xl⟩ := x
    obtain ⟨yk, yn, yt, y1, y2, y3, y4, yl⟩ := y
    simp only [ndA_mk] at hx hy
    simp -dsimp -implicitDefEqProofs (maxSteps := 1000000) (disch := omega) [ST, eNds, eNd, hx, hy, show px.length + (t.length + py.length) ≤ 9223372036854775805 by omega, show 1 + px.length ≤ 9223372036854775807 by omega, show px.length + 1 + t.length ≤ 9223372036854775807 by omega, show px.length + 1 + t.length + py.length ≤ 9223372036854775807 by omega, show px.length + 1 + t.length + py.length + 1 ≤ 9223372036854775807 by omega, show px.length + t.length + 1 + py.length ≤ 9223372036854775807 by omega, show px.length + t.length + 1 ≤ 9223372036854775807 by omega]
   | x :: y :: z :: r, _, _ =>
    refine run_wp (by rw [W_T]; exact rfl) ?_
    simp only [ndA_mk, printGs, opG]
    simp -dsimp -implicitDefEqProofs (maxSteps := 1000000) (disch := omega) [ST, eNds]
  by_cases k6 : k = 6
  ·subst k6
   have e : printG (.mk 6 n t a b c d l) = t ++ (40 :: joinC [44] (printGs l) ++ [41]) := by rw [printG]; rfl
   have hll : l.length ≤ 100000000 := by
    have : ∀ l : List Nd, l.length ≤ wNd.wNds l := by
     intro l
     induction l with
     | nil => exact Nat.le_refl _
     | cons y r ihh => unfold wNd.wNds; cases y; unfold wNd; simp; omega
    have := this l
    omega
   have hlen2 : (joinC [44] (printGs l)).length ≤ 5000000000 := by
    rw [e] at hlen
    unfold wNd at hlen
    simp at hlen
    omega
   rw [e]
   have hj := run_join26 (m := m) (e3 := e3) (e4 := e4) (printGs l) (by omega) (by rw [printGs_len]; omega)
   refine run_wp (by rw [W_T]; exact rfl) ?_
   simp only [ndA_mk]
   simp -dsimp -implicitDefEqProofs (maxSteps := 1000000) (disch := omega) [ST]
   refine wp_inv (S10 6 n t a b c d l) (fun i => i ≤ l.length) (fun i => l.length - i) 0 (by simp) (by simp -dsimp -implicitDefEqProofs (maxSteps := 1000000) (disch := omega) [ST, S10]) ?_
   intro i hi
   have hpt : ((printGs l).take i).length = i := by rw [List.length_take, printGs_len]; omega
   by_cases hil : i < l.length
   ·obtain ⟨x, hx⟩ : ∃ x, l[i] = x := ⟨_, rfl⟩
    have hx2 : l[i]? = some x := by rw [List.getElem?_eq_getElem hil, hx]
    have he := eNds_getE l i x hx2
    have hih := ih x (List.mem_of_getElem? hx2)
    have htk := printGs_get l i x hx2
    have t1 : ∀ X, List.take i ((List.map eS ((printGs l).take i)) ++ [X]) = List.map eS ((printGs l).take i) := fun X => by
     rw [List.take_append_of_le_length (by rw [List.length_map, hpt]; exact Nat.le_refl _), List.take_of_length_le (by rw [List.length_map, hpt]; exact Nat.le_refl _)]
    generalize printG x = px at *
    obtain ⟨xk, xn, xt, x1, x2, x3, x4, xl⟩ := x
    simp only [ndA_mk, eNd] at hih he
    simp -dsimp -implicitDefEqProofs (maxSteps := 1000000) (disch := omega) [ST, S10, hil, he, hih, hpt, t1, show i ≤ min i (printGs l).length by rw [← List.length_take, hpt]; exact Nat.le_refl _, show i + 1 ≤ 140737488355328 by omega]
    refine again (i + 1) (by omega) (by omega) (by
     simp -dsimp -implicitDefEqProofs (maxSteps := 1000000) (disch := omega) [ST, S10, htk, eS]
     exact ⟨by rw [printGs_len]; omega, by simp [List.take_take]⟩)
   ·have hie : i = l.length := by omega
    subst hie
    have htk : (printGs l).take l.length = printGs l := by rw [← printGs_len l, List.take_length]
    have htk2 : List.take l.length (List.map eS (printGs l)) = List.map eS (printGs l) := by rw [← List.map_take, htk]
    generalize joinC [44] (printGs l) = J at *
    simp -dsimp -implicitDefEqProofs (maxSteps := 1000000) (disch := omega) [ST, S10, htk, htk2, hj, printGs_len, show t.length ≤ 9223372036854775806 by omega, show t.length + 1 + J.length ≤ 9223372036854775807 by omega, show t.length + (1 + J.length) ≤ 9223372036854775807 by omega, show t.length + (J.length + 1) ≤ 9223372036854775807 by omega, show t.length + (J.length + 1) + 1 ≤ 9223372036854775807 by omega, show t.length + (J.length + 1) ≤ 9223372036854775806 by omega]
  have e : printG (.mk k n t a b c d l) = [] := by rw [printG, if_neg k1, if_neg k2, if_neg k3, if_neg k4, if_neg k5, if_neg k6]
  rw [e]
  refine run_wp (by rw [W_T]; exact rfl) ?_
  simp only [ndA_mk]
  simp -dsimp -implicitDefEqProofs (maxSteps := 1000000) (disch := omega) [ST, k1, k2, k3, k4, k5, k6]
end Go.Vai
namespace Go.Vai
variable {m : Int} {e3 e4 : Value}
theorem joinC_snoc (sep x : List UInt8) : ∀ xs, joinC sep (xs ++ [x]) = if xs = [] then x else joinC sep xs ++ (sep ++ x)
 | [] => rfl
 | [a] => by simp [joinC]
 | a :: b :: r => by
  have h := joinC_snoc sep x (b :: r)
  rw [if_neg (by simp)] at h ⊢
  simp only [List.cons_append, joinC] at h ⊢
  rw [h]
  simp
def S11 (k n : Int) (t : List UInt8) (p1 p2 p3 p4 : Int) (l : List Nd) (x : Nat × List UInt8) : St :=
 { sl := [(1, .bp 0 0), (3, bs x.2), (4, i64 x.1)], hp := [(0, some (.box [i64 k, i64 n, bs t, i64 p1, i64 p2, i64 p3, i64 p4, .fz (.sl (eNds l))]))], nx := 1 }
set_option maxHeartbeats 1000000 in
theorem run_rprint : ∀ (s : Nat) (n : Nd), wNd n ≤ s → wNd n ≤ 100000000 → okNd n → (W m e3 e4).run 11 [ndA n] [] = some (bs (printG n), [])
 | 0, .mk k n t a b c d l, h, _, _ => by unfold wNd at h; omega
 | s + 1, .mk k n t a b c d l, h, hw, hok => by
  have hlen := printG_len _ (.mk k n t a b c d l) (Nat.le_refl _) hok
  have hok0 := hok
  have hw0 := hw
  unfold wNd at h hw
  unfold okNd at hok
  obtain ⟨o1, o2, o3, o4, o5, o6⟩ := hok
  have ih : ∀ x ∈ l, (W m e3 e4).run 11 [ndA x] [] = some (bs (printG x), []) := fun x hx => run_rprint s x (by have := wNd_mem l x hx; omega) (by have := wNd_mem l x hx; omega) (okNd_mem l x o6 hx)
  have il : ∀ x ∈ l, (printG x).length ≤ 5000000000 := fun x hx => by
   have := wNd_mem l x hx
   have := printG_len _ x (Nat.le_refl _) (okNd_mem l x o6 hx)
   omega
  have w1 := wrG_len a b
  have w2 := wrG_len c d
  have dl := dbl_len t
  by_cases k1 : k = 1
  ·subst k1
   have e : printG (.mk 1 n t a b c d l) = Lib.itoa n := by rw [printG, if_pos rfl]
   rw [e]
   refine run_wp (by rw [W_T]; exact rfl) ?_
   simp only [ndA_mk]
   simp -dsimp -implicitDefEqProofs (maxSteps := 1000000) (disch := omega) [ST, run_rnumber n o1]
  by_cases k2 : k = 2
  ·subst k2
   have e : printG (.mk 2 n t a b c d l) = 34 :: dbl t ++ [34] := by rw [printG]; rfl
   rw [e]
   refine run_wp (by rw [W_T]; exact rfl) ?_
   simp only [ndA_mk]
   have hr := run_twice (m := m) (e3 := e3) (e4 := e4) t (by omega)
   simp -dsimp -implicitDefEqProofs (maxSteps := 1000000) (disch := omega) [ST, hr, show 1 + (dbl t).length ≤ 9223372036854775807 by omega, show (dbl t).length + 1 + 1 ≤ 9223372036854775807 by omega]
  by_cases k3 : k = 3
  ·subst k3
   have e : printG (.mk 3 n t a b c d l) = wrG a b := by rw [printG]; rfl
   rw [e]
   refine run_wp (by rw [W_T]; exact rfl) ?_
   simp only [ndA_mk]
   simp -dsimp -implicitDefEqProofs (maxSteps := 1000000) (disch := omega) [ST, run_placeText a b o2 o3]
  by_cases k4 : k = 4
  ·subst k4
   have e : printG (.mk 4 n t a b c d l) = wrG a b ++ (58 :: wrG c d) := by rw [printG]; rfl
   rw [e]
   refine run_wp (by rw [W_T]; exact rfl) ?_
   simp only [ndA_mk]
   simp -dsimp -implicitDefEqProofs (maxSteps := 1000000) (disch := omega) [ST, run_placeText a b o2 o3, run_placeText c d o4 o5, show (wrG a b).length + 1 ≤ 9223372036854775807 by omega, show (wrG a b).length + 1 + (wrG c d).length ≤ 9223372036854775807 by omega]
  by_cases k5 : k = 5
  ·subst k5
   have e : printG (.mk 5 n t a b c d l) = opG t (printGs l) := by rw [printG]; rfl
   rw [e]
   match l, ih, il with
   | [], _, _ =>
    refine run_wp (by rw [W_T]; exact rfl) ?_
    simp only [ndA_mk]
    simp -dsimp -implicitDefEqProofs (maxSteps := 1000000) (disch := omega) [ST, eNds, printGs, opG]
   | [x], ih, il =>
    have hx := ih x (by simp)
    have hlx := il x (by simp)
    refine run_wp (by rw [W_T]; exact rfl) ?_
    simp only [ndA_mk, printGs, opG]
    generalize printG x = px at *
    obtain ⟨xk, xn, xt, x1, x2, x3, x4, xl⟩ := x
    simp only [ndA_mk] at hx
    simp -dsimp -implicitDefEqProofs (maxSteps := 1000000) (disch := omega) [ST, eNds, eNd, hx, show 1 + 1 + px.length ≤ 9223372036854775807 by omega, show 2 + px.length ≤ 9223372036854775807 by omega, show px.length + 1 + 1 + 1 ≤ 9223372036854775807 by omega]
   | [x, y], ih, il =>
    have hx := ih x (by simp)
    have hlx := il x (by simp)
    have hy := ih y (by simp)
    have hly := il y (by simp)
    refine run_wp (by rw [W_T]; exact rfl) ?_
    simp only [ndA_mk, printGs, opG]
    generalize printG x = px at *
    generalize printG y = py at *
    obtain ⟨xk, xn, xt, x1, x2, x3, x4, xl⟩ := x
    obtain ⟨yk, yn, yt, y1, y2, y3, y4, yl⟩ := y
    simp only [ndA_mk] at hx hy
    simp -dsimp -implicitDefEqProofs (maxSteps := 1000000) (disch := omega) [ST, eNds, eNd, hx, hy, show px.length + (t.length + py.length) ≤ 9223372036854775805 by omega, show 1 + px.length ≤ 9223372036854775807 by omega, show px.length + 1 + t.length ≤ 9223372036854775807 by omega, show px.length + 1 + t.length + py.length ≤ 9223372036854775807 by omega, show px.length + 1 + t.length + py.length + 1 ≤ 9223372036854775807 by omega, show px.length + t.length + 1 + py.length ≤ 9223372036854775807 by omega, show px.length + t.length + 1 ≤ 9223372036854775807 by omega]
   | x :: y :: z :: r, _, _ =>
    refine run_wp (by rw [W_T]; exact rfl) ?_
    simp only [ndA_mk, printGs, opG]
    simp -dsimp -implicitDefEqProofs (maxSteps := 1000000) (disch := omega) [ST, eNds]
  by_cases k6 : k = 6
  ·subst k6
   have e : printG (.mk 6 n t a b c d l) = t ++ (40 :: joinC [44] (printGs l) ++ [41]) := by rw [printG]; rfl
   have hll : l.length ≤ 100000000 := by
    have : ∀ l : List Nd, l.length ≤ wNd.wNds l := by
     intro l
     induction l with
     | nil => exact Nat.le_refl _
     | cons y r ihh => unfold wNd.wNds; cases y; unfold wNd; simp; omega
    have := this l
    omega
   have hlen2 : (joinC [44] (printGs l)).length ≤ 5000000000 := by
    rw [e] at hlen
    unfold wNd at hlen
    simp at hlen
    omega
   rw [e]
   refine run_wp (by rw [W_T]; exact rfl) ?_
   simp only [ndA_mk]
   simp -dsimp -implicitDefEqProofs (maxSteps := 1000000) (disch := omega) [ST, show t.length ≤ 9223372036854775806 by omega]
   refine wp_inv (S11 6 n t a b c d l) (fun x => x.1 ≤ l.length ∧ x.2 = t ++ (40 :: joinC [44] ((printGs l).take x.1)) ∧ x.2.length ≤ 200000000 + 6000000000 * x.1) (fun x => l.length - x.1) (0, t ++ [40]) ⟨by simp, by simp [joinC], by simp; omega⟩ (by simp -dsimp -implicitDefEqProofs (maxSteps := 1000000) (disch := omega) [ST, S11]) ?_
   rintro ⟨i, s'⟩ ⟨hi, hs, hsl⟩
   simp only at hi hs hsl
   by_cases hil : i < l.length
   ·obtain ⟨x, hx⟩ : ∃ x, l[i] = x := ⟨_, rfl⟩
    have hx2 : l[i]? = some x := by rw [List.getElem?_eq_getElem hil, hx]
    have he := eNds_getE l i x hx2
    have hih := ih x (List.mem_of_getElem? hx2)
    have hxl := il x (List.mem_of_getElem? hx2)
    have htk := printGs_get l i x hx2
    have hpt : ((printGs l).take i).length = i := by rw [List.length_take, printGs_len]; omega
    generalize printG x = px at *
    obtain ⟨xk, xn, xt, x1, x2, x3, x4, xl⟩ := x
    simp only [ndA_mk, eNd] at hih he
    by_cases h0 : i = 0
    ·subst h0
     simp -dsimp -implicitDefEqProofs (maxSteps := 1000000) (disch := omega) [ST, S11, hil, he, hih, show s'.length + px.length ≤ 9223372036854775807 by omega]
     refine again (1, s' ++ px) ⟨by omega, by simp only; rw [htk, hs]; simp [joinC], by simp; omega⟩ (by simp only; omega) (by simp -dsimp -implicitDefEqProofs (maxSteps := 1000000) (disch := omega) [ST, S11])
    ·have hne : (printGs l).take i ≠ [] := fun e => by rw [e] at hpt; simp at hpt; omega
     simp -dsimp -implicitDefEqProofs (maxSteps := 1000000) (disch := omega) [ST, S11, hil, he, hih, show 0 < i by omega, show s'.length ≤ 9223372036854775806 by omega, show s'.length + (px.length + 1) ≤ 9223372036854775807 by omega, show s'.length + 1 + px.length ≤ 9223372036854775807 by omega, show s'.length + (1 + px.length) ≤ 9223372036854775807 by omega]
     refine again (i + 1, s' ++ (44 :: px)) ⟨by simp only; omega, by simp only; rw [htk, joinC_snoc, if_neg hne, hs]; simp, by simp; omega⟩ (by simp only; omega) (by simp -dsimp -implicitDefEqProofs (maxSteps := 1000000) (disch := omega) [ST, S11])
   ·have hie : i = l.length := by omega
    subst hie
    have htk : (printGs l).take l.length = printGs l := by rw [← printGs_len l, List.take_length]
    rw [htk] at hs
    have e2 : t ++ (40 :: joinC [44] (printGs l) ++ [41]) = s' ++ [41] := by rw [hs]; simp
    rw [e2]
    simp -dsimp -implicitDefEqProofs (maxSteps := 1000000) (disch := omega) [ST, S11, show s'.length ≤ 9223372036854775806 by omega]
  have e : printG (.mk k n t a b c d l) = [] := by rw [printG, if_neg k1, if_neg k2, if_neg k3, if_neg k4, if_neg k5, if_neg k6]
  rw [e]
  refine run_wp (by rw [W_T]; exact rfl) ?_
  simp only [ndA_mk]
  simp -dsimp -implicitDefEqProofs (maxSteps := 1000000) (disch := omega) [ST, k1, k2, k3, k4, k5, k6]
end Go.Vai
