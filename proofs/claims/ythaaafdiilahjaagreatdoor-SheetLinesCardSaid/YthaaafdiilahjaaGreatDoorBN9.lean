/-
  What functions of layer 9 and of its reference compute: equations of the abstract run, and plain laws of them.
-/
import Derived.Test.YthaaafdiilahjaaGreatDoorBN5
import Derived.Test.YthaaafdiilahjaaGreatDoorBKB
set_option linter.unusedVariables false
set_option linter.unusedSimpArgs false
set_option linter.unnecessarySimpa false
set_option linter.unusedSectionVars false
namespace Go.Vai
variable {m : Int} {e3 e4 : Value}
end Go.Vai
namespace Go.Vai
variable {m : Int} {e3 e4 : Value}
def hdrG : List UInt8 := [115, 104, 101, 101, 116, 32, 49, 10]
def cellG (c : Cel) : List UInt8 := wrG c.1 c.2.1 ++ 61 :: (c.2.2 ++ [10])
def widG (i : Nat) (w : Int) : List UInt8 := if w = 6 then [] else [119, 105, 100, 116, 104, 32, UInt8.ofNat (65 + i), 32] ++ Lib.itoa w ++ [10]
def macG (t : List UInt8) : List UInt8 := [109, 97, 99, 114, 111, 32] ++ t ++ [10]
def widsG : Nat → List Int → List UInt8
 | _, [] => []
 | i, w :: r => widG i w ++ widsG (i + 1) r
def writeG (s : Sh) : List UInt8 := if rightB s then hdrG ++ (s.cells.flatMap cellG ++ (widsG 0 s.wid ++ s.mac.flatMap macG)) else []
theorem widsG_append : ∀ (l k : List Int) (i : Nat), widsG i (l ++ k) = widsG i l ++ widsG (i + l.length) k
 | [], k, i => by simp [widsG]
 | w :: r, k, i => by simp [widsG, widsG_append r k (i + 1), Nat.add_assoc, Nat.add_comm 1]
theorem rightB_wid {s : Sh} (h : rightB s = true) : s.wid.length = 26 ∧ ∀ w ∈ s.wid, 1 ≤ w ∧ w ≤ 20 := by
 unfold rightB widB at h
 simp only [Bool.and_eq_true, decide_eq_true_eq, List.all_eq_true] at h
 exact ⟨h.1, fun w hw => h.2.1 w hw⟩
theorem okFrom_pl : ∀ (l : List Cel) (p : Option Cel), okFrom p l = true → ∀ c ∈ l, plB c.1 c.2.1 = true
 | [], _, _, c, hc => by cases hc
 | d :: r, p, h, c, hc => by
  unfold okFrom at h
  simp only [Bool.and_eq_true] at h
  rcases List.mem_cons.1 hc with rfl | hc
  ·exact h.1.1
  ·exact okFrom_pl r _ h.2 c hc
end Go.Vai
namespace Go.Vai
variable {m : Int} {e3 e4 : Value}
theorem wrG_len (a b : Int) : (wrG a b).length ≤ 21 := by
 unfold wrG; have := itoa_len (max 1 (min a 99)) (by unfold inI; omega); simp; omega
theorem cells_len : ∀ l : List Cel, (l.flatMap cellG).length ≤ 23 * l.length + sumT (l.map (·.2.2))
 | [] => by simp
 | c :: r => by
  have h1 := cells_len r
  have h2 := wrG_len c.1 c.2.1
  simp only [List.flatMap_cons, List.length_append, List.length_cons, List.map_cons, cellG, List.length_nil, sumT, List.sum_cons] at h1 ⊢
  omega
theorem widG_len (i : Nat) (w : Int) (hw : inI w) : (widG i w).length ≤ 29 := by
 unfold widG
 split
 ·simp
 ·have := itoa_len w hw; simp; omega
theorem wids_len : ∀ (l : List Int) (i : Nat), (∀ w ∈ l, 1 ≤ w ∧ w ≤ 20) → (widsG i l).length ≤ 29 * l.length
 | [], i, _ => by simp [widsG]
 | w :: r, i, h => by
  have h0 := h w (by simp)
  have h1 := wids_len r (i + 1) fun x hx => h x (by simp [hx])
  have h2 := widG_len i w (by unfold inI; omega)
  simp only [widsG, List.length_append, List.length_cons]
  omega
theorem macs_len : ∀ l : List (List UInt8), (l.flatMap macG).length ≤ 7 * l.length + sumT l
 | [] => by simp
 | t :: r => by
  have h1 := macs_len r
  simp only [List.flatMap_cons, List.length_append, List.length_cons, macG, List.length_nil, sumT, List.map_cons, List.sum_cons] at h1 ⊢
  omega
theorem widsG_take (l : List Int) (i : Nat) (w : Int) (h : l[i]? = some w) : widsG 0 (l.take (i + 1)) = widsG 0 (l.take i) ++ widG i w := by
 have hi := (List.getElem?_eq_some_iff.1 h).1
 rw [List.take_add_one, h, widsG_append]
 simp [widsG, Nat.min_eq_left (Nat.le_of_lt hi)]
theorem macs_take (l : List (List UInt8)) (i : Nat) (t : List UInt8) (h : l[i]? = some t) : (l.take (i + 1)).flatMap macG = (l.take i).flatMap macG ++ macG t := by
 rw [List.take_add_one, h]; simp
end Go.Vai
namespace Go.Vai
variable {m : Int} {e3 e4 : Value}
theorem run_ws (l t : List UInt8) (h : l.length + t.length ≤ 140737488355328) : (W m e3 e4).run 32 [.bp 0 0, bs t] [some (.bld 67 5 l)] = some (.tup [i64 t.length, .fz (.sc .nilIface)], [some (.bld 67 5 (l ++ t))]) := by
 refine run_E rfl ?_
 simp only [Ez, mkB_size, mkB_list]
 rw [if_pos h]
theorem run_bstr (l : List UInt8) (h : l ≠ []) : (W m e3 e4).run 35 [.bp 0 0] [some (.bld 67 5 l)] = some (bs l, [none]) := by
 refine run_E rfl ?_
 simp only [Ez]
 rw [if_pos h]
def S11a (c : List Cel) (w : List Int) (mc : List (List UInt8)) (a : Nat × List UInt8) : St := { sl := [(1, .bp 0 0), (3, .bp 1 0), (15, rwS (c.map eCel)), (16, i64 c.length), (17, i64 a.1)], hp := [(0, some (.box [rwS (c.map eCel), rwS (w.map eIn), rwS (mc.map eTx)])), (1, some (.bld 67 5 a.2))], nx := 2 }
def S11b (c : List Cel) (w : List Int) (mc : List (List UInt8)) (a : Nat × List UInt8) : St := { sl := [(1, .bp 0 0), (3, .bp 1 0), (32, rwS (w.map eIn)), (33, i64 w.length), (34, i64 a.1)], hp := [(0, some (.box [rwS (c.map eCel), rwS (w.map eIn), rwS (mc.map eTx)])), (1, some (.bld 67 5 a.2))], nx := 2 }
def S11c (mc : List (List UInt8)) (a : Nat × List UInt8) : St := { sl := [(3, .bp 0 0), (55, rwS (mc.map eTx)), (56, i64 mc.length), (57, i64 a.1)], hp := [(0, some (.bld 67 5 a.2))], nx := 1 }
theorem cells_take (l : List Cel) (i : Nat) (t : Cel) (h : l[i]? = some t) : (l.take (i + 1)).flatMap cellG = (l.take i).flatMap cellG ++ cellG t := by
 rw [List.take_add_one, h]; simp
theorem run_write (s : Sh) (hs : szSh s ≤ 1000000000000) (hT : ∀ c ∈ s.cells, c.2.2.length ≤ 1000000000000) (hM : ∀ t ∈ s.mac, t.length ≤ 1000000000000) : (W m e3 e4).run 11 [shA s] [] = some (bs (writeG s), []) := by
 have hr := run_right (m := m) (e3 := e3) (e4 := e4) s hs hT hM
 have hsz : szSh s = s.cells.length + s.wid.length + s.mac.length + sumT (s.cells.map (·.2.2)) + sumT s.mac := rfl
 unfold writeG
 cases hb : rightB s
 ·rw [hb] at hr
  obtain ⟨sc, sw, sm⟩ := s
  simp only [shA_mk, rwS] at hr ⊢
  refine run_wp (by rw [W_T]; exact rfl) ?_
  simp -dsimp -implicitDefEqProofs (maxSteps := 1000000) (disch := omega) [ST, -BitVec.toNat_xor, -BitVec.toNat_and, -BitVec.toNat_or, -BitVec.toNat_not, -BitVec.toNat_ushiftRight, -BitVec.toNat_shiftLeft, -BitVec.toNat_mul, -UInt8.toNat_xor, -UInt8.toNat_and, -UInt8.toNat_or, -UInt8.toNat_shiftLeft, -UInt8.toNat_shiftRight, hr]
 ·rw [hb] at hr
  obtain ⟨hw26, hwr⟩ := rightB_wid hb
  obtain ⟨sc, sw, sm⟩ := s
  simp only [shA_mk, rwS] at hr hT hM hsz hw26 hwr ⊢
  have hpl0 : ∀ c ∈ sc, plB c.1 c.2.1 = true := by
   have h2 := hb
   unfold rightB at h2
   simp only [Bool.and_eq_true] at h2
   exact okFrom_pl _ _ h2.2.2.1
  have hw0 := run_ws (m := m) (e3 := e3) (e4 := e4) [] hdrG (by decide)
  simp only [hdrG] at hw0
  refine run_wp (by rw [W_T]; exact rfl) ?_
  simp -dsimp -implicitDefEqProofs (maxSteps := 1000000) (disch := omega) [ST, -BitVec.toNat_xor, -BitVec.toNat_and, -BitVec.toNat_or, -BitVec.toNat_not, -BitVec.toNat_ushiftRight, -BitVec.toNat_shiftLeft, -BitVec.toNat_mul, -UInt8.toNat_xor, -UInt8.toNat_and, -UInt8.toNat_or, -UInt8.toNat_shiftLeft, -UInt8.toNat_shiftRight, hr, hw0]
  refine wp_inv (S11a sc sw sm) (fun a => a.1 ≤ sc.length ∧ a.2 = hdrG ++ (sc.take a.1).flatMap cellG) (fun a => sc.length - a.1) (0, hdrG) ⟨by simp, by simp⟩ (by simp -dsimp -implicitDefEqProofs (maxSteps := 1000000) (disch := omega) [ST, -BitVec.toNat_xor, -BitVec.toNat_and, -BitVec.toNat_or, -BitVec.toNat_not, -BitVec.toNat_ushiftRight, -BitVec.toNat_shiftLeft, -BitVec.toNat_mul, -UInt8.toNat_xor, -UInt8.toNat_and, -UInt8.toNat_or, -UInt8.toNat_shiftLeft, -UInt8.toNat_shiftRight, S11a, rwS, hdrG]) ?_
  rintro ⟨i, o⟩ ⟨hi, g2⟩
  simp only at hi g2
  have hcl := cells_len (sc.take i)
  have hcl2 := sumT_le (sc.map (·.2.2)) i
  rw [← List.map_take] at hcl2
  have hol : o.length ≤ 100000000000000 := by
   rw [g2]; simp only [List.length_append, hdrG, List.length_cons, List.length_nil]
   have : (sc.take i).length ≤ sc.length := by rw [List.length_take]; omega
   omega
  by_cases h : i < sc.length
  ·obtain ⟨c, hc⟩ : ∃ c, sc[i] = c := ⟨_, rfl⟩
   have hc2 : sc[i]? = some c := by rw [List.getElem?_eq_getElem h, hc]
   have hmem := List.mem_of_getElem? hc2
   have hp := plB_iff (hpl0 c hmem)
   have hpt := run_written (m := m) (e3 := e3) (e4 := e4) c.1 c.2.1 (by unfold inI; omega) (by unfold inI; omega)
   have hlc := hT c hmem
   have htk := cells_take sc i c hc2
   have hw := wrG_len c.1 c.2.1
   obtain ⟨a, b, t⟩ := c
   simp only at hp hpt hlc hw
   have hws := run_ws (m := m) (e3 := e3) (e4 := e4) o (cellG (a, b, t)) (by simp [cellG]; omega)
   simp only [cellG] at hws
   simp -dsimp -implicitDefEqProofs (maxSteps := 1000000) (disch := omega) [ST, -BitVec.toNat_xor, -BitVec.toNat_and, -BitVec.toNat_or, -BitVec.toNat_not, -BitVec.toNat_ushiftRight, -BitVec.toNat_shiftLeft, -BitVec.toNat_mul, -UInt8.toNat_xor, -UInt8.toNat_and, -UInt8.toNat_or, -UInt8.toNat_shiftLeft, -UInt8.toNat_shiftRight, S11a, rwS, h, hc, eCel, hpt, hws, show (wrG a b).length + 1 ≤ 9223372036854775807 by omega, show (wrG a b).length + 1 + t.length ≤ 9223372036854775807 by omega, show (wrG a b).length + (t.length + 1) + 1 ≤ 9223372036854775807 by omega, show (wrG a b).length + 1 + t.length + 1 ≤ 9223372036854775807 by omega, show (wrG a b).length + (1 + t.length) + 1 ≤ 9223372036854775807 by omega]
   refine again (i + 1, o ++ cellG (a, b, t)) ⟨by simp only; omega, by simp only; rw [htk, g2]; simp⟩ (by simp only; omega) (by simp -dsimp -implicitDefEqProofs (maxSteps := 1000000) (disch := omega) [ST, -BitVec.toNat_xor, -BitVec.toNat_and, -BitVec.toNat_or, -BitVec.toNat_not, -BitVec.toNat_ushiftRight, -BitVec.toNat_shiftLeft, -BitVec.toNat_mul, -UInt8.toNat_xor, -UInt8.toNat_and, -UInt8.toNat_or, -UInt8.toNat_shiftLeft, -UInt8.toNat_shiftRight, S11a, rwS, eCel, cellG, wrap_i64])
  ·obtain rfl : i = sc.length := by omega
   rw [List.take_length] at g2
   simp -dsimp -implicitDefEqProofs (maxSteps := 1000000) (disch := omega) [ST, -BitVec.toNat_xor, -BitVec.toNat_and, -BitVec.toNat_or, -BitVec.toNat_not, -BitVec.toNat_ushiftRight, -BitVec.toNat_shiftLeft, -BitVec.toNat_mul, -UInt8.toNat_xor, -UInt8.toNat_and, -UInt8.toNat_or, -UInt8.toNat_shiftLeft, -UInt8.toNat_shiftRight, S11a, rwS, h]
   refine wp_inv (S11b sc sw sm) (fun a => a.1 ≤ sw.length ∧ a.2 = hdrG ++ (sc.flatMap cellG ++ widsG 0 (sw.take a.1))) (fun a => sw.length - a.1) (0, o) ⟨by simp, by simp [g2, widsG]⟩ (by simp -dsimp -implicitDefEqProofs (maxSteps := 1000000) (disch := omega) [ST, -BitVec.toNat_xor, -BitVec.toNat_and, -BitVec.toNat_or, -BitVec.toNat_not, -BitVec.toNat_ushiftRight, -BitVec.toNat_shiftLeft, -BitVec.toNat_mul, -UInt8.toNat_xor, -UInt8.toNat_and, -UInt8.toNat_or, -UInt8.toNat_shiftLeft, -UInt8.toNat_shiftRight, S11b, rwS]) ?_
   rintro ⟨i, o2⟩ ⟨hi, e2⟩
   simp only at hi e2
   have hwl := wids_len (sw.take i) 0 fun w hw => hwr w (List.mem_of_mem_take hw)
   have hol2 : o2.length ≤ 100000000000000 := by
    rw [e2]; simp only [List.length_append, hdrG, List.length_cons, List.length_nil]
    have : (sw.take i).length ≤ 26 := by rw [List.length_take]; omega
    rw [List.take_length] at hcl
    omega
   by_cases h : i < sw.length
   ·obtain ⟨x, hx⟩ : ∃ x, sw[i] = x := ⟨_, rfl⟩
    have hx2 : sw[i]? = some x := by rw [List.getElem?_eq_getElem h, hx]
    have htk := widsG_take sw i x hx2
    by_cases h6 : x = 6
    ·simp -dsimp -implicitDefEqProofs (maxSteps := 1000000) (disch := omega) [ST, -BitVec.toNat_xor, -BitVec.toNat_and, -BitVec.toNat_or, -BitVec.toNat_not, -BitVec.toNat_ushiftRight, -BitVec.toNat_shiftLeft, -BitVec.toNat_mul, -UInt8.toNat_xor, -UInt8.toNat_and, -UInt8.toNat_or, -UInt8.toNat_shiftLeft, -UInt8.toNat_shiftRight, S11b, rwS, h, hx, eIn, h6]
     refine again (i + 1, o2) ⟨by simp only; omega, by simp only; rw [htk, e2]; simp [widG, h6]⟩ (by simp only; omega) (by simp -dsimp -implicitDefEqProofs (maxSteps := 1000000) (disch := omega) [ST, -BitVec.toNat_xor, -BitVec.toNat_and, -BitVec.toNat_or, -BitVec.toNat_not, -BitVec.toNat_ushiftRight, -BitVec.toNat_shiftLeft, -BitVec.toNat_mul, -UInt8.toNat_xor, -UInt8.toNat_and, -UInt8.toNat_or, -UInt8.toNat_shiftLeft, -UInt8.toNat_shiftRight, S11b, rwS, eIn, wrap_i64])
    ·have hxr := hwr x (List.mem_of_getElem? hx2)
     have hn := run_number (m := m) (e3 := e3) (e4 := e4) x (by unfold inI; omega)
     have hl := itoa_len x (by unfold inI; omega)
     have hwd : widG i x = [119, 105, 100, 116, 104, 32, UInt8.ofNat (65 + i), 32] ++ Lib.itoa x ++ [10] := by unfold widG; rw [if_neg h6]
     rw [hwd] at htk
     have e : ((UInt8.ofNat (65 + i)).toNat : Int) = 65 + i := by simp; omega
     generalize UInt8.ofNat (65 + i) = b at *
     have e1 : bytesOf' [eB b] = some [b] := bytesOf_map [b]
     have hws := run_ws (m := m) (e3 := e3) (e4 := e4) o2 ([119, 105, 100, 116, 104, 32, b, 32] ++ Lib.itoa x ++ [10]) (by simp; omega)
     simp only [List.cons_append, List.nil_append] at hws
     simp -dsimp -implicitDefEqProofs (maxSteps := 1000000) (disch := omega) [ST, -BitVec.toNat_xor, -BitVec.toNat_and, -BitVec.toNat_or, -BitVec.toNat_not, -BitVec.toNat_ushiftRight, -BitVec.toNat_shiftLeft, -BitVec.toNat_mul, -UInt8.toNat_xor, -UInt8.toNat_and, -UInt8.toNat_or, -UInt8.toNat_shiftLeft, -UInt8.toNat_shiftRight, S11b, rwS, h, hx, eIn, h6, hn, wrap_u8, ← e, eB_mk, e1, hws, show 8 + (Lib.itoa x).length ≤ 9223372036854775807 by omega, show (Lib.itoa x).length ≤ 9223372036854775798 by omega]
     refine again (i + 1, o2 ++ ([119, 105, 100, 116, 104, 32, b, 32] ++ Lib.itoa x ++ [10])) ⟨by simp only; omega, by simp only; rw [htk, e2]; simp⟩ (by simp only; omega) (by simp -dsimp -implicitDefEqProofs (maxSteps := 1000000) (disch := omega) [ST, -BitVec.toNat_xor, -BitVec.toNat_and, -BitVec.toNat_or, -BitVec.toNat_not, -BitVec.toNat_ushiftRight, -BitVec.toNat_shiftLeft, -BitVec.toNat_mul, -UInt8.toNat_xor, -UInt8.toNat_and, -UInt8.toNat_or, -UInt8.toNat_shiftLeft, -UInt8.toNat_shiftRight, S11b, rwS, eIn, wrap_i64])
   ·obtain rfl : i = sw.length := by omega
    rw [List.take_length] at e2 hwl
    simp -dsimp -implicitDefEqProofs (maxSteps := 1000000) (disch := omega) [ST, -BitVec.toNat_xor, -BitVec.toNat_and, -BitVec.toNat_or, -BitVec.toNat_not, -BitVec.toNat_ushiftRight, -BitVec.toNat_shiftLeft, -BitVec.toNat_mul, -UInt8.toNat_xor, -UInt8.toNat_and, -UInt8.toNat_or, -UInt8.toNat_shiftLeft, -UInt8.toNat_shiftRight, S11b, rwS, h]
    refine wp_inv (S11c sm) (fun a => a.1 ≤ sm.length ∧ a.2 = hdrG ++ (sc.flatMap cellG ++ (widsG 0 sw ++ (sm.take a.1).flatMap macG))) (fun a => sm.length - a.1) (0, o2) ⟨by simp, by simp [e2]⟩ (by simp -dsimp -implicitDefEqProofs (maxSteps := 1000000) (disch := omega) [ST, -BitVec.toNat_xor, -BitVec.toNat_and, -BitVec.toNat_or, -BitVec.toNat_not, -BitVec.toNat_ushiftRight, -BitVec.toNat_shiftLeft, -BitVec.toNat_mul, -UInt8.toNat_xor, -UInt8.toNat_and, -UInt8.toNat_or, -UInt8.toNat_shiftLeft, -UInt8.toNat_shiftRight, S11c, rwS]) ?_
    rintro ⟨j, o3⟩ ⟨hj, e3'⟩
    simp only at hj e3'
    have hml := macs_len (sm.take j)
    have hml2 := sumT_le sm j
    have hol3 : o3.length ≤ 100000000000000 := by
     rw [e3']; simp only [List.length_append, hdrG, List.length_cons, List.length_nil]
     have : (sm.take j).length ≤ sm.length := by rw [List.length_take]; omega
     rw [List.take_length] at hcl
     omega
    by_cases h2 : j < sm.length
    ·obtain ⟨t, ht⟩ : ∃ t, sm[j] = t := ⟨_, rfl⟩
     have ht2 : sm[j]? = some t := by rw [List.getElem?_eq_getElem h2, ht]
     have htk := macs_take sm j t ht2
     have hlt := hM t (List.mem_of_getElem? ht2)
     have hws := run_ws (m := m) (e3 := e3) (e4 := e4) o3 (macG t) (by simp [macG]; omega)
     simp only [macG, List.cons_append, List.nil_append] at hws
     simp -dsimp -implicitDefEqProofs (maxSteps := 1000000) (disch := omega) [ST, -BitVec.toNat_xor, -BitVec.toNat_and, -BitVec.toNat_or, -BitVec.toNat_not, -BitVec.toNat_ushiftRight, -BitVec.toNat_shiftLeft, -BitVec.toNat_mul, -UInt8.toNat_xor, -UInt8.toNat_and, -UInt8.toNat_or, -UInt8.toNat_shiftLeft, -UInt8.toNat_shiftRight, S11c, rwS, h2, ht, eTx, hws, show 6 + t.length ≤ 9223372036854775807 by omega, show t.length ≤ 9223372036854775800 by omega]
     refine again (j + 1, o3 ++ macG t) ⟨by simp only; omega, by simp only; rw [htk, e3']; simp⟩ (by simp only; omega) (by simp -dsimp -implicitDefEqProofs (maxSteps := 1000000) (disch := omega) [ST, -BitVec.toNat_xor, -BitVec.toNat_and, -BitVec.toNat_or, -BitVec.toNat_not, -BitVec.toNat_ushiftRight, -BitVec.toNat_shiftLeft, -BitVec.toNat_mul, -UInt8.toNat_xor, -UInt8.toNat_and, -UInt8.toNat_or, -UInt8.toNat_shiftLeft, -UInt8.toNat_shiftRight, S11c, rwS, eTx, macG, wrap_i64])
    ·obtain rfl : j = sm.length := by omega
     rw [List.take_length] at e3'
     have hne : o3 ≠ [] := by rw [e3']; simp [hdrG]
     have hbs := run_bstr (m := m) (e3 := e3) (e4 := e4) o3 hne
     simp -dsimp -implicitDefEqProofs (maxSteps := 1000000) (disch := omega) [ST, -BitVec.toNat_xor, -BitVec.toNat_and, -BitVec.toNat_or, -BitVec.toNat_not, -BitVec.toNat_ushiftRight, -BitVec.toNat_shiftLeft, -BitVec.toNat_mul, -UInt8.toNat_xor, -UInt8.toNat_and, -UInt8.toNat_or, -UInt8.toNat_shiftLeft, -UInt8.toNat_shiftRight, S11c, rwS, h2, hbs]
     rw [e3']
end Go.Vai
namespace Go.Vai
variable {m : Int} {e3 e4 : Value}
end Go.Vai
