/-
  What functions of layer 5 and of its reference compute: equations of the abstract run.
-/
import Derived.Test.YtfaomcaimppmeaaDoorGA
set_option linter.unusedVariables false
set_option linter.unusedSimpArgs false
set_option linter.unnecessarySimpa false
set_option linter.unusedSectionVars false
namespace Go.Vai
/-! The font that is always there. -/
def sqG (x y w h : Int) : Ol := [(x, y), (x + w, y), (x + w, y + h), (x, y + h)]
def drawnL : List UInt8 := [50, 50, 50, 48, 50, 53, 53, 48, 48, 48, 53, 55, 53, 55, 53, 51, 54, 55, 51, 54, 53, 49, 50, 52, 53, 50, 53, 50, 53, 51, 50, 50, 48, 48, 48, 49, 50, 50, 50, 49, 52, 50, 50, 50, 52, 48, 53, 50, 53, 48, 48, 50, 55, 50, 48, 48, 48, 48, 50, 52, 48, 48, 55, 48, 48, 48, 48, 48, 48, 50, 49, 49, 50, 52, 52, 55, 53, 53, 53, 55, 50, 54, 50, 50, 55, 55, 49, 55, 52, 55, 55, 49, 55, 49, 55, 53, 53, 55, 49, 49, 55, 52, 55, 49, 55, 55, 52, 55, 53, 55, 55, 49, 49, 49, 49, 55, 53, 55, 53, 55, 55, 53, 55, 49, 55, 48, 50, 48, 50, 48, 48, 50, 48, 50, 52, 49, 50, 52, 50, 49, 48, 55, 48, 55, 48, 52, 50, 49, 50, 52, 55, 49, 50, 48, 50, 55, 53, 55, 52, 55, 50, 53, 55, 53, 53, 54, 53, 54, 53, 54, 51, 52, 52, 52, 51, 54, 53, 53, 53, 54, 55, 52, 54, 52, 55, 55, 52, 54, 52, 52, 51, 52, 53, 53, 51, 53, 53, 55, 53, 53, 55, 50, 50, 50, 55, 49, 49, 49, 53, 50, 53, 53, 54, 53, 53, 52, 52, 52, 52, 55, 53, 55, 55, 53, 53, 54, 53, 53, 53, 53, 50, 53, 53, 53, 50, 54, 53, 54, 52, 52, 50, 53, 53, 54, 51, 54, 53, 54, 53, 53, 51, 52, 50, 49, 54, 55, 50, 50, 50, 50, 53, 53, 53, 53, 55, 53, 53, 53, 53, 50, 53, 53, 55, 55, 53, 53, 53, 50, 53, 53, 53, 53, 50, 50, 50, 55, 49, 50, 52, 55, 54, 52, 52, 52, 54, 52, 52, 50, 49, 49, 51, 49, 49, 49, 51, 50, 53, 48, 48, 48, 48, 48, 48, 48, 55, 52, 50, 48, 48, 48]
def drawnLast : List UInt8 := [51, 50, 54, 50, 51, 50, 50, 50, 50, 50, 54, 50, 51, 50, 54, 48, 51, 54, 48, 48]
def digitsG (x : Int) : List UInt8 :=
  let y := if 97 ≤ x ∧ x ≤ 122 then x - 32 else x
  if 123 ≤ y then (drawnLast.take (5 * (y - 123) + 5).toNat).drop (5 * (y - 123)).toNat else (drawnL.take (5 * (y - 33) + 5).toNat).drop (5 * (y - 33)).toNat
def colSq (row : Nat) (c : UInt8) (col m : Int) : List Ol := if bandI .u8 (IntKind.u8.wrap ((c.toNat : Int) - 48)) m = 0 then [] else [sqG (4 * col) (4 * row) 4 4]
def rowG (row : Nat) (c : UInt8) : List Ol := colSq row c 0 4 ++ (colSq row c 1 2 ++ colSq row c 2 1)
def outG : Nat → List UInt8 → List Ol
  | _, [] => []
  | row, c :: r => rowG row c ++ outG (row + 1) r
def glyphG (x : Int) : Gl := (16, outG 0 (digitsG x), [])
def plainGl (k : Nat) : List Gl := (16, [sqG 0 0 12 20, sqG 4 4 4 12], []) :: (16, [], []) :: (List.range k).map fun (i : Nat) => glyphG (33 + i)
def plainRn (k : Nat) : List Pt := (32, 1) :: (List.range k).map fun (i : Nat) => ((33 + i : Int), (2 + i : Int))
def plainF : Font := (plainGl 94, plainRn 94)
@[simp] theorem plainGl_len (k : Nat) : (plainGl k).length = k + 2 := by simp [plainGl]
@[simp] theorem plainRn_len (k : Nat) : (plainRn k).length = k + 1 := by simp [plainRn]
theorem plainGl_succ (k : Nat) : plainGl (k + 1) = plainGl k ++ [glyphG (33 + k)] := by simp [plainGl, List.range_succ]
theorem plainRn_succ (k : Nat) : plainRn (k + 1) = plainRn k ++ [((33 + k : Int), (2 + k : Int))] := by simp [plainRn, List.range_succ]
theorem colSq_len (row : Nat) (c : UInt8) (a m : Int) : (colSq row c a m).length ≤ 1 := by
  unfold colSq
  split <;> simp
theorem rowG_len (row : Nat) (c : UInt8) : (rowG row c).length ≤ 3 := by
  have h1 := colSq_len row c 0 4
  have h2 := colSq_len row c 1 2
  have h3 := colSq_len row c 2 1
  simp only [rowG, List.length_append]
  omega
theorem outG_len : ∀ (n : Nat) (l : List UInt8), (outG n l).length ≤ 3 * l.length
  | _, [] => Nat.zero_le _
  | n, c :: r => by
    have h1 := rowG_len n c
    have h2 := outG_len (n + 1) r
    simp only [outG, List.length_append, List.length_cons]
    omega
theorem digits_len (x : Int) (h : 33 ≤ x ∧ x ≤ 126) : (digitsG x).length = 5 := by
  have h1 : drawnL.length = 320 := by kernel_rfl
  have h2 : drawnLast.length = 20 := by kernel_rfl
  unfold digitsG
  simp only
  split <;> split <;> simp only [List.length_drop, List.length_take, h1, h2] <;> omega
variable {v : Env} (hv : v.T = Tt)
include hv
theorem run_square (x y w h : Int) (hx : -1000000 ≤ x ∧ x ≤ 1000000) (hy : -1000000 ≤ y ∧ y ≤ 1000000) (hw : -1000000 ≤ w ∧ w ≤ 1000000) (hh : -1000000 ≤ h ∧ h ≤ 1000000) : v.run 67 [i64 x, i64 y, i64 w, i64 h] [] = some (rw_ ((sqG x y w h).map ePt), []) := by
  refine run_wp (by rw [hv]; exact rfl) ?_
  simp -dsimp -implicitDefEqProofs (disch := omega) [condP_pos, condP_neg, optP_pos, decide_eq_true, decide_eq_false, wrap_i64, Int.natCast_inj, sqG, ePt]
set_option maxRecDepth 4000 in
set_option maxHeartbeats 2000000 in
theorem run_digits (x : Int) (h : 33 ≤ x ∧ x ≤ 126) : v.run 68 [i64 x] [] = some (bs (digitsG x), []) := by
  refine run_wp (by rw [hv]; exact rfl) ?_
  have hL : ∀ t : List UInt8, t = drawnL → True := fun _ _ => trivial
  by_cases h1 : 97 ≤ x
  · by_cases h2 : x ≤ 122
    · have h3 : ¬ 123 ≤ x - 32 := by omega
      simp -dsimp -implicitDefEqProofs (disch := omega) [condP_pos, condP_neg, optP_pos, decide_eq_true, decide_eq_false, wrap_i64, Int.natCast_inj, h1, h2, h3, digitsG]
      simp [drawnL]
    · have h3 : 123 ≤ x := by omega
      simp -dsimp -implicitDefEqProofs (disch := omega) [condP_pos, condP_neg, optP_pos, decide_eq_true, decide_eq_false, wrap_i64, Int.natCast_inj, h1, h2, h3, digitsG]
      simp [drawnLast]
  · have h3 : ¬ 123 ≤ x := by omega
    simp -dsimp -implicitDefEqProofs (disch := omega) [condP_pos, condP_neg, optP_pos, decide_eq_true, decide_eq_false, wrap_i64, Int.natCast_inj, h1, h3, digitsG]
    simp [drawnL]
def S40 (k : Nat) : St :=
  { sl := [(0, .bp 0 0), (1, .bp 1 0), (2, i64 (33 + k))],
    hp := [(0, some (.box [.emp, .emp])), (1, some (.box [.osl 2 3 0 (k + 2), .osl 3 2 0 (k + 1)])), (2, some (.arr 3 ((plainGl k).map eGl))), (3, some (.arr 2 ((plainRn k).map ePt)))], nx := 4 }
def T40 (k : Nat) (x : List UInt8 × List UInt8 × List Ol) : St :=
  { sl := [(0, .bp 0 0), (1, .bp 1 0), (2, i64 (33 + k)), (3, .bp 4 0), (27, .osl 6 1 0 (x.1 ++ x.2.1).length), (28, i64 (x.1 ++ x.2.1).length), (29, i64 x.1.length)],
    hp := [(0, some (.box [.emp, .emp])), (1, some (.box [.osl 2 3 0 (k + 2), .osl 3 2 0 (k + 1)])), (2, some (.arr 3 ((plainGl k).map eGl))), (3, some (.arr 2 ((plainRn k).map ePt))),
      (4, some (.box [i64 16, .osl 5 1 0 x.2.2.length, .emp])), (5, some (.arr 1 (x.2.2.map eOl))), (6, some (.arr 1 ((x.1 ++ x.2.1).map eB)))], nx := 7 }
def U40 (k : Nat) (q : List UInt8) (c : UInt8) (r : List UInt8) (x : Nat × List Ol) : St :=
  { sl := [(0, .bp 0 0), (1, .bp 1 0), (2, i64 (33 + k)), (3, .bp 4 0), (4, i64 q.length), (5, u8 c.toNat), (27, .osl 6 1 0 (q ++ c :: r).length), (28, i64 (q ++ c :: r).length), (29, i64 q.length), (34, i64 x.1)],
    hp := [(0, some (.box [.emp, .emp])), (1, some (.box [.osl 2 3 0 (k + 2), .osl 3 2 0 (k + 1)])), (2, some (.arr 3 ((plainGl k).map eGl))), (3, some (.arr 2 ((plainRn k).map ePt))),
      (4, some (.box [i64 16, .osl 5 1 0 x.2.length, .emp])), (5, some (.arr 1 (x.2.map eOl))), (6, some (.arr 1 ((q ++ c :: r).map eB)))], nx := 7 }
@[simp] theorem eB_map {β : Type} (f : FV → β) (b : UInt8) : (eB b).map f = [f (.sc (.int .u8 b.toNat))] := rfl
set_option maxHeartbeats 4000000 in
theorem run_plain : v.run 40 [] [] = some (aFont plainF, []) := by
  refine run_wp (by rw [hv]; exact rfl) ?_
  simp -dsimp -implicitDefEqProofs (disch := omega) [condP_pos, condP_neg, optP_pos, decide_eq_true, decide_eq_false, wrap_i64, Int.natCast_inj, run_square hv]
  refine wp_inv S40 (fun k => k ≤ 94) (fun k => 94 - k) 0 (by simp) (by simp -dsimp -implicitDefEqProofs (disch := omega) [condP_pos, condP_neg, optP_pos, decide_eq_true, decide_eq_false, wrap_i64, Int.natCast_inj, S40, plainGl, plainRn, eGl, ePt, eOl]) ?_
  intro k hk
  by_cases h94 : k = 94
  · subst h94
    simp -dsimp -implicitDefEqProofs (disch := omega) [condP_pos, condP_neg, optP_pos, decide_eq_true, decide_eq_false, wrap_i64, Int.natCast_inj, S40]
    exact ⟨List.take_of_length_le (by simp), List.take_of_length_le (by simp)⟩
  · have hdl := digits_len (33 + k) (by omega)
    have hrd := run_digits hv (33 + k) (by omega)
    simp -dsimp -implicitDefEqProofs (disch := omega) [condP_pos, condP_neg, optP_pos, decide_eq_true, decide_eq_false, wrap_i64, Int.natCast_inj, S40, hrd]
    refine wp_inv (T40 k) (fun x => x.1 ++ x.2.1 = digitsG (33 + k) ∧ x.2.2 ++ outG x.1.length x.2.1 = outG 0 (digitsG (33 + k))) (fun x => x.2.1.length) ([], digitsG (33 + k), []) (by simp) (by simp -dsimp -implicitDefEqProofs (disch := omega) [condP_pos, condP_neg, optP_pos, decide_eq_true, decide_eq_false, wrap_i64, Int.natCast_inj, T40]) ?_
    rintro ⟨q, r, acc⟩ ⟨d1, d2⟩
    simp only at d1 d2
    have hq5 : q.length + r.length = 5 := by rw [← hdl, ← d1]; simp
    cases r with
    | nil =>
      simp only [outG, List.append_nil] at d2
      have hal : acc.length ≤ 1000 := by
        rw [d2]
        have := outG_len 0 (digitsG (33 + k))
        omega
      simp -dsimp -implicitDefEqProofs (disch := omega) [condP_pos, condP_neg, optP_pos, decide_eq_true, decide_eq_false, wrap_i64, Int.natCast_inj, T40]
      refine again (k + 1) ?_ ?_ ?_
      · omega
      · omega
      · simp -dsimp -implicitDefEqProofs (disch := omega) [condP_pos, condP_neg, optP_pos, decide_eq_true, decide_eq_false, wrap_i64, Int.natCast_inj, S40, plainGl_succ, plainRn_succ, glyphG, ← d2, eGl, ePt]
        exact ⟨by omega, List.take_of_length_le (by simp), List.take_of_length_le (by simp), by omega⟩
    | cons c r =>
      simp at hq5
      have hal : acc.length ≤ 1000 := by
        have h1 := outG_len 0 (digitsG (33 + k))
        have h2 := congrArg List.length d2
        rw [List.length_append] at h2
        omega
      simp -dsimp -implicitDefEqProofs (disch := omega) [condP_pos, condP_neg, optP_pos, decide_eq_true, decide_eq_false, wrap_i64, Int.natCast_inj, T40]
      refine wp_inv (U40 k q c r) (fun x => x.1 ≤ 3 ∧ x.2 = acc ++ (if x.1 = 0 then [] else if x.1 = 1 then colSq q.length c 0 4 else if x.1 = 2 then colSq q.length c 0 4 ++ colSq q.length c 1 2 else rowG q.length c)) (fun x => 3 - x.1) (0, acc) (by simp) (by simp -dsimp -implicitDefEqProofs (disch := omega) [condP_pos, condP_neg, optP_pos, decide_eq_true, decide_eq_false, wrap_i64, Int.natCast_inj, U40]) ?_
      rintro ⟨j, w⟩ ⟨e1, e2⟩
      simp only at e1 e2
      have hwl : w.length ≤ 1003 := by
        have h1 := colSq_len q.length c 0 4
        have h2 := colSq_len q.length c 1 2
        have h3 := rowG_len q.length c
        rw [e2]
        simp only [List.length_append]
        (repeat' split) <;> (try simp only [List.length_append, List.length_nil]) <;> omega
      have hj : j = 0 ∨ j = 1 ∨ j = 2 ∨ j = 3 := by omega
      rcases hj with rfl | rfl | rfl | rfl
      · by_cases hb : bandI .u8 (IntKind.u8.wrap ((c.toNat : Int) - 48)) 4 = 0
        · simp -dsimp -implicitDefEqProofs (disch := omega) [condP_pos, condP_neg, optP_pos, decide_eq_true, decide_eq_false, wrap_i64, Int.natCast_inj, U40, binS_and, hb]
          refine again (1, w) ?_ ?_ ?_
          · simp [e2, colSq, hb]
          · simp
          · simp -dsimp -implicitDefEqProofs (disch := omega) [condP_pos, condP_neg, optP_pos, decide_eq_true, decide_eq_false, wrap_i64, Int.natCast_inj, U40]
        · simp -dsimp -implicitDefEqProofs (disch := omega) [condP_pos, condP_neg, optP_pos, decide_eq_true, decide_eq_false, wrap_i64, Int.natCast_inj, U40, binS_and, hb, run_square hv]
          refine again (1, w ++ [sqG 0 (4 * q.length) 4 4]) ?_ ?_ ?_
          · simp [e2, colSq, hb]
          · simp
          · simp -dsimp -implicitDefEqProofs (disch := omega) [condP_pos, condP_neg, optP_pos, decide_eq_true, decide_eq_false, wrap_i64, Int.natCast_inj, U40, eOl]
      · by_cases hb : bandI .u8 (IntKind.u8.wrap ((c.toNat : Int) - 48)) 2 = 0
        · simp -dsimp -implicitDefEqProofs (disch := omega) [condP_pos, condP_neg, optP_pos, decide_eq_true, decide_eq_false, wrap_i64, Int.natCast_inj, U40, binS_and, hb]
          refine again (2, w) ?_ ?_ ?_
          · simp [e2, colSq, hb]
          · simp
          · simp -dsimp -implicitDefEqProofs (disch := omega) [condP_pos, condP_neg, optP_pos, decide_eq_true, decide_eq_false, wrap_i64, Int.natCast_inj, U40]
        · simp -dsimp -implicitDefEqProofs (disch := omega) [condP_pos, condP_neg, optP_pos, decide_eq_true, decide_eq_false, wrap_i64, Int.natCast_inj, U40, binS_and, hb, run_square hv]
          refine again (2, w ++ [sqG 4 (4 * q.length) 4 4]) ?_ ?_ ?_
          · simp [e2, colSq, hb]
          · simp
          · simp -dsimp -implicitDefEqProofs (disch := omega) [condP_pos, condP_neg, optP_pos, decide_eq_true, decide_eq_false, wrap_i64, Int.natCast_inj, U40, eOl]
      · by_cases hb : bandI .u8 (IntKind.u8.wrap ((c.toNat : Int) - 48)) 1 = 0
        · simp -dsimp -implicitDefEqProofs (disch := omega) [condP_pos, condP_neg, optP_pos, decide_eq_true, decide_eq_false, wrap_i64, Int.natCast_inj, U40, binS_and, hb]
          refine again (3, w) ?_ ?_ ?_
          · simp [e2, colSq, rowG, hb]
          · simp
          · simp -dsimp -implicitDefEqProofs (disch := omega) [condP_pos, condP_neg, optP_pos, decide_eq_true, decide_eq_false, wrap_i64, Int.natCast_inj, U40]
        · simp -dsimp -implicitDefEqProofs (disch := omega) [condP_pos, condP_neg, optP_pos, decide_eq_true, decide_eq_false, wrap_i64, Int.natCast_inj, U40, binS_and, hb, run_square hv]
          refine again (3, w ++ [sqG 8 (4 * q.length) 4 4]) ?_ ?_ ?_
          · simp [e2, colSq, rowG, hb]
          · simp
          · simp -dsimp -implicitDefEqProofs (disch := omega) [condP_pos, condP_neg, optP_pos, decide_eq_true, decide_eq_false, wrap_i64, Int.natCast_inj, U40, eOl]
      · simp -dsimp -implicitDefEqProofs (disch := omega) [condP_pos, condP_neg, optP_pos, decide_eq_true, decide_eq_false, wrap_i64, Int.natCast_inj, U40]
        refine again (q ++ [c], r, w) ?_ ?_ ?_
        · refine ⟨by simpa using d1, ?_⟩
          simp only [e2]
          rw [← d2]
          simp [outG]
        · simp
        · simp -dsimp -implicitDefEqProofs (disch := omega) [condP_pos, condP_neg, optP_pos, decide_eq_true, decide_eq_false, wrap_i64, Int.natCast_inj, T40]
end Go.Vai
