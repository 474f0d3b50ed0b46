/-
  What functions of layer 5 and of its reference compute: equations of the abstract run.
-/
import Derived.Test.YtfaomcaimppmeaaDoorHr
import Derived.Test.YtfaomcaimppmeaaDoorGd
set_option linter.unusedVariables false
set_option linter.unusedSimpArgs false
set_option linter.unnecessarySimpa false
set_option linter.unusedSectionVars false
namespace Go.Vai
variable {v : Env} (hv : v.T = Tt)
def byt (n : Int) : UInt8 := UInt8.ofNat (n % 256).toNat
theorem wrap_byt (n : Int) : IntKind.u8.wrap n = ((byt n).toNat : Int) := by
  have h1 : IntKind.u8.wrap n = n % 256 := by
    simp only [IntKind.wrap, IntKind.bits, IntKind.signed]
    simp
  rw [h1]
  unfold byt
  have h2 : (UInt8.ofNat (n % 256).toNat).toNat = (n % 256).toNat := by simp; omega
  rw [h2]; omega
def num1 (n : Int) : List UInt8 := [byt n]
def num2 (n : Int) : List UInt8 := [byt (n.fdiv 256), byt n]
def num3 (n : Int) : List UInt8 := [byt (n.fdiv 65536), byt (n.fdiv 256), byt n]
def twoG (l : List Int) : List UInt8 := l.flatMap num2
include hv
def S71 (l : List Int) (a : List Int × List Int × List UInt8) : St :=
  { sl := [(0, .osl 2 1 0 a.2.2.length), (7, .osl 1 1 0 l.length), (8, i64 l.length), (9, i64 a.1.length)], hp := [(0, none), (1, some (.arr 1 (l.map eI))), (2, some (.arr 1 (a.2.2.map eB)))], nx := 3 }
theorem run_two (out : List UInt8) (l : List Int) (h : l.length ≤ 10) (ho : out.length < 1000000000) : v.run 71 [.osl 0 1 0 out.length, .osl 1 1 0 l.length] [some (.arr 1 (out.map eB)), some (.arr 1 (l.map eI))] = some (.osl 2 1 0 (out ++ twoG l).length, [none, some (.arr 1 (l.map eI)), some (.arr 1 ((out ++ twoG l).map eB))]) := by
  generalize hW : out ++ twoG l = W
  refine run_wp (by rw [hv]; exact rfl) ?_
  simp -dsimp -implicitDefEqProofs (maxSteps := 1000000) (disch := omega) [condP_pos, condP_neg, optP_pos, decide_eq_true, decide_eq_false, wrap_i64, Int.natCast_inj]
  refine wp_inv (S71 l) (fun a => a.1 ++ a.2.1 = l ∧ a.2.2 ++ twoG a.2.1 = W ∧ a.2.2.length ≤ out.length + 2 * a.1.length) (fun a => a.2.1.length) ([], l, out) ⟨rfl, hW, by simp⟩ (by simp -dsimp -implicitDefEqProofs (maxSteps := 1000000) (disch := omega) [condP_pos, condP_neg, optP_pos, decide_eq_true, decide_eq_false, wrap_i64, Int.natCast_inj, S71]) ?_
  rintro ⟨pre, rest, acc⟩ ⟨e1, e2, e3⟩
  simp only at e1 e2 e3
  have e4 : pre.length + rest.length = l.length := by rw [← e1]; simp
  cases rest with
  | nil =>
    simp only [twoG, List.flatMap_nil, List.append_nil] at e2
    subst e2
    simp only [List.length_nil] at e4
    simp -dsimp -implicitDefEqProofs (maxSteps := 1000000) (disch := omega) [condP_pos, condP_neg, optP_pos, decide_eq_true, decide_eq_false, wrap_i64, Int.natCast_inj, S71]
  | cons n rest =>
    simp only [List.length_cons] at e4
    have g1 : l[pre.length]? = some n := by rw [← e1]; simp
    have g2 : (l.map eI)[pre.length]? = some (eI n) := by rw [List.getElem?_map, g1]; rfl
    have g3 : l[pre.length]'(by omega) = n := by
      have := (List.getElem?_eq_some_iff.1 g1).2
      exact this
    simp -dsimp -implicitDefEqProofs (maxSteps := 1000000) (disch := omega) [condP_pos, condP_neg, optP_pos, decide_eq_true, decide_eq_false, wrap_i64, Int.natCast_inj, S71, g2, g3, wrap_byt]
    refine again (pre ++ [n], rest, acc ++ num2 n) ⟨by simpa using e1, by simpa [twoG] using e2, by simp [num2]; omega⟩ (by simp) ?_
    simp -dsimp -implicitDefEqProofs (maxSteps := 1000000) (disch := omega) [condP_pos, condP_neg, optP_pos, decide_eq_true, decide_eq_false, wrap_i64, Int.natCast_inj, S71, num2, eB]
def S73 (n : Int) (a : Nat × List UInt8) : St :=
  { sl := [(0, i64 n), (5, .osl 0 1 0 a.2.length), (6, i64 ((a.1 : Int) - 1))], hp := [(0, some (.arr 1 (a.2.map eB)))], nx := 1 }
def numG (n : Int) : Nat → List UInt8
  | 0 => []
  | m + 1 => byt (n.fdiv (2 ^ (8 * m))) :: numG n m
theorem bytesOf_eB : ∀ l : List UInt8, bytesOf' (l.map eB) = some l
  | [] => rfl
  | b :: l => by
    simp only [List.map_cons, bytesOf', eB, byteOf', bytesOf_eB l]
    simp
theorem run_number (n : Int) (k : Nat) (hk : k ≤ 3) : v.run 73 [i64 n, i64 k] [] = some (bs (numG n k), []) := by
  refine run_wp (by rw [hv]; exact rfl) ?_
  simp -dsimp -implicitDefEqProofs (maxSteps := 1000000) (disch := omega) [condP_pos, condP_neg, optP_pos, decide_eq_true, decide_eq_false, wrap_i64, Int.natCast_inj]
  refine wp_inv (S73 n) (fun a => a.1 ≤ 3 ∧ a.2 ++ numG n a.1 = numG n k ∧ a.2.length ≤ 3 - a.1) (fun a => a.1) (k, []) ⟨hk, rfl, by simp⟩ (by simp -dsimp -implicitDefEqProofs (maxSteps := 1000000) (disch := omega) [condP_pos, condP_neg, optP_pos, decide_eq_true, decide_eq_false, wrap_i64, Int.natCast_inj, S73]) ?_
  rintro ⟨m, acc⟩ ⟨e1, e2, e3⟩
  simp only at e1 e2 e3
  have hm : m = 0 ∨ m = 1 ∨ m = 2 ∨ m = 3 := by omega
  rcases hm with rfl | rfl | rfl | rfl
  · simp only [numG, List.append_nil] at e2
    subst e2
    simp -dsimp -implicitDefEqProofs (maxSteps := 1000000) (disch := omega) [condP_pos, condP_neg, optP_pos, decide_eq_true, decide_eq_false, wrap_i64, Int.natCast_inj, S73, bytesOf_eB]
    done
  · simp -dsimp -implicitDefEqProofs (maxSteps := 1000000) (disch := omega) [condP_pos, condP_neg, optP_pos, decide_eq_true, decide_eq_false, wrap_i64, Int.natCast_inj, S73, wrap_byt]
    refine again (0, acc ++ [byt n]) ⟨by simp, by simpa [numG] using e2, by simp at e3 ⊢; omega⟩ (by simp) ?_
    simp -dsimp -implicitDefEqProofs (maxSteps := 1000000) (disch := omega) [condP_pos, condP_neg, optP_pos, decide_eq_true, decide_eq_false, wrap_i64, Int.natCast_inj, S73, eB]
  · simp -dsimp -implicitDefEqProofs (maxSteps := 1000000) (disch := omega) [condP_pos, condP_neg, optP_pos, decide_eq_true, decide_eq_false, wrap_i64, Int.natCast_inj, S73, wrap_byt]
    refine again (1, acc ++ [byt (n.fdiv 256)]) ⟨by simp, by simpa [numG] using e2, by simp at e3 ⊢; omega⟩ (by simp) ?_
    simp -dsimp -implicitDefEqProofs (maxSteps := 1000000) (disch := omega) [condP_pos, condP_neg, optP_pos, decide_eq_true, decide_eq_false, wrap_i64, Int.natCast_inj, S73, eB]
  · simp -dsimp -implicitDefEqProofs (maxSteps := 1000000) (disch := omega) [condP_pos, condP_neg, optP_pos, decide_eq_true, decide_eq_false, wrap_i64, Int.natCast_inj, S73, wrap_byt]
    refine again (2, acc ++ [byt (n.fdiv 65536)]) ⟨by simp, by simpa [numG] using e2, by simp at e3 ⊢; omega⟩ (by simp) ?_
    simp -dsimp -implicitDefEqProofs (maxSteps := 1000000) (disch := omega) [condP_pos, condP_neg, optP_pos, decide_eq_true, decide_eq_false, wrap_i64, Int.natCast_inj, S73, eB]
end Go.Vai

set_option linter.unusedVariables false
set_option linter.unusedSimpArgs false
set_option linter.unnecessarySimpa false
set_option linter.unusedSectionVars false
namespace Go.Vai
def ptW (p : Pt) : List UInt8 := num2 p.1 ++ num2 p.2
def olW (o : Ol) : List UInt8 := num1 o.length ++ o.flatMap ptW
def pcW (p : Pc) : List UInt8 := num2 p.1 ++ (num2 p.2.1 ++ num2 p.2.2)
def glW (g : Gl) : List UInt8 := 103 :: (num2 g.1 ++ (num1 g.2.1.length ++ (g.2.1.flatMap olW ++ (num1 g.2.2.length ++ g.2.2.flatMap pcW))))
def prW (p : Pt) : List UInt8 := 109 :: (num3 p.1 ++ num2 p.2)
def sgnW : List UInt8 := [102, 111, 110, 116, 32, 49, 10]
def bodyW (f : Font) : List UInt8 := sgnW ++ (f.1.flatMap glW ++ f.2.flatMap prW)
def writeG (f : Font) : List UInt8 := if rightB f = true then bodyW f else []
theorem num2_len (n : Int) : (num2 n).length = 2 := rfl
theorem take3 (acc : List UInt8) (x : UInt8) (n : Int) : List.take (acc.length + 3) (List.map eB acc ++ eB x :: List.map eB (num2 n)) = List.map eB acc ++ eB x :: List.map eB (num2 n) := List.take_of_length_le (by simp [num2])
section
variable {v : Env} (hv : v.T = Tt)
include hv
theorem two_g (acc : List UInt8) (n : Int) (h : acc.length < 900000000) : v.run 71 [.osl 0 1 0 (acc.length + 1), .osl 1 1 0 1] [some (.arr 1 (acc.map eB ++ [[.sc (.int .u8 103)]])), some (.arr 1 [[.sc (.int .i64 n)]])] = some (.osl 2 1 0 (acc.length + 3), [none, some (.arr 1 [[.sc (.int .i64 n)]]), some (.arr 1 ((acc ++ 103 :: num2 n).map eB))]) := by
  have h1 := run_two hv (acc ++ [103]) [n] (by simp) (by simp; omega)
  have e1 : (acc ++ [103] : List UInt8).length = acc.length + 1 := by simp
  have e2 : ((acc ++ [103] : List UInt8) ++ twoG [n]).length = acc.length + 3 := by simp [twoG, num2]
  have e3 : (acc ++ [103] : List UInt8) ++ twoG [n] = acc ++ 103 :: num2 n := by simp [twoG]
  have e4 : (acc ++ [103] : List UInt8).map eB = acc.map eB ++ [[.sc (.int .u8 103)]] := by simp [eB]
  rw [e2, e1, e3, e4] at h1
  exact h1
theorem two_2 (acc : List UInt8) (n m : Int) (h : acc.length < 900000000) : v.run 71 [.osl 0 1 0 acc.length, .osl 1 1 0 2] [some (.arr 1 (acc.map eB)), some (.arr 1 [[.sc (.int .i64 n)], [.sc (.int .i64 m)]])] = some (.osl 2 1 0 (acc.length + 4), [none, some (.arr 1 [[.sc (.int .i64 n)], [.sc (.int .i64 m)]]), some (.arr 1 ((acc ++ (num2 n ++ num2 m)).map eB))]) := by
  have h1 := run_two hv acc [n, m] (by simp) (by omega)
  have e2 : (acc ++ twoG [n, m]).length = acc.length + 4 := by simp [twoG, num2]
  have e3 : acc ++ twoG [n, m] = acc ++ (num2 n ++ num2 m) := by simp [twoG]
  rw [e2, e3] at h1
  exact h1
theorem two_3 (acc : List UInt8) (n m k : Int) (h : acc.length < 900000000) : v.run 71 [.osl 0 1 0 acc.length, .osl 1 1 0 3] [some (.arr 1 (acc.map eB)), some (.arr 1 [[.sc (.int .i64 n)], [.sc (.int .i64 m)], [.sc (.int .i64 k)]])] = some (.osl 2 1 0 (acc.length + 6), [none, some (.arr 1 [[.sc (.int .i64 n)], [.sc (.int .i64 m)], [.sc (.int .i64 k)]]), some (.arr 1 ((acc ++ (num2 n ++ (num2 m ++ num2 k))).map eB))]) := by
  have h1 := run_two hv acc [n, m, k] (by simp) (by omega)
  have e2 : (acc ++ twoG [n, m, k]).length = acc.length + 6 := by simp [twoG, num2]
  have e3 : acc ++ twoG [n, m, k] = acc ++ (num2 n ++ (num2 m ++ num2 k)) := by simp [twoG]
  rw [e2, e3] at h1
  exact h1
theorem two_m (acc : List UInt8) (n m : Int) (h : acc.length < 900000000) : v.run 71 [.osl 0 1 0 (acc.length + 2), .osl 1 1 0 2] [some (.arr 1 (acc.map eB ++ [[.sc (.int .u8 109)], [.sc (.int .u8 ((byt (n.fdiv 65536)).toNat : Int))]])), some (.arr 1 [[.sc (.int .i64 n)], [.sc (.int .i64 m)]])] = some (.osl 2 1 0 (acc.length + 6), [none, some (.arr 1 [[.sc (.int .i64 n)], [.sc (.int .i64 m)]]), some (.arr 1 ((acc ++ prW (n, m)).map eB))]) := by
  have h1 := run_two hv (acc ++ [109, byt (n.fdiv 65536)]) [n, m] (by simp) (by simp; omega)
  have e1 : (acc ++ [109, byt (n.fdiv 65536)] : List UInt8).length = acc.length + 2 := by simp
  have e2 : ((acc ++ [109, byt (n.fdiv 65536)] : List UInt8) ++ twoG [n, m]).length = acc.length + 6 := by simp [twoG, num2]
  have e3 : (acc ++ [109, byt (n.fdiv 65536)] : List UInt8) ++ twoG [n, m] = acc ++ prW (n, m) := by simp [twoG, num2, num3, prW]
  have e4 : (acc ++ [109, byt (n.fdiv 65536)] : List UInt8).map eB = acc.map eB ++ [[.sc (.int .u8 109)], [.sc (.int .u8 ((byt (n.fdiv 65536)).toNat : Int))]] := by simp [eB]
  rw [e2, e1, e3, e4] at h1
  exact h1
def S44 (f : Font) (a : List Gl × List Gl × List UInt8) : St :=
  { sl := [(1, .bp 0 0), (3, .osl 1 1 0 a.2.2.length), (20, rw_ ((a.1 ++ a.2.1).map eGl)), (21, i64 (a.1 ++ a.2.1).length), (22, i64 a.1.length)],
    hp := [(0, some (.box [rw_ ((a.1 ++ a.2.1).map eGl), rw_ (f.2.map ePt)])), (1, some (.arr 1 (a.2.2.map eB)))], nx := 2 }
def T44 (f : Font) (fg : List Gl) (i : Nat) (adv : Int) (pcs : List Pc) (a : List Ol × List Ol × List UInt8) : St :=
  { sl := [(1, .bp 0 0), (3, .osl 1 1 0 a.2.2.length), (5, .bp 2 0), (20, rw_ (fg.map eGl)), (21, i64 fg.length), (22, i64 i), (40, rw_ ((a.1 ++ a.2.1).map eOl)), (41, i64 (a.1 ++ a.2.1).length), (42, i64 a.1.length)],
    hp := [(0, some (.box [rw_ (fg.map eGl), rw_ (f.2.map ePt)])), (1, some (.arr 1 (a.2.2.map eB))), (2, some (.box [i64 adv, rw_ ((a.1 ++ a.2.1).map eOl), rw_ (pcs.map ePc)]))], nx := 3 }
def U44 (f : Font) (fg : List Gl) (i : Nat) (adv : Int) (pcs : List Pc) (q r : List Ol) (a : List Pt × List Pt × List UInt8) : St :=
  { sl := [(1, .bp 0 0), (3, .osl 1 1 0 a.2.2.length), (5, .bp 2 0), (20, rw_ (fg.map eGl)), (21, i64 fg.length), (22, i64 i), (40, rw_ ((q ++ (a.1 ++ a.2.1) :: r).map eOl)), (41, i64 (q ++ (a.1 ++ a.2.1) :: r).length), (42, i64 q.length), (52, rw_ ((a.1 ++ a.2.1).map ePt)), (53, i64 (a.1 ++ a.2.1).length), (54, i64 a.1.length)],
    hp := [(0, some (.box [rw_ (fg.map eGl), rw_ (f.2.map ePt)])), (1, some (.arr 1 (a.2.2.map eB))), (2, some (.box [i64 adv, rw_ ((q ++ (a.1 ++ a.2.1) :: r).map eOl), rw_ (pcs.map ePc)]))], nx := 3 }
def W44 (f : Font) (fg : List Gl) (i : Nat) (a : List Pc × List Pc × List UInt8) : St :=
  { sl := [(1, .bp 0 0), (3, .osl 1 1 0 a.2.2.length), (20, rw_ (fg.map eGl)), (21, i64 fg.length), (22, i64 i), (75, rw_ ((a.1 ++ a.2.1).map ePc)), (76, i64 (a.1 ++ a.2.1).length), (77, i64 a.1.length)],
    hp := [(0, some (.box [rw_ (fg.map eGl), rw_ (f.2.map ePt)])), (1, some (.arr 1 (a.2.2.map eB)))], nx := 2 }
def X44 (a : List Pt × List Pt × List UInt8) : St :=
  { sl := [(3, .osl 0 1 0 a.2.2.length), (93, rw_ ((a.1 ++ a.2.1).map ePt)), (94, i64 (a.1 ++ a.2.1).length), (95, i64 a.1.length)], hp := [(0, some (.arr 1 (a.2.2.map eB)))], nx := 1 }
set_option maxHeartbeats 4000000 in
theorem run_write (f : Font) (hf : okFont f) (hW : (bodyW f).length < 800000000) : v.run 44 [aFont f] [] = some (bs (writeG f), []) := by
  have h0 := run_right hv f hf
  unfold writeG
  obtain ⟨fg, fr⟩ := f
  obtain ⟨f1, f2, f3⟩ := hf
  simp only at f1 f2 f3
  generalize hB : bodyW (fg, fr) = W at hW
  cases hr : rightB (fg, fr) with
  | false =>
    rw [hr] at h0
    rw [if_neg (by simp)]
    refine run_wp (by rw [hv]; exact rfl) ?_
    simp -dsimp -implicitDefEqProofs (maxSteps := 1000000) (disch := omega) [condP_pos, condP_neg, optP_pos, decide_eq_true, decide_eq_false, wrap_i64, Int.natCast_inj, h0, mk_mkB]
  | true =>
    rw [hr] at h0
    rw [if_pos rfl]
    refine run_wp (by rw [hv]; exact rfl) ?_
    simp -dsimp -implicitDefEqProofs (maxSteps := 1000000) (disch := omega) [condP_pos, condP_neg, optP_pos, decide_eq_true, decide_eq_false, wrap_i64, Int.natCast_inj, h0]
    refine wp_inv (S44 (fg, fr)) (fun a => a.1 ++ a.2.1 = fg ∧ a.2.2 ++ (a.2.1.flatMap glW ++ fr.flatMap prW) = W) (fun a => a.2.1.length) ([], fg, sgnW) ⟨rfl, hB⟩ (by simp -dsimp -implicitDefEqProofs (maxSteps := 1000000) (disch := omega) [condP_pos, condP_neg, optP_pos, decide_eq_true, decide_eq_false, wrap_i64, Int.natCast_inj, S44, sgnW, eB]) ?_
    rintro ⟨pre, rest, acc⟩ ⟨e1, e2⟩
    simp only at e1 e2
    have hal : acc.length ≤ W.length := by rw [← e2]; simp
    cases rest with
    | nil =>
      simp only [List.flatMap_nil, List.nil_append, List.append_nil] at e1 e2
      subst e1
      simp -dsimp -implicitDefEqProofs (maxSteps := 1000000) (disch := omega) [condP_pos, condP_neg, optP_pos, decide_eq_true, decide_eq_false, wrap_i64, Int.natCast_inj, S44]
      refine wp_inv X44 (fun a => a.1 ++ a.2.1 = fr ∧ a.2.2 ++ a.2.1.flatMap prW = W) (fun a => a.2.1.length) ([], fr, acc) ⟨rfl, e2⟩ (by simp -dsimp -implicitDefEqProofs (maxSteps := 1000000) (disch := omega) [condP_pos, condP_neg, optP_pos, decide_eq_true, decide_eq_false, wrap_i64, Int.natCast_inj, X44]) ?_
      rintro ⟨q, r, acc⟩ ⟨d1, d2⟩
      simp only at d1 d2
      have hal : acc.length ≤ W.length := by rw [← d2]; simp
      cases r with
      | nil =>
        simp only [List.flatMap_nil, List.append_nil] at d2
        subst d2
        simp -dsimp -implicitDefEqProofs (maxSteps := 1000000) (disch := omega) [condP_pos, condP_neg, optP_pos, decide_eq_true, decide_eq_false, wrap_i64, Int.natCast_inj, X44]
      | cons p r =>
        have d3 : q.length + (r.length + 1) < 1000000000000 := by rw [← d1] at f2; simpa using f2
        have h2 := two_m hv acc p.1 p.2 (by omega)
        simp -dsimp -implicitDefEqProofs (maxSteps := 1000000) (disch := omega) [condP_pos, condP_neg, optP_pos, decide_eq_true, decide_eq_false, wrap_i64, Int.natCast_inj, X44, wrap_byt, h2]
        refine again (q ++ [p], r, acc ++ prW p) ⟨by simpa using d1, by simpa using d2⟩ (by simp) ?_
        simp -dsimp -implicitDefEqProofs (maxSteps := 1000000) (disch := omega) [condP_pos, condP_neg, optP_pos, decide_eq_true, decide_eq_false, wrap_i64, Int.natCast_inj, X44]
        simp [prW, num3, num2]
    | cons g rest =>
      obtain ⟨adv, ols, pcs⟩ := g
      obtain ⟨⟨g1, g2⟩, g3⟩ := f3 (adv, ols, pcs) (by rw [← e1]; simp)
      simp only at g1 g2 g3
      have e3 : pre.length + (rest.length + 1) < 1000000000000 := by rw [← e1] at f1; simpa using f1
      clear f3
      have h2 := two_g hv acc adv (by omega)
      simp only [List.flatMap_cons, List.append_assoc] at e2
      generalize hT : rest.flatMap glW ++ fr.flatMap prW = tail at e2
      subst e1
      generalize hG : pre ++ (adv, ols, pcs) :: rest = fg at *
      have hGe : fg.map eGl = pre.map eGl ++ [.sc (.int .i64 adv), .sl (ols.map eOl), .sl (pcs.map ePc)] :: rest.map eGl := by rw [← hG]; simp [eGl]
      have hGl : fg.length = pre.length + (rest.length + 1) := by rw [← hG]; simp
      simp -dsimp -implicitDefEqProofs (maxSteps := 1000000) (disch := omega) [condP_pos, condP_neg, optP_pos, decide_eq_true, decide_eq_false, wrap_i64, Int.natCast_inj, S44, wrap_byt, h2, eGl, num2_len, take3]
      refine wp_inv (T44 (fg, fr) fg pre.length adv pcs) (fun a => a.1 ++ a.2.1 = ols ∧ a.2.2 ++ (a.2.1.flatMap olW ++ (num1 pcs.length ++ (pcs.flatMap pcW ++ tail))) = W) (fun a => a.2.1.length) ([], ols, acc ++ 103 :: (num2 adv ++ num1 ols.length)) ⟨rfl, by simpa [glW] using e2⟩ (by simp -dsimp -implicitDefEqProofs (maxSteps := 1000000) (disch := omega) [condP_pos, condP_neg, optP_pos, decide_eq_true, decide_eq_false, wrap_i64, Int.natCast_inj, T44, num1, num2, eB, hGe, hGl]; exact List.take_of_length_le (by simp)) ?_
      rintro ⟨q, r, acc⟩ ⟨d1, d2⟩
      simp only at d1 d2
      have hal : acc.length ≤ W.length := by rw [← d2]; simp
      cases r with
      | cons o r =>
        have d3 : q.length + (r.length + 1) < 1000000000000 := by rw [← d1] at g1; simpa using g1
        have d4 := g2 o (by rw [← d1]; simp)
        clear g2
        simp only [List.flatMap_cons, List.append_assoc] at d2
        generalize hT2 : r.flatMap olW ++ (num1 pcs.length ++ (pcs.flatMap pcW ++ tail)) = tail2 at d2
        simp -dsimp -implicitDefEqProofs (maxSteps := 1000000) (disch := omega) [condP_pos, condP_neg, optP_pos, decide_eq_true, decide_eq_false, wrap_i64, Int.natCast_inj, T44, wrap_byt]
        refine wp_inv (U44 (fg, fr) fg pre.length adv pcs q r) (fun a => a.1 ++ a.2.1 = o ∧ a.2.2 ++ (a.2.1.flatMap ptW ++ tail2) = W) (fun a => a.2.1.length) ([], o, acc ++ num1 o.length) ⟨rfl, by simpa [olW] using d2⟩ (by simp -dsimp -implicitDefEqProofs (maxSteps := 1000000) (disch := omega) [condP_pos, condP_neg, optP_pos, decide_eq_true, decide_eq_false, wrap_i64, Int.natCast_inj, U44, num1, eB]; exact List.take_of_length_le (by simp)) ?_
        rintro ⟨x, y, acc⟩ ⟨c1, c2⟩
        simp only at c1 c2
        have hal : acc.length ≤ W.length := by rw [← c2]; simp
        cases y with
        | nil =>
          simp only [List.flatMap_nil, List.nil_append, List.append_nil] at c1 c2
          subst c1
          simp -dsimp -implicitDefEqProofs (maxSteps := 1000000) (disch := omega) [condP_pos, condP_neg, optP_pos, decide_eq_true, decide_eq_false, wrap_i64, Int.natCast_inj, U44]
          refine again (q ++ [x], r, acc) ⟨by simpa using d1, by simp only; rw [hT2]; exact c2⟩ (by simp) ?_
          simp -dsimp -implicitDefEqProofs (maxSteps := 1000000) (disch := omega) [condP_pos, condP_neg, optP_pos, decide_eq_true, decide_eq_false, wrap_i64, Int.natCast_inj, T44]
        | cons p y =>
          have c3 : x.length + (y.length + 1) < 1000000000000 := by rw [← c1] at d4; simpa using d4
          have h3 := two_2 hv acc p.1 p.2 (by omega)
          simp -dsimp -implicitDefEqProofs (maxSteps := 1000000) (disch := omega) [condP_pos, condP_neg, optP_pos, decide_eq_true, decide_eq_false, wrap_i64, Int.natCast_inj, U44, h3]
          refine again (x ++ [p], y, acc ++ ptW p) ⟨by simpa using c1, by simpa using c2⟩ (by simp) ?_
          simp -dsimp -implicitDefEqProofs (maxSteps := 1000000) (disch := omega) [condP_pos, condP_neg, optP_pos, decide_eq_true, decide_eq_false, wrap_i64, Int.natCast_inj, U44]
          simp [ptW, num2]
      | nil =>
        simp only [List.flatMap_nil, List.nil_append, List.append_nil] at d1 d2
        subst d1
        simp -dsimp -implicitDefEqProofs (maxSteps := 1000000) (disch := omega) [condP_pos, condP_neg, optP_pos, decide_eq_true, decide_eq_false, wrap_i64, Int.natCast_inj, T44, wrap_byt]
        refine wp_inv (W44 (fg, fr) fg pre.length) (fun a => a.1 ++ a.2.1 = pcs ∧ a.2.2 ++ (a.2.1.flatMap pcW ++ tail) = W) (fun a => a.2.1.length) ([], pcs, acc ++ num1 pcs.length) ⟨rfl, by simpa using d2⟩ (by simp -dsimp -implicitDefEqProofs (maxSteps := 1000000) (disch := omega) [condP_pos, condP_neg, optP_pos, decide_eq_true, decide_eq_false, wrap_i64, Int.natCast_inj, W44, num1, eB]; exact List.take_of_length_le (by simp)) ?_
        rintro ⟨x, y, acc⟩ ⟨c1, c2⟩
        simp only at c1 c2
        have hal : acc.length ≤ W.length := by rw [← c2]; simp
        cases y with
        | nil =>
          simp only [List.flatMap_nil, List.nil_append, List.append_nil] at c1 c2
          subst c1
          simp -dsimp -implicitDefEqProofs (maxSteps := 1000000) (disch := omega) [condP_pos, condP_neg, optP_pos, decide_eq_true, decide_eq_false, wrap_i64, Int.natCast_inj, W44]
          refine again (pre ++ [(adv, q, x)], rest, acc) ⟨by simpa using hG, by simp only; rw [hT]; exact c2⟩ (by simp) ?_
          simp -dsimp -implicitDefEqProofs (maxSteps := 1000000) (disch := omega) [condP_pos, condP_neg, optP_pos, decide_eq_true, decide_eq_false, wrap_i64, Int.natCast_inj, S44, hGe, hGl]
          rfl
        | cons p y =>
          have c3 : x.length + (y.length + 1) < 1000000000000 := by rw [← c1] at g3; simpa using g3
          have h3 := two_3 hv acc p.1 p.2.1 p.2.2 (by omega)
          simp -dsimp -implicitDefEqProofs (maxSteps := 1000000) (disch := omega) [condP_pos, condP_neg, optP_pos, decide_eq_true, decide_eq_false, wrap_i64, Int.natCast_inj, W44, h3]
          refine again (x ++ [p], y, acc ++ pcW p) ⟨by simpa using c1, by simpa using c2⟩ (by simp) ?_
          simp -dsimp -implicitDefEqProofs (maxSteps := 1000000) (disch := omega) [condP_pos, condP_neg, optP_pos, decide_eq_true, decide_eq_false, wrap_i64, Int.natCast_inj, W44]
          simp [pcW, num2]
end
end Go.Vai

set_option linter.unusedVariables false
set_option linter.unusedSimpArgs false
set_option linter.unnecessarySimpa false
set_option linter.unusedSectionVars false
namespace Go.Vai
theorem num1_len (n : Int) : (num1 n).length = 1 := rfl
theorem num3_len (n : Int) : (num3 n).length = 3 := rfl
section
variable {v : Env} (hv : v.T = Tt)
include hv
theorem run_num1 (n : Int) : v.run 73 [i64 n, i64 1] [] = some (bs (num1 n), []) := by
  have h := run_number hv n 1 (by omega)
  have e : numG n 1 = num1 n := by simp [numG, num1]
  rw [e] at h; exact h
theorem run_num2 (n : Int) : v.run 73 [i64 n, i64 2] [] = some (bs (num2 n), []) := by
  have h := run_number hv n 2 (by omega)
  have e : numG n 2 = num2 n := by simp [numG, num2]
  rw [e] at h; exact h
theorem run_num3 (n : Int) : v.run 73 [i64 n, i64 3] [] = some (bs (num3 n), []) := by
  have h := run_number hv n 3 (by omega)
  have e : numG n 3 = num3 n := by simp [numG, num3]
  rw [e] at h; exact h
def S46 (f : Font) (a : List Gl × List Gl × List UInt8) : St :=
  { sl := [(1, .bp 0 0), (3, .osl 1 1 0 a.2.2.length), (4, i64 a.1.length)],
    hp := [(0, some (.box [rw_ ((a.1 ++ a.2.1).map eGl), rw_ (f.2.map ePt)])), (1, some (.arr 1 (a.2.2.map eB)))], nx := 2 }
def T46 (f : Font) (fg : List Gl) (i : Nat) (adv : Int) (pcs : List Pc) (a : List Ol × List Ol × List UInt8) : St :=
  { sl := [(1, .bp 0 0), (3, .osl 1 1 0 a.2.2.length), (4, i64 i), (5, .bp 2 0), (6, i64 a.1.length)],
    hp := [(0, some (.box [rw_ (fg.map eGl), rw_ (f.2.map ePt)])), (1, some (.arr 1 (a.2.2.map eB))), (2, some (.box [i64 adv, rw_ ((a.1 ++ a.2.1).map eOl), rw_ (pcs.map ePc)]))], nx := 3 }
def U46 (f : Font) (fg : List Gl) (i : Nat) (adv : Int) (pcs : List Pc) (q r : List Ol) (a : List Pt × List Pt × List UInt8) : St :=
  { sl := [(1, .bp 0 0), (3, .osl 1 1 0 a.2.2.length), (4, i64 i), (5, .bp 2 0), (6, i64 q.length), (7, rw_ ((a.1 ++ a.2.1).map ePt)), (8, i64 a.1.length)],
    hp := [(0, some (.box [rw_ (fg.map eGl), rw_ (f.2.map ePt)])), (1, some (.arr 1 (a.2.2.map eB))), (2, some (.box [i64 adv, rw_ ((q ++ (a.1 ++ a.2.1) :: r).map eOl), rw_ (pcs.map ePc)]))], nx := 3 }
def W46 (f : Font) (fg : List Gl) (i : Nat) (adv : Int) (ols : List Ol) (a : List Pc × List Pc × List UInt8) : St :=
  { sl := [(1, .bp 0 0), (3, .osl 1 1 0 a.2.2.length), (4, i64 i), (5, .bp 2 0), (9, i64 a.1.length)],
    hp := [(0, some (.box [rw_ (fg.map eGl), rw_ (f.2.map ePt)])), (1, some (.arr 1 (a.2.2.map eB))), (2, some (.box [i64 adv, rw_ (ols.map eOl), rw_ ((a.1 ++ a.2.1).map ePc)]))], nx := 3 }
def X46 (fg : List Gl) (a : List Pt × List Pt × List UInt8) : St :=
  { sl := [(1, .bp 0 0), (3, .osl 1 1 0 a.2.2.length), (10, i64 a.1.length)],
    hp := [(0, some (.box [rw_ (fg.map eGl), rw_ ((a.1 ++ a.2.1).map ePt)])), (1, some (.arr 1 (a.2.2.map eB)))], nx := 2 }
set_option maxHeartbeats 4000000 in
theorem run_rwrite (f : Font) (hf : okFont f) (hW : (bodyW f).length < 800000000) : v.run 46 [aFont f] [] = some (bs (writeG f), []) := by
  have h0 := run_rright hv f hf
  unfold writeG
  obtain ⟨fg, fr⟩ := f
  obtain ⟨f1, f2, f3⟩ := hf
  simp only at f1 f2 f3
  generalize hB : bodyW (fg, fr) = W at hW
  cases hr : rightB (fg, fr) with
  | false =>
    rw [hr] at h0
    rw [if_neg (by simp)]
    refine run_wp (by rw [hv]; exact rfl) ?_
    simp -dsimp -implicitDefEqProofs (maxSteps := 1000000) (disch := omega) [condP_pos, condP_neg, optP_pos, decide_eq_true, decide_eq_false, wrap_i64, Int.natCast_inj, h0, mk_mkB]
  | true =>
    rw [hr] at h0
    rw [if_pos rfl]
    refine run_wp (by rw [hv]; exact rfl) ?_
    simp -dsimp -implicitDefEqProofs (maxSteps := 1000000) (disch := omega) [condP_pos, condP_neg, optP_pos, decide_eq_true, decide_eq_false, wrap_i64, Int.natCast_inj, h0]
    refine wp_inv (S46 (fg, fr)) (fun a => a.1 ++ a.2.1 = fg ∧ a.2.2 ++ (a.2.1.flatMap glW ++ fr.flatMap prW) = W) (fun a => a.2.1.length) ([], fg, sgnW) ⟨rfl, hB⟩ (by simp -dsimp -implicitDefEqProofs (maxSteps := 1000000) (disch := omega) [condP_pos, condP_neg, optP_pos, decide_eq_true, decide_eq_false, wrap_i64, Int.natCast_inj, S46, sgnW, eB]) ?_
    rintro ⟨pre, rest, acc⟩ ⟨e1, e2⟩
    simp only at e1 e2
    have hal : acc.length ≤ W.length := by rw [← e2]; simp
    cases rest with
    | nil =>
      simp only [List.flatMap_nil, List.nil_append, List.append_nil] at e1 e2
      subst e1
      simp -dsimp -implicitDefEqProofs (maxSteps := 1000000) (disch := omega) [condP_pos, condP_neg, optP_pos, decide_eq_true, decide_eq_false, wrap_i64, Int.natCast_inj, S46]
      refine wp_inv (X46 pre) (fun a => a.1 ++ a.2.1 = fr ∧ a.2.2 ++ a.2.1.flatMap prW = W) (fun a => a.2.1.length) ([], fr, acc) ⟨rfl, e2⟩ (by simp -dsimp -implicitDefEqProofs (maxSteps := 1000000) (disch := omega) [condP_pos, condP_neg, optP_pos, decide_eq_true, decide_eq_false, wrap_i64, Int.natCast_inj, X46]) ?_
      rintro ⟨q, r, acc⟩ ⟨d1, d2⟩
      simp only at d1 d2
      have hal : acc.length ≤ W.length := by rw [← d2]; simp
      cases r with
      | nil =>
        simp only [List.flatMap_nil, List.append_nil] at d2
        subst d2
        simp -dsimp -implicitDefEqProofs (maxSteps := 1000000) (disch := omega) [condP_pos, condP_neg, optP_pos, decide_eq_true, decide_eq_false, wrap_i64, Int.natCast_inj, X46]
      | cons p r =>
        have d3 : q.length + (r.length + 1) < 1000000000000 := by rw [← d1] at f2; simpa using f2
        simp -dsimp -implicitDefEqProofs (maxSteps := 1000000) (disch := omega) [condP_pos, condP_neg, optP_pos, decide_eq_true, decide_eq_false, wrap_i64, Int.natCast_inj, if_pos, if_neg, X46, run_num2 hv, run_num3 hv, num2_len, num3_len, mk_mkB]
        refine again (q ++ [p], r, acc ++ prW p) ⟨by simpa using d1, by simpa using d2⟩ (by simp) ?_
        simp -dsimp -implicitDefEqProofs (maxSteps := 1000000) (disch := omega) [condP_pos, condP_neg, optP_pos, decide_eq_true, decide_eq_false, wrap_i64, Int.natCast_inj, X46]
        simp [prW, num3, num2]
    | cons g rest =>
      obtain ⟨adv, ols, pcs⟩ := g
      obtain ⟨⟨g1, g2⟩, g3⟩ := f3 (adv, ols, pcs) (by rw [← e1]; simp)
      simp only at g1 g2 g3
      have e3 : pre.length + (rest.length + 1) < 1000000000000 := by rw [← e1] at f1; simpa using f1
      clear f3
      simp only [List.flatMap_cons, List.append_assoc] at e2
      generalize hT : rest.flatMap glW ++ fr.flatMap prW = tail at e2
      subst e1
      generalize hG : pre ++ (adv, ols, pcs) :: rest = fg at *
      have hGe : fg.map eGl = pre.map eGl ++ [.sc (.int .i64 adv), .sl (ols.map eOl), .sl (pcs.map ePc)] :: rest.map eGl := by rw [← hG]; simp [eGl]
      have hGl : fg.length = pre.length + (rest.length + 1) := by rw [← hG]; simp
      simp -dsimp -implicitDefEqProofs (maxSteps := 1000000) (disch := omega) [condP_pos, condP_neg, optP_pos, decide_eq_true, decide_eq_false, wrap_i64, Int.natCast_inj, if_pos, if_neg, S46, run_num1 hv, run_num2 hv, num1_len, num2_len, mk_mkB, eGl]
      refine wp_inv (T46 (fg, fr) fg pre.length adv pcs) (fun a => a.1 ++ a.2.1 = ols ∧ a.2.2 ++ (a.2.1.flatMap olW ++ (num1 pcs.length ++ (pcs.flatMap pcW ++ tail))) = W) (fun a => a.2.1.length) ([], ols, acc ++ 103 :: (num2 adv ++ num1 ols.length)) ⟨rfl, by simpa [glW] using e2⟩ (by simp -dsimp -implicitDefEqProofs (maxSteps := 1000000) (disch := omega) [condP_pos, condP_neg, optP_pos, decide_eq_true, decide_eq_false, wrap_i64, Int.natCast_inj, T46, num1, num2, eB, hGe, hGl]; exact List.take_of_length_le (by simp)) ?_
      rintro ⟨q, r, acc⟩ ⟨d1, d2⟩
      simp only at d1 d2
      have hal : acc.length ≤ W.length := by rw [← d2]; simp
      cases r with
      | cons o r =>
        have d3 : q.length + (r.length + 1) < 1000000000000 := by rw [← d1] at g1; simpa using g1
        have d4 := g2 o (by rw [← d1]; simp)
        clear g2
        simp only [List.flatMap_cons, List.append_assoc] at d2
        generalize hT2 : r.flatMap olW ++ (num1 pcs.length ++ (pcs.flatMap pcW ++ tail)) = tail2 at d2
        simp -dsimp -implicitDefEqProofs (maxSteps := 1000000) (disch := omega) [condP_pos, condP_neg, optP_pos, decide_eq_true, decide_eq_false, wrap_i64, Int.natCast_inj, T46, run_num1 hv, num1_len]
        refine wp_inv (U46 (fg, fr) fg pre.length adv pcs q r) (fun a => a.1 ++ a.2.1 = o ∧ a.2.2 ++ (a.2.1.flatMap ptW ++ tail2) = W) (fun a => a.2.1.length) ([], o, acc ++ num1 o.length) ⟨rfl, by simpa [olW] using d2⟩ (by simp -dsimp -implicitDefEqProofs (maxSteps := 1000000) (disch := omega) [condP_pos, condP_neg, optP_pos, decide_eq_true, decide_eq_false, wrap_i64, Int.natCast_inj, U46, num1, eB]; exact List.take_of_length_le (by simp)) ?_
        rintro ⟨x, y, acc⟩ ⟨c1, c2⟩
        simp only at c1 c2
        have hal : acc.length ≤ W.length := by rw [← c2]; simp
        cases y with
        | nil =>
          simp only [List.flatMap_nil, List.nil_append, List.append_nil] at c1 c2
          subst c1
          simp -dsimp -implicitDefEqProofs (maxSteps := 1000000) (disch := omega) [condP_pos, condP_neg, optP_pos, decide_eq_true, decide_eq_false, wrap_i64, Int.natCast_inj, U46]
          refine again (q ++ [x], r, acc) ⟨by simpa using d1, by simp only; rw [hT2]; exact c2⟩ (by simp) ?_
          simp -dsimp -implicitDefEqProofs (maxSteps := 1000000) (disch := omega) [condP_pos, condP_neg, optP_pos, decide_eq_true, decide_eq_false, wrap_i64, Int.natCast_inj, T46]
        | cons p y =>
          have c3 : x.length + (y.length + 1) < 1000000000000 := by rw [← c1] at d4; simpa using d4
          simp -dsimp -implicitDefEqProofs (maxSteps := 1000000) (disch := omega) [condP_pos, condP_neg, optP_pos, decide_eq_true, decide_eq_false, wrap_i64, Int.natCast_inj, if_pos, if_neg, U46, run_num2 hv, num2_len]
          refine again (x ++ [p], y, acc ++ ptW p) ⟨by simpa using c1, by simpa using c2⟩ (by simp) ?_
          simp -dsimp -implicitDefEqProofs (maxSteps := 1000000) (disch := omega) [condP_pos, condP_neg, optP_pos, decide_eq_true, decide_eq_false, wrap_i64, Int.natCast_inj, U46]
          simp [ptW, num2]
      | nil =>
        simp only [List.flatMap_nil, List.nil_append, List.append_nil] at d1 d2
        subst d1
        simp -dsimp -implicitDefEqProofs (maxSteps := 1000000) (disch := omega) [condP_pos, condP_neg, optP_pos, decide_eq_true, decide_eq_false, wrap_i64, Int.natCast_inj, T46, run_num1 hv, num1_len]
        refine wp_inv (W46 (fg, fr) fg pre.length adv q) (fun a => a.1 ++ a.2.1 = pcs ∧ a.2.2 ++ (a.2.1.flatMap pcW ++ tail) = W) (fun a => a.2.1.length) ([], pcs, acc ++ num1 pcs.length) ⟨rfl, by simpa using d2⟩ (by simp -dsimp -implicitDefEqProofs (maxSteps := 1000000) (disch := omega) [condP_pos, condP_neg, optP_pos, decide_eq_true, decide_eq_false, wrap_i64, Int.natCast_inj, W46, num1, eB]; exact List.take_of_length_le (by simp)) ?_
        rintro ⟨x, y, acc⟩ ⟨c1, c2⟩
        simp only at c1 c2
        have hal : acc.length ≤ W.length := by rw [← c2]; simp
        cases y with
        | nil =>
          simp only [List.flatMap_nil, List.nil_append, List.append_nil] at c1 c2
          subst c1
          simp -dsimp -implicitDefEqProofs (maxSteps := 1000000) (disch := omega) [condP_pos, condP_neg, optP_pos, decide_eq_true, decide_eq_false, wrap_i64, Int.natCast_inj, W46]
          refine again (pre ++ [(adv, q, x)], rest, acc) ⟨by simpa using hG, by simp only; rw [hT]; exact c2⟩ (by simp) ?_
          simp -dsimp -implicitDefEqProofs (maxSteps := 1000000) (disch := omega) [condP_pos, condP_neg, optP_pos, decide_eq_true, decide_eq_false, wrap_i64, Int.natCast_inj, S46, hGe, hGl]
          rfl
        | cons p y =>
          have c3 : x.length + (y.length + 1) < 1000000000000 := by rw [← c1] at g3; simpa using g3
          simp -dsimp -implicitDefEqProofs (maxSteps := 1000000) (disch := omega) [condP_pos, condP_neg, optP_pos, decide_eq_true, decide_eq_false, wrap_i64, Int.natCast_inj, if_pos, if_neg, W46, run_num2 hv, num2_len]
          refine again (x ++ [p], y, acc ++ pcW p) ⟨by simpa using c1, by simpa using c2⟩ (by simp) ?_
          simp -dsimp -implicitDefEqProofs (maxSteps := 1000000) (disch := omega) [condP_pos, condP_neg, optP_pos, decide_eq_true, decide_eq_false, wrap_i64, Int.natCast_inj, W46]
          simp [pcW, num2]
end
end Go.Vai
