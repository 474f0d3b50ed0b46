/-
  What functions of layer 5 and of its reference compute: equations of the abstract run.
-/
import Derived.Test.YtfaomcaimppmeaaDoorIl
set_option linter.unusedVariables false
set_option linter.unusedSimpArgs false
set_option linter.unnecessarySimpa false
set_option linter.unusedSectionVars false
namespace Go.Vai
abbrev plA (c : Cu) : AV := .agg [i64 c.1, bo (!c.2)]
theorem ptsV_br {b : List UInt8} {c : Cu} (h : okC b c) (hb : c.2 = true) : ∀ n, ptsV b n c = ([], c)
  | 0 => rfl
  | n + 1 => by
    obtain ⟨a, t⟩ := c
    simp only at hb
    subst hb
    have ha := h.2 rfl
    simp only at ha
    subst ha
    simp [ptsV, ptV, sgV, tkV]
theorem olsV_br {b : List UInt8} {c : Cu} (h : okC b c) (hb : c.2 = true) (i : Nat) : ∀ n, olsV b n i c = ([], c)
  | 0 => rfl
  | n + 1 => by
    obtain ⟨a, t⟩ := c
    simp only at hb
    subst hb
    have ha := h.2 rfl
    simp only at ha
    subst ha
    simp [olsV, tkV]
theorem pcsV_br {b : List UInt8} {c : Cu} (h : okC b c) (hb : c.2 = true) (i : Nat) : ∀ n, pcsV b n i c = ([], c)
  | 0 => rfl
  | n + 1 => by
    obtain ⟨a, t⟩ := c
    simp only at hb
    subst hb
    have ha := h.2 rfl
    simp only at ha
    subst ha
    simp [pcsV, ptV, sgV, tkV]
variable {v : Env} (hv : v.T = Tt)
include hv
theorem run_77 (left n : Int) (h1 : left ≤ 9223372036854775807) (h2 : 0 ≤ n) (h3 : n < 1000000000000) : v.run 77 [i64 left, i64 n] [] = some (if max left 0 < n then .tup [i64 0, bo false] else .tup [i64 (max left 0 - n), bo true], []) := by
  refine run_wp (by rw [hv]; exact rfl) ?_
  by_cases hl : left ≤ 0
  · have hm : max left 0 = 0 := by omega
    rw [hm]
    by_cases hw : 0 < n
    · rw [if_pos hw]; simp -dsimp -implicitDefEqProofs (maxSteps := 1000000) (disch := omega) [condP_pos, condP_neg, optP_pos, decide_eq_true, decide_eq_false, wrap_i64, Int.natCast_inj, hl, hw]
    · rw [if_neg hw]; simp -dsimp -implicitDefEqProofs (maxSteps := 1000000) (disch := omega) [condP_pos, condP_neg, optP_pos, decide_eq_true, decide_eq_false, wrap_i64, Int.natCast_inj, hl, hw, hm]
  · have hm : max left 0 = left := by omega
    rw [hm]
    by_cases hw : left < n
    · rw [if_pos hw]; simp -dsimp -implicitDefEqProofs (maxSteps := 1000000) (disch := omega) [condP_pos, condP_neg, optP_pos, decide_eq_true, decide_eq_false, wrap_i64, Int.natCast_inj, hl, hw]
    · rw [if_neg hw]; simp -dsimp -implicitDefEqProofs (maxSteps := 1000000) (disch := omega) [condP_pos, condP_neg, optP_pos, decide_eq_true, decide_eq_false, wrap_i64, Int.natCast_inj, hl, hw]; omega
def S79 (b : List UInt8) (a n : Nat) (x : Int × Nat) : St :=
  { sl := [(0, bs b), (2, i64 n), (4, .bp 0 0), (7, .bp 1 0), (8, i64 x.1), (9, i64 x.2)], hp := [(0, some (.box [i64 a, bo true])), (1, some (.box [i64 0, bo false]))], nx := 2 }
theorem run_79 (b : List UInt8) (c : Cu) (n : Nat) (hn : n ≤ 3) (hc : c.1 ≤ b.length) (hb : b.length < 1000000000000000) :
    v.run 79 [bs b, plA c, i64 n] [] = some (.tup [i64 (tkV b c.1 c.2 n).1, plA (tkV b c.1 c.2 n).2], []) := by
  obtain ⟨a, br⟩ := c
  simp only at hc
  refine run_wp (by rw [hv]; exact rfl) ?_
  cases br with
  | true => simp -dsimp -implicitDefEqProofs (maxSteps := 1000000) (disch := omega) [condP_pos, condP_neg, optP_pos, decide_eq_true, decide_eq_false, wrap_i64, Int.natCast_inj, tkV]
  | false =>
    by_cases h2 : b.length < a + n
    · simp -dsimp -implicitDefEqProofs (maxSteps := 1000000) (disch := omega) [condP_pos, condP_neg, optP_pos, decide_eq_true, decide_eq_false, wrap_i64, Int.natCast_inj, tkV, h2]
    · simp -dsimp -implicitDefEqProofs (maxSteps := 1000000) (disch := omega) [condP_pos, condP_neg, optP_pos, decide_eq_true, decide_eq_false, wrap_i64, Int.natCast_inj, tkV, h2]
      refine wp_inv (S79 b a n) (fun q => q.2 ≤ n ∧ 0 ≤ q.1 ∧ q.1 < 256 ^ q.2 ∧ ((b.drop (a + q.2)).take (n - q.2)).foldl stepN q.1 = beN ((b.drop a).take n)) (fun q => n - q.2) (0, 0) ⟨by simp, by simp, by simp, by simp [beN]⟩ (by simp -dsimp -implicitDefEqProofs (maxSteps := 1000000) (disch := omega) [condP_pos, condP_neg, optP_pos, decide_eq_true, decide_eq_false, wrap_i64, Int.natCast_inj, S79]) ?_
      rintro ⟨x, i⟩ ⟨e1, e3, e4, e5⟩
      simp only at e1 e3 e4 e5
      rcases Nat.lt_or_ge i n with hi | hi
      · have hp : a + i < b.length := by omega
        have hd : (b.drop (a + i)).take (n - i) = b[a + i] :: (b.drop (a + (i + 1))).take (n - (i + 1)) := by
          rw [List.drop_eq_getElem_cons hp, show n - i = (n - (i + 1)) + 1 by omega, List.take_succ_cons]; rfl
        rw [hd, List.foldl_cons] at e5
        have hy := u8_lti b[a + i]
        have hx65 : x < 65536 := by
          have : i = 0 ∨ i = 1 ∨ i = 2 := by omega
          rcases this with rfl | rfl | rfl <;> simp at e4 <;> omega
        have e4' : stepN x b[a + i] < 256 ^ (i + 1) := by
          have h9 : x * 256 + 256 ≤ 256 ^ i * 256 := by
            have : (x + 1) * 256 ≤ 256 ^ i * 256 := Int.mul_le_mul_of_nonneg_right (by omega) (by omega)
            omega
          rw [Int.pow_succ]; unfold stepN; omega
        have hti : ((a : Int) + (i : Int)).toNat = a + i := by omega
        simp -dsimp -implicitDefEqProofs (maxSteps := 1000000) (disch := omega) [condP_pos, condP_neg, optP_pos, decide_eq_true, decide_eq_false, wrap_i64, Int.natCast_inj, S79, hp, hti]
        refine again (stepN x b[a + i], i + 1) ⟨by simp only; omega, by simp only [stepN]; omega, e4', e5⟩ (by simp; omega) ?_
        simp -dsimp -implicitDefEqProofs (maxSteps := 1000000) (disch := omega) [condP_pos, condP_neg, optP_pos, decide_eq_true, decide_eq_false, wrap_i64, Int.natCast_inj, S79, stepN]
      · have hi' : i = n := by omega
        subst hi'
        simp only [Nat.sub_self, List.take_zero, List.foldl_nil] at e5
        subst e5
        simp -dsimp -implicitDefEqProofs (maxSteps := 1000000) (disch := omega) [condP_pos, condP_neg, optP_pos, decide_eq_true, decide_eq_false, wrap_i64, Int.natCast_inj, S79, tkV, h2]
theorem run_98 (b : List UInt8) (c : Cu) (hc : c.1 ≤ b.length) (hb : b.length < 1000000000000000) :
    v.run 98 [bs b, plA c] [] = some (.tup [i64 (sgV b c.1 c.2).1, plA (sgV b c.1 c.2).2], []) := by
  have h1 : v.run 79 [bs b, plA c, i64 2] [] = _ := run_79 hv b c 2 (by omega) hc hb
  obtain ⟨b1, b2, _⟩ := tkV_b b c.1 c.2 2 hc (by omega)
  unfold sgV
  generalize tkV b c.1 c.2 2 = q at *
  obtain ⟨x, d⟩ := q
  simp only at *
  simp at b2
  refine run_wp (by rw [hv]; exact rfl) ?_
  by_cases h2 : 32767 < x
  · have h3 : 32768 ≤ x := by omega
    simp -dsimp -implicitDefEqProofs (maxSteps := 1000000) (disch := omega) [condP_pos, condP_neg, optP_pos, decide_eq_true, decide_eq_false, wrap_i64, Int.natCast_inj, h1, h2, h3]
  · have h3 : ¬ 32768 ≤ x := by omega
    simp -dsimp -implicitDefEqProofs (maxSteps := 1000000) (disch := omega) [condP_pos, condP_neg, optP_pos, decide_eq_true, decide_eq_false, wrap_i64, Int.natCast_inj, h1, h2, h3]
end Go.Vai

set_option linter.unusedVariables false
set_option linter.unusedSimpArgs false
set_option linter.unnecessarySimpa false
set_option linter.unusedSectionVars false
namespace Go.Vai
variable {v : Env} (hv : v.T = Tt)
include hv
def S99 (b : List UInt8) (m : Nat) (a : Nat × Cu × List Pt) : St :=
  { sl := [(0, bs b), (2, i64 m), (4, .bp 0 0), (7, .bp 1 0), (8, .osl 2 2 0 a.2.2.length), (9, i64 a.1)], hp := [(0, some (.box [i64 a.2.1.1, bo (!a.2.1.2)])), (1, some (.box [i64 0, bo false])), (2, some (.arr 2 (a.2.2.map ePt)))], nx := 3 }
theorem run_99 (b : List UInt8) (c : Cu) (m : Nat) (hm : m < 256) (hc : okC b c) (hb : b.length < 1000000000000000) :
    v.run 99 [bs b, plA c, i64 m] [] = some (.tup [rw_ ((ptsV b m c).1.map ePt), plA (ptsV b m c).2], []) := by
  generalize hW : ptsV b m c = W
  refine run_wp (by rw [hv]; exact rfl) ?_
  simp -dsimp -implicitDefEqProofs (maxSteps := 1000000) (disch := omega) [condP_pos, condP_neg, optP_pos, decide_eq_true, decide_eq_false, wrap_i64, Int.natCast_inj]
  refine wp_inv (S99 b m) (fun a => a.1 ≤ m ∧ okC b a.2.1 ∧ a.2.2.length ≤ a.1 ∧ (a.2.2 ++ (ptsV b (m - a.1) a.2.1).1, (ptsV b (m - a.1) a.2.1).2) = W) (fun a => m - a.1) (0, c, []) ⟨by simp, hc, by simp, by simpa using hW⟩ (by simp -dsimp -implicitDefEqProofs (maxSteps := 1000000) (disch := omega) [condP_pos, condP_neg, optP_pos, decide_eq_true, decide_eq_false, wrap_i64, Int.natCast_inj, S99]) ?_
  rintro ⟨i, d, acc⟩ ⟨e1, e2, e3, e4⟩
  simp only at e1 e2 e3 e4
  rcases Nat.lt_or_ge i m with hi | hi
  · cases hd : d.2 with
    | true =>
      rw [ptsV_br e2 hd] at e4
      simp only [List.append_nil] at e4
      rw [← e4]
      simp -dsimp -implicitDefEqProofs (maxSteps := 1000000) (disch := omega) [condP_pos, condP_neg, optP_pos, decide_eq_true, decide_eq_false, wrap_i64, Int.natCast_inj, S99, hi, hd]
    | false =>
      have h1 := run_98 hv b d e2.1 hb
      have k1 := (sgV_ok e2).1
      rw [show m - i = (m - (i + 1)) + 1 by omega, ptsV] at e4
      have hP : ptV b d.1 d.2 = (((sgV b d.1 d.2).1, (sgV b (sgV b d.1 d.2).2.1 (sgV b d.1 d.2).2.2).1), (sgV b (sgV b d.1 d.2).2.1 (sgV b d.1 d.2).2.2).2) := rfl
      generalize sgV b d.1 d.2 = q at h1 k1 hP
      obtain ⟨x, d1⟩ := q
      simp only at h1 k1 hP
      have h2 := run_98 hv b d1 k1.1 hb
      have k2 := (sgV_ok k1).1
      generalize sgV b d1.1 d1.2 = q at h2 k2 hP
      obtain ⟨y, d2, t⟩ := q
      simp only [hd, Bool.not_false, plA] at h1 h2 k2 hP
      rw [hd, hP] at e4
      simp only at e4
      cases t with
      | true =>
        simp only [if_true, List.append_nil] at e4
        have hbk := ptsV_br k2 rfl (m - (i + 1))
        simp -dsimp -implicitDefEqProofs (maxSteps := 1000000) (disch := omega) [condP_pos, condP_neg, optP_pos, decide_eq_true, decide_eq_false, wrap_i64, Int.natCast_inj, S99, hi, hd, h1, h2]
        refine again (i + 1, (d2, true), acc) ⟨by simp only; omega, k2, by simp only; omega, by simp only [hbk, List.append_nil]; exact e4⟩ (by simp; omega) ?_
        simp -dsimp -implicitDefEqProofs (maxSteps := 1000000) (disch := omega) [condP_pos, condP_neg, optP_pos, decide_eq_true, decide_eq_false, wrap_i64, Int.natCast_inj, S99]
      | false =>
        simp only [Bool.false_eq_true, if_false] at e4
        simp -dsimp -implicitDefEqProofs (maxSteps := 1000000) (disch := omega) [condP_pos, condP_neg, optP_pos, decide_eq_true, decide_eq_false, wrap_i64, Int.natCast_inj, S99, hi, hd, h1, h2]
        refine again (i + 1, (d2, false), acc ++ [(x, y)]) ⟨by simp only; omega, k2, by simp; omega, by simpa using e4⟩ (by simp; omega) ?_
        simp -dsimp -implicitDefEqProofs (maxSteps := 1000000) (disch := omega) [condP_pos, condP_neg, optP_pos, decide_eq_true, decide_eq_false, wrap_i64, Int.natCast_inj, S99, ePt]
  · have him : i = m := by omega
    subst him
    simp only [Nat.sub_self, ptsV, List.append_nil] at e4
    rw [← e4]
    simp -dsimp -implicitDefEqProofs (maxSteps := 1000000) (disch := omega) [condP_pos, condP_neg, optP_pos, decide_eq_true, decide_eq_false, wrap_i64, Int.natCast_inj, S99]
end Go.Vai

set_option linter.unusedVariables false
set_option linter.unusedSimpArgs false
set_option linter.unnecessarySimpa false
set_option linter.unusedSectionVars false
namespace Go.Vai
variable {v : Env} (hv : v.T = Tt)
include hv
def S78a (b : List UInt8) (adv : Int) (m : Nat) (a : Nat × Cu × List Ol) : St :=
  { sl := [(0, bs b), (3, .bp 0 0), (4, .bp 1 0), (5, .bp 2 0), (6, .bp 3 0), (8, i64 m), (9, i64 a.1)],
    hp := [(0, some (.box [i64 a.2.1.1, bo (!a.2.1.2)])), (1, some (.box [i64 0, .emp, .emp])), (2, some (.box [i64 0, bo false])), (3, some (.box [i64 adv, .osl 4 1 0 a.2.2.length, .osl 5 3 0 0])), (4, some (.arr 1 (a.2.2.map eOl))), (5, some (.arr 3 []))], nx := 6 }
def S78b (b : List UInt8) (adv : Int) (ols : List Ol) (m : Nat) (a : Nat × Cu × List Pc) : St :=
  { sl := [(0, bs b), (3, .bp 0 0), (4, .bp 1 0), (5, .bp 2 0), (6, .bp 3 0), (8, i64 m), (14, i64 a.1)],
    hp := [(0, some (.box [i64 a.2.1.1, bo (!a.2.1.2)])), (1, some (.box [i64 0, .emp, .emp])), (2, some (.box [i64 0, bo false])), (3, some (.box [i64 adv, .osl 4 1 0 ols.length, .osl 5 3 0 a.2.2.length])), (4, some (.arr 1 (ols.map eOl))), (5, some (.arr 3 (a.2.2.map ePc)))], nx := 6 }
set_option maxHeartbeats 4000000 in
theorem run_78 (b : List UInt8) (c : Cu) (hc : okC b c) (hb : b.length < 1000000000000000) :
    v.run 78 [bs b, plA c] [] = some (.tup [aGl (glV b c).1, plA (glV b c).2], []) := by
  have h1 := run_98 hv b c hc.1 hb
  have k1 := (sgV_ok hc).1
  unfold glV
  simp only
  generalize sgV b c.1 c.2 = a at h1 k1 ⊢
  obtain ⟨adv, c1⟩ := a
  simp only at h1 k1 ⊢
  have h2 : v.run 79 [bs b, plA c1, i64 1] [] = _ := run_79 hv b c1 1 (by omega) k1.1 hb
  have k2 := (tkV_ok k1 1 (by omega)).1
  obtain ⟨n0, n1, _⟩ := tkV_b b c1.1 c1.2 1 k1.1 (by omega)
  generalize tkV b c1.1 c1.2 1 = q at h2 k2 n0 n1 ⊢
  obtain ⟨mz, c2⟩ := q
  obtain ⟨m, rfl⟩ := Int.eq_ofNat_of_zero_le n0
  simp only [Int.toNat_natCast] at h2 k2 n1 ⊢
  simp at n1
  have k3 := (olsV_ok m 0 k2).1
  have kl := (olsV_ok m 0 k2).2.2
  generalize hO : olsV b m 0 c2 = O at k3 kl ⊢
  have h4 : v.run 79 [bs b, plA O.2, i64 1] [] = _ := run_79 hv b O.2 1 (by omega) k3.1 hb
  have k4 := (tkV_ok k3 1 (by omega)).1
  obtain ⟨j0, j1, _⟩ := tkV_b b O.2.1 O.2.2 1 k3.1 (by omega)
  generalize tkV b O.2.1 O.2.2 1 = q at h4 k4 j0 j1 ⊢
  obtain ⟨kz, c4⟩ := q
  obtain ⟨kk, rfl⟩ := Int.eq_ofNat_of_zero_le j0
  simp only [Int.toNat_natCast] at h4 k4 j1 ⊢
  simp at j1
  generalize hP : pcsV b kk 0 c4 = P
  refine run_wp (by rw [hv]; exact rfl) ?_
  simp -dsimp -implicitDefEqProofs (maxSteps := 1000000) (disch := omega) [condP_pos, condP_neg, optP_pos, decide_eq_true, decide_eq_false, wrap_i64, Int.natCast_inj, h1, h2]
  refine wp_inv (S78a b adv m) (fun a => a.1 ≤ m ∧ okC b a.2.1 ∧ a.2.2.length ≤ a.1 ∧ (a.2.2 ++ (olsV b (m - a.1) a.1 a.2.1).1, (olsV b (m - a.1) a.1 a.2.1).2) = O) (fun a => m - a.1) (0, c2, []) ⟨by simp, k2, by simp, by simpa using hO⟩ (by simp -dsimp -implicitDefEqProofs (maxSteps := 1000000) (disch := omega) [condP_pos, condP_neg, optP_pos, decide_eq_true, decide_eq_false, wrap_i64, Int.natCast_inj, S78a]) ?_
  rintro ⟨i, d, acc⟩ ⟨e1, e2, e3, e4⟩
  simp only at e1 e2 e3 e4
  -- what follows the outlines
  by_cases hgo : i < m ∧ d.2 = false
  · obtain ⟨hi, hd⟩ := hgo
    have g1 : v.run 79 [bs b, plA d, i64 1] [] = _ := run_79 hv b d 1 (by omega) e2.1 hb
    have g2 := (tkV_ok e2 1 (by omega)).1
    obtain ⟨z0, z1, _⟩ := tkV_b b d.1 d.2 1 e2.1 (by omega)
    rw [show m - i = (m - (i + 1)) + 1 by omega, olsV] at e4
    simp only at e4
    generalize tkV b d.1 d.2 1 = q at g1 g2 z0 z1 e4
    obtain ⟨pz, p1, p2⟩ := q
    obtain ⟨p, rfl⟩ := Int.eq_ofNat_of_zero_le z0
    simp only [Int.toNat_natCast] at g1 g2 z1 e4
    simp at z1
    have g3 := run_99 hv b (p1, p2) p (by omega) g2 hb
    simp only [plA, hd, Bool.not_false] at g1 g3
    cases p2 with
    | true =>
      rw [ptsV_br g2 rfl] at g3
      simp only [Bool.not_true] at g1 g3
      simp only [if_true, List.append_nil] at e4
      simp -dsimp -implicitDefEqProofs (maxSteps := 1000000) (disch := omega) [condP_pos, condP_neg, optP_pos, decide_eq_true, decide_eq_false, wrap_i64, Int.natCast_inj, S78a, hi, hd, g1, g3]
      refine again (i + 1, (p1, true), acc) ⟨by simp only; omega, g2, by simp only; omega, by simp only [olsV_br g2 rfl, List.append_nil]; exact e4⟩ (by simp; omega) ?_
      simp -dsimp -implicitDefEqProofs (maxSteps := 1000000) (disch := omega) [condP_pos, condP_neg, optP_pos, decide_eq_true, decide_eq_false, wrap_i64, Int.natCast_inj, S78a]
    | false =>
      simp only [Bool.not_false] at g1 g3
      simp only [Bool.false_eq_true, if_false] at e4
      have g4 := (ptsV_ok p g2).1
      generalize ptsV b p (p1, false) = Q at g3 g4 e4
      obtain ⟨o, x1, x2⟩ := Q
      simp only at g3 g4 e4
      by_cases h64 : i < 64
      · rw [if_pos h64] at e4
        simp -dsimp -implicitDefEqProofs (maxSteps := 1000000) (disch := omega) [condP_pos, condP_neg, optP_pos, decide_eq_true, decide_eq_false, wrap_i64, Int.natCast_inj, S78a, hi, hd, g1, g3, h64]
        refine again (i + 1, (x1, x2), acc ++ [o]) ⟨by simp only; omega, g4, by simp; omega, by simpa using e4⟩ (by simp; omega) ?_
        simp -dsimp -implicitDefEqProofs (maxSteps := 1000000) (disch := omega) [condP_pos, condP_neg, optP_pos, decide_eq_true, decide_eq_false, wrap_i64, Int.natCast_inj, S78a, eOl]
      · rw [if_neg h64] at e4
        simp -dsimp -implicitDefEqProofs (maxSteps := 1000000) (disch := omega) [condP_pos, condP_neg, optP_pos, decide_eq_true, decide_eq_false, wrap_i64, Int.natCast_inj, S78a, hi, hd, g1, g3, h64]
        refine again (i + 1, (x1, x2), acc) ⟨by simp only; omega, g4, by simp only; omega, by simpa using e4⟩ (by simp; omega) ?_
        simp -dsimp -implicitDefEqProofs (maxSteps := 1000000) (disch := omega) [condP_pos, condP_neg, optP_pos, decide_eq_true, decide_eq_false, wrap_i64, Int.natCast_inj, S78a]
  · have e5 : (acc, d) = O := by
      cases hd : d.2 with
      | true => rw [olsV_br e2 hd] at e4; simpa using e4
      | false =>
        have : m - i = 0 := by
          have : ¬ i < m := fun h => hgo ⟨h, hd⟩
          omega
        rw [this] at e4
        simpa [olsV] using e4
    have eO1 : O.1 = acc := by rw [← e5]
    have eO2 : O.2 = d := by rw [← e5]
    rw [eO2] at h4
    simp only [plA] at h4
    by_cases hi : i < m
    · have hd : d.2 = true := by
        cases hd : d.2 with
        | true => rfl
        | false => exact absurd ⟨hi, hd⟩ hgo
      rw [hd] at h4
      simp only [Bool.not_true] at h4
      simp -dsimp -implicitDefEqProofs (maxSteps := 1000000) (disch := omega) [condP_pos, condP_neg, optP_pos, decide_eq_true, decide_eq_false, wrap_i64, Int.natCast_inj, S78a, hi, hd, h4]
      refine wp_inv (S78b b adv acc kk) (fun a => a.1 ≤ kk ∧ okC b a.2.1 ∧ a.2.2.length ≤ a.1 ∧ (a.2.2 ++ (pcsV b (kk - a.1) a.1 a.2.1).1, (pcsV b (kk - a.1) a.1 a.2.1).2) = P) (fun a => kk - a.1) (0, c4, []) ⟨by simp, k4, by simp, by simpa using hP⟩ (by simp -dsimp -implicitDefEqProofs (maxSteps := 1000000) (disch := omega) [condP_pos, condP_neg, optP_pos, decide_eq_true, decide_eq_false, wrap_i64, Int.natCast_inj, S78b]) ?_
      rintro ⟨i, d, acc2⟩ ⟨e1, e2, e3, e4⟩
      simp only at e1 e2 e3 e4
      clear hgo hi e5 h4
      by_cases hgo : i < kk ∧ d.2 = false
      · obtain ⟨hi, hd⟩ := hgo
        have g1 : v.run 79 [bs b, plA d, i64 2] [] = _ := run_79 hv b d 2 (by omega) e2.1 hb
        have g2 := (tkV_ok e2 2 (by omega)).1
        rw [show kk - i = (kk - (i + 1)) + 1 by omega, pcsV] at e4
        simp only at e4
        generalize tkV b d.1 d.2 2 = q at g1 g2 e4
        obtain ⟨who, d1⟩ := q
        simp only at g1 g2 e4
        have g3 := run_98 hv b d1 g2.1 hb
        have g4 := (sgV_ok g2).1
        have hpt : ptV b d1.1 d1.2 = (((sgV b d1.1 d1.2).1, (sgV b (sgV b d1.1 d1.2).2.1 (sgV b d1.1 d1.2).2.2).1), (sgV b (sgV b d1.1 d1.2).2.1 (sgV b d1.1 d1.2).2.2).2) := rfl
        generalize sgV b d1.1 d1.2 = q at g3 g4 hpt
        obtain ⟨x, d2⟩ := q
        simp only at g3 g4 hpt
        have g5 := run_98 hv b d2 g4.1 hb
        have g6 := (sgV_ok g4).1
        generalize sgV b d2.1 d2.2 = q at g5 g6 hpt
        obtain ⟨y, z1, z2⟩ := q
        simp only at g5 g6 hpt
        rw [hpt] at e4
        simp only at e4
        simp only [plA, hd, Bool.not_false] at g1 g3 g5
        cases z2 with
        | true =>
          simp only [Bool.not_true] at g5
          simp only [if_true, List.append_nil] at e4
          simp -dsimp -implicitDefEqProofs (maxSteps := 1000000) (disch := omega) [condP_pos, condP_neg, optP_pos, decide_eq_true, decide_eq_false, wrap_i64, Int.natCast_inj, S78b, hi, hd, g1, g3, g5]
          refine again (i + 1, (z1, true), acc2) ⟨by simp only; omega, g6, by simp only; omega, by simp only [pcsV_br g6 rfl, List.append_nil]; exact e4⟩ (by simp; omega) ?_
          simp -dsimp -implicitDefEqProofs (maxSteps := 1000000) (disch := omega) [condP_pos, condP_neg, optP_pos, decide_eq_true, decide_eq_false, wrap_i64, Int.natCast_inj, S78b]
        | false =>
          simp only [Bool.not_false] at g5
          simp only [Bool.false_eq_true, if_false] at e4
          by_cases h32 : i < 32
          · rw [if_pos h32] at e4
            simp -dsimp -implicitDefEqProofs (maxSteps := 1000000) (disch := omega) [condP_pos, condP_neg, optP_pos, decide_eq_true, decide_eq_false, wrap_i64, Int.natCast_inj, S78b, hi, hd, g1, g3, g5, h32]
            refine again (i + 1, (z1, false), acc2 ++ [(who, x, y)]) ⟨by simp only; omega, g6, by simp; omega, by simpa using e4⟩ (by simp; omega) ?_
            simp -dsimp -implicitDefEqProofs (maxSteps := 1000000) (disch := omega) [condP_pos, condP_neg, optP_pos, decide_eq_true, decide_eq_false, wrap_i64, Int.natCast_inj, S78b, ePc]
          · rw [if_neg h32] at e4
            simp -dsimp -implicitDefEqProofs (maxSteps := 1000000) (disch := omega) [condP_pos, condP_neg, optP_pos, decide_eq_true, decide_eq_false, wrap_i64, Int.natCast_inj, S78b, hi, hd, g1, g3, g5, h32]
            refine again (i + 1, (z1, false), acc2) ⟨by simp only; omega, g6, by simp only; omega, by simpa using e4⟩ (by simp; omega) ?_
            simp -dsimp -implicitDefEqProofs (maxSteps := 1000000) (disch := omega) [condP_pos, condP_neg, optP_pos, decide_eq_true, decide_eq_false, wrap_i64, Int.natCast_inj, S78b]
      · have e5 : (acc2, d) = P := by
          cases hd : d.2 with
          | true => rw [pcsV_br e2 hd] at e4; simpa using e4
          | false =>
            have : kk - i = 0 := by
              have : ¬ i < kk := fun h => hgo ⟨h, hd⟩
              omega
            rw [this] at e4
            simpa [pcsV] using e4
        rw [eO1, ← e5]
        by_cases hi : i < kk
        · have hd : d.2 = true := by
            cases hd : d.2 with
            | true => rfl
            | false => exact absurd ⟨hi, hd⟩ hgo
          simp -dsimp -implicitDefEqProofs (maxSteps := 1000000) (disch := omega) [condP_pos, condP_neg, optP_pos, decide_eq_true, decide_eq_false, wrap_i64, Int.natCast_inj, S78b, hi, hd]
        · simp -dsimp -implicitDefEqProofs (maxSteps := 1000000) (disch := omega) [condP_pos, condP_neg, optP_pos, decide_eq_true, decide_eq_false, wrap_i64, Int.natCast_inj, S78b, hi]
    · simp -dsimp -implicitDefEqProofs (maxSteps := 1000000) (disch := omega) [condP_pos, condP_neg, optP_pos, decide_eq_true, decide_eq_false, wrap_i64, Int.natCast_inj, S78a, hi, h4]
      refine wp_inv (S78b b adv acc kk) (fun a => a.1 ≤ kk ∧ okC b a.2.1 ∧ a.2.2.length ≤ a.1 ∧ (a.2.2 ++ (pcsV b (kk - a.1) a.1 a.2.1).1, (pcsV b (kk - a.1) a.1 a.2.1).2) = P) (fun a => kk - a.1) (0, c4, []) ⟨by simp, k4, by simp, by simpa using hP⟩ (by simp -dsimp -implicitDefEqProofs (maxSteps := 1000000) (disch := omega) [condP_pos, condP_neg, optP_pos, decide_eq_true, decide_eq_false, wrap_i64, Int.natCast_inj, S78b]) ?_
      rintro ⟨i, d, acc2⟩ ⟨e1, e2, e3, e4⟩
      simp only at e1 e2 e3 e4
      clear hgo hi e5 h4
      by_cases hgo : i < kk ∧ d.2 = false
      · obtain ⟨hi, hd⟩ := hgo
        have g1 : v.run 79 [bs b, plA d, i64 2] [] = _ := run_79 hv b d 2 (by omega) e2.1 hb
        have g2 := (tkV_ok e2 2 (by omega)).1
        rw [show kk - i = (kk - (i + 1)) + 1 by omega, pcsV] at e4
        simp only at e4
        generalize tkV b d.1 d.2 2 = q at g1 g2 e4
        obtain ⟨who, d1⟩ := q
        simp only at g1 g2 e4
        have g3 := run_98 hv b d1 g2.1 hb
        have g4 := (sgV_ok g2).1
        have hpt : ptV b d1.1 d1.2 = (((sgV b d1.1 d1.2).1, (sgV b (sgV b d1.1 d1.2).2.1 (sgV b d1.1 d1.2).2.2).1), (sgV b (sgV b d1.1 d1.2).2.1 (sgV b d1.1 d1.2).2.2).2) := rfl
        generalize sgV b d1.1 d1.2 = q at g3 g4 hpt
        obtain ⟨x, d2⟩ := q
        simp only at g3 g4 hpt
        have g5 := run_98 hv b d2 g4.1 hb
        have g6 := (sgV_ok g4).1
        generalize sgV b d2.1 d2.2 = q at g5 g6 hpt
        obtain ⟨y, z1, z2⟩ := q
        simp only at g5 g6 hpt
        rw [hpt] at e4
        simp only at e4
        simp only [plA, hd, Bool.not_false] at g1 g3 g5
        cases z2 with
        | true =>
          simp only [Bool.not_true] at g5
          simp only [if_true, List.append_nil] at e4
          simp -dsimp -implicitDefEqProofs (maxSteps := 1000000) (disch := omega) [condP_pos, condP_neg, optP_pos, decide_eq_true, decide_eq_false, wrap_i64, Int.natCast_inj, S78b, hi, hd, g1, g3, g5]
          refine again (i + 1, (z1, true), acc2) ⟨by simp only; omega, g6, by simp only; omega, by simp only [pcsV_br g6 rfl, List.append_nil]; exact e4⟩ (by simp; omega) ?_
          simp -dsimp -implicitDefEqProofs (maxSteps := 1000000) (disch := omega) [condP_pos, condP_neg, optP_pos, decide_eq_true, decide_eq_false, wrap_i64, Int.natCast_inj, S78b]
        | false =>
          simp only [Bool.not_false] at g5
          simp only [Bool.false_eq_true, if_false] at e4
          by_cases h32 : i < 32
          · rw [if_pos h32] at e4
            simp -dsimp -implicitDefEqProofs (maxSteps := 1000000) (disch := omega) [condP_pos, condP_neg, optP_pos, decide_eq_true, decide_eq_false, wrap_i64, Int.natCast_inj, S78b, hi, hd, g1, g3, g5, h32]
            refine again (i + 1, (z1, false), acc2 ++ [(who, x, y)]) ⟨by simp only; omega, g6, by simp; omega, by simpa using e4⟩ (by simp; omega) ?_
            simp -dsimp -implicitDefEqProofs (maxSteps := 1000000) (disch := omega) [condP_pos, condP_neg, optP_pos, decide_eq_true, decide_eq_false, wrap_i64, Int.natCast_inj, S78b, ePc]
          · rw [if_neg h32] at e4
            simp -dsimp -implicitDefEqProofs (maxSteps := 1000000) (disch := omega) [condP_pos, condP_neg, optP_pos, decide_eq_true, decide_eq_false, wrap_i64, Int.natCast_inj, S78b, hi, hd, g1, g3, g5, h32]
            refine again (i + 1, (z1, false), acc2) ⟨by simp only; omega, g6, by simp only; omega, by simpa using e4⟩ (by simp; omega) ?_
            simp -dsimp -implicitDefEqProofs (maxSteps := 1000000) (disch := omega) [condP_pos, condP_neg, optP_pos, decide_eq_true, decide_eq_false, wrap_i64, Int.natCast_inj, S78b]
      · have e5 : (acc2, d) = P := by
          cases hd : d.2 with
          | true => rw [pcsV_br e2 hd] at e4; simpa using e4
          | false =>
            have : kk - i = 0 := by
              have : ¬ i < kk := fun h => hgo ⟨h, hd⟩
              omega
            rw [this] at e4
            simpa [pcsV] using e4
        rw [eO1, ← e5]
        by_cases hi : i < kk
        · have hd : d.2 = true := by
            cases hd : d.2 with
            | true => rfl
            | false => exact absurd ⟨hi, hd⟩ hgo
          simp -dsimp -implicitDefEqProofs (maxSteps := 1000000) (disch := omega) [condP_pos, condP_neg, optP_pos, decide_eq_true, decide_eq_false, wrap_i64, Int.natCast_inj, S78b, hi, hd]
        · simp -dsimp -implicitDefEqProofs (maxSteps := 1000000) (disch := omega) [condP_pos, condP_neg, optP_pos, decide_eq_true, decide_eq_false, wrap_i64, Int.natCast_inj, S78b, hi]
end Go.Vai
