/-
  What functions of layer 5 and of its reference compute: equations of the abstract run.
-/
import Derived.Test.YtfaomcaimppmeaaDoorHb
import Derived.Test.YtfaomcaimppmeaaDoorGf
import Derived.Test.YtfaomcaimppmeaaDoorGg
set_option linter.unusedVariables false
set_option linter.unusedSimpArgs false
set_option linter.unnecessarySimpa false
set_option linter.unusedSectionVars false
namespace Go.Vai
/-! Small fonts; the law of outlines. -/
theorem ptsG_sz : ∀ l : List Ol, ptsG l = szOls l
  | [] => rfl
  | o :: r => by simp only [ptsG, szOls, ptsG_sz r]
theorem szGls_mem {g : Gl} : ∀ {l : List Gl}, g ∈ l → g.2.2.length + g.2.1.length + szOls g.2.1 ≤ szGls l
  | [], h => by cases h
  | x :: l, h => by
    simp only [szGls]
    rcases List.mem_cons.1 h with rfl | h
    · omega
    · have := szGls_mem h; omega
theorem small_font {f : Font} {m : Nat} (h : fontSize f ≤ m) (hm : m < 100000) : smFont f ∧ okFont f ∧ (f.1.length ≤ m ∧ f.2.length ≤ m ∧ ∀ g ∈ f.1, g.2.2.length ≤ m ∧ g.2.1.length ≤ m ∧ szOls g.2.1 ≤ m ∧ ∀ o ∈ g.2.1, o.length ≤ m) := by
  unfold fontSize at h
  have key : ∀ g ∈ f.1, g.2.2.length ≤ m ∧ g.2.1.length ≤ m ∧ szOls g.2.1 ≤ m ∧ ∀ o ∈ g.2.1, o.length ≤ m := by
    intro g hg
    have h1 := szGls_mem hg
    refine ⟨by omega, by omega, by omega, fun o ho => ?_⟩
    have h2 := ptsG_len _ o ho
    rw [ptsG_sz] at h2
    omega
  refine ⟨⟨by omega, by omega, fun g hg => ?_⟩, ⟨by omega, by omega, fun g hg => ?_⟩, by omega, by omega, key⟩
  · obtain ⟨h1, h2, h3, h4⟩ := key g hg
    exact ⟨by omega, by rw [ptsG_sz]; omega, by omega⟩
  · obtain ⟨h1, h2, h3, h4⟩ := key g hg
    exact ⟨⟨by omega, fun o ho => by have := h4 o ho; omega⟩, by omega⟩
section
variable {v : Env} (hv : v.T = Tt)
include hv
set_option maxHeartbeats 1000000 in
theorem run_fewR (f : Font) (most : Int) (hm : most < 1000000000) (hf : roomFont f) : v.run 18 [aFont f, i64 most] [] = some (bo (decide ((fontSize f : Int) ≤ most)), []) := by
  refine run_wp (by rw [hv]; exact rfl) ?_
  obtain ⟨fg, fr⟩ := f
  obtain ⟨h0, h1, h2⟩ := hf
  simp only at h0 h1 h2
  generalize hF : fontSize (fg, fr) = F
  simp -dsimp -implicitDefEqProofs (maxSteps := 1000000) (disch := omega) [condP_pos, condP_neg, optP_pos, decide_eq_true, decide_eq_false, wrap_i64, Int.natCast_inj]
  refine wp_inv (S18 (fg, fr) most) (fun a => a.1 ++ a.2.1 = fg ∧ a.2.2 + szGls a.2.1 ≤ F ∧ ((a.2.2 : Int) ≤ most → a.2.2 + szGls a.2.1 = F) ∧ a.2.2 < 600000000000000) (fun a => a.2.1.length) ([], fg, fg.length + fr.length) (by refine ⟨by simp, by simp [← hF, fontSize], by simp [← hF, fontSize], ?_⟩; simp only; omega) (by simp -dsimp -implicitDefEqProofs (maxSteps := 1000000) (disch := omega) [condP_pos, condP_neg, optP_pos, decide_eq_true, decide_eq_false, wrap_i64, Int.natCast_inj, S18]) ?_
  rintro ⟨pre, rest, n⟩ ⟨e1, e2, e2', e3⟩
  simp only at e1 e2 e2' e3
  cases rest with
  | nil =>
    simp only [szGls] at e2 e2'
    by_cases hn : (n : Int) ≤ most
    · have := e2' hn
      simp -dsimp -implicitDefEqProofs (maxSteps := 1000000) (disch := omega) [condP_pos, condP_neg, optP_pos, decide_eq_true, decide_eq_false, wrap_i64, Int.natCast_inj, S18, hn]
    · simp -dsimp -implicitDefEqProofs (maxSteps := 1000000) (disch := omega) [condP_pos, condP_neg, optP_pos, decide_eq_true, decide_eq_false, wrap_i64, Int.natCast_inj, S18, hn]
  | cons p rest =>
    have hl : pre.length + (rest.length + 1) ≤ 140737488351232 := by rw [← e1] at h0; simpa using h0
    obtain ⟨adv, ols, pcs⟩ := p
    have hp := h2 (adv, ols, pcs) (by rw [← e1]; simp)
    obtain ⟨p1, p2, p3⟩ := hp
    clear h2
    simp only at p1 p2 p3
    simp only [szGls] at e2 e2'
    by_cases hn : (n : Int) ≤ most
    · have e2 := e2' hn
      simp -dsimp -implicitDefEqProofs (maxSteps := 1000000) (disch := omega) [condP_pos, condP_neg, optP_pos, decide_eq_true, decide_eq_false, wrap_i64, Int.natCast_inj, S18, hn]
      refine wp_inv (T18 (fg, fr) most pre (adv, ols, pcs) rest) (fun a => a.1 ++ a.2.1 = ols ∧ a.2.2 + szOls a.2.1 + szGls rest = F ∧ a.2.2 < 600000000000000) (fun a => a.2.1.length) ([], ols, n + (pcs.length + ols.length)) (by refine ⟨by simp, ?_, ?_⟩ <;> simp only <;> omega) (by simp -dsimp -implicitDefEqProofs (maxSteps := 1000000) (disch := omega) [condP_pos, condP_neg, optP_pos, decide_eq_true, decide_eq_false, wrap_i64, Int.natCast_inj, T18]) ?_
      rintro ⟨q, r, k⟩ ⟨d1, d2, d3⟩
      simp only at d1 d2 d3
      subst d1
      cases r with
      | nil =>
        simp only [szOls] at d2
        simp -dsimp -implicitDefEqProofs (maxSteps := 1000000) (disch := omega) [condP_pos, condP_neg, optP_pos, decide_eq_true, decide_eq_false, wrap_i64, Int.natCast_inj, T18]
        refine again (pre ++ [(adv, q ++ [], pcs)], rest, k) ?_ ?_ ?_
        · refine ⟨by simp [← e1], ?_, ?_, ?_⟩ <;> simp only <;> omega
        · simp
        · simp -dsimp -implicitDefEqProofs (maxSteps := 1000000) (disch := omega) [condP_pos, condP_neg, optP_pos, decide_eq_true, decide_eq_false, wrap_i64, Int.natCast_inj, S18]
      | cons o r =>
        have ho := p2 o (by simp)
        have hq : q.length + (r.length + 1) ≤ 140737488351232 := by simpa using p1
        simp only [szOls] at d2
        clear p2 p1
        by_cases hk : (k : Int) ≤ most
        · simp -dsimp -implicitDefEqProofs (maxSteps := 1000000) (disch := omega) [condP_pos, condP_neg, optP_pos, decide_eq_true, decide_eq_false, wrap_i64, Int.natCast_inj, T18, hk]
          refine again (q ++ [o], r, k + o.length) ?_ ?_ ?_
          · refine ⟨by simp, ?_, ?_⟩ <;> simp only <;> omega
          · simp
          · simp -dsimp -implicitDefEqProofs (maxSteps := 1000000) (disch := omega) [condP_pos, condP_neg, optP_pos, decide_eq_true, decide_eq_false, wrap_i64, Int.natCast_inj, T18]
        · simp -dsimp -implicitDefEqProofs (maxSteps := 1000000) (disch := omega) [condP_pos, condP_neg, optP_pos, decide_eq_true, decide_eq_false, wrap_i64, Int.natCast_inj, T18, hk]
          refine again (pre ++ [(adv, q ++ o :: r, pcs)], rest, k) ?_ ?_ ?_
          · refine ⟨by simp [← e1], ?_, ?_, ?_⟩ <;> simp only <;> omega
          · simp
          · simp -dsimp -implicitDefEqProofs (maxSteps := 1000000) (disch := omega) [condP_pos, condP_neg, optP_pos, decide_eq_true, decide_eq_false, wrap_i64, Int.natCast_inj, S18]
    · simp -dsimp -implicitDefEqProofs (maxSteps := 1000000) (disch := omega) [condP_pos, condP_neg, optP_pos, decide_eq_true, decide_eq_false, wrap_i64, Int.natCast_inj, S18, hn]

end
theorem piecesG_len {dr : Int → Int → Int → Dr → Bool × Dr} {many : Nat} {dx dy : Int} (hd : ∀ k dx dy s, (∀ o ∈ s.1, o.length < 1000000) → ∀ o ∈ (dr k dx dy s).2.1, o.length < 1000000) :
    ∀ (l : List Pc) (s : Dr), (∀ o ∈ s.1, o.length < 1000000) → ∀ o ∈ (piecesG dr many dx dy l s).2.1, o.length < 1000000
  | [], s, h => h
  | p :: r, s, h => by
    simp only [piecesG]
    split
    · exact piecesG_len hd r s h
    · split
      · exact piecesG_len hd r _ (hd _ _ _ _ h)
      · exact hd _ _ _ _ h
theorem drawG_len {f : Font} (hf : smFont f) : ∀ (n : Nat) (k dx dy : Int) (s : Dr), (∀ o ∈ s.1, o.length < 1000000) → ∀ o ∈ (drawG f n k dx dy s).2.1, o.length < 1000000
  | 0, k, dx, dy, s, h => h
  | n + 1, k, dx, dy, s, h => by
    cases hg : f.1[k.toNat]? with
    | none => simp only [drawG, hg]; exact h
    | some g =>
      rw [drawG_succ hg]
      split
      · exact h
      · have hgl := hf.2.2 g (List.mem_of_getElem? hg)
        have key := piecesG_len (many := f.1.length) (dx := dx) (dy := dy) (fun k dx dy s => drawG_len hf n k dx dy s) g.2.2 (s.1 ++ g.2.1.map (List.map (movedP dx dy)), s.2.1 - (1 + (ptsG g.2.1 : Int)), s.2.2 ++ [k]) (by
          intro o ho
          rcases List.mem_append.1 ho with ho | ho
          · exact h o ho
          · obtain ⟨o', ho', rfl⟩ := List.mem_map.1 ho
            have := ptsG_len _ o' ho'
            have := hgl.2.1
            simp; omega)
        generalize piecesG (drawG f n) f.1.length dx dy g.2.2 _ = r at key ⊢
        obtain ⟨ok, t⟩ := r
        cases ok <;> exact key
theorem outlineG_len {f : Font} (hf : smFont f) (k left : Int) (hl : left < 100000) : (outlineG f k left).1.length < 1000000000000 * 2 ∧ ∀ o ∈ (outlineG f k left).1, o.length < 1000000000000 := by
  unfold outlineG
  split
  · simp
  · split
    · rename_i h1 h2
      have h3 := drawG_len hf 8 k 0 0 ([], max left 0, []) (by simp)
      have h4 := drawG_ok hf 8 k 0 0 ([], max left 0, [])
      generalize drawG f 8 k 0 0 ([], max left 0, []) = r at *
      obtain ⟨ok, t⟩ := r
      simp only at h2
      subst h2
      obtain ⟨a1, a2, a3, a4⟩ := h4 t (by simp only; omega) rfl
      simp only [potG, List.length_nil] at a3 a4
      refine ⟨by simp only; omega, fun o ho => by have := h3 o ho; omega⟩
    · simp
theorem outlineG_cnt {f : Font} (hf : smFont f) (k left : Int) (hl : left ≤ 20000) : (outlineG f k left).1.length < 1000000000000 := by
  unfold outlineG
  split
  · simp
  · split
    · rename_i h1 h2
      have h4 := drawG_ok hf 8 k 0 0 ([], max left 0, [])
      generalize drawG f 8 k 0 0 ([], max left 0, []) = r at *
      obtain ⟨ok, t⟩ := r
      simp only at h2
      subst h2
      obtain ⟨a1, a2, a3, a4⟩ := h4 t (by simp only; omega) rfl
      simp only [potG, List.length_nil] at a3 a4
      simp only; omega
    · simp
theorem law_outline (f : Font) (r n left : Int) (hf : roomFont f) : V.run 5 [aFont f, i64 r, i64 n, i64 left] [] = some (bo true, []) := by
  have hw := run_fewR V_T f 300 (by omega) hf
  refine run_wp (by rw [V_T]; exact rfl) ?_
  by_cases h1 : fontSize f ≤ 300
  · rw [decide_eq_true (by omega)] at hw
    by_cases h2 : left ≤ 20000
    · obtain ⟨s1, s2, s3, s4, s5⟩ := small_font h1 (by omega)
      have c1 := run_copied V_T f (by omega) (by omega) (fun g hg => by obtain ⟨q1, q2, q3, q4⟩ := s5 g hg; exact ⟨by omega, by omega, fun o ho => by have := q4 o ho; omega⟩)
      have c2 := run_outline V_T f s1 n left (by omega)
      have c3 := run_routline V_T f s1 n left (by omega)
      have c4 := run_lookup V_T f r (by omega) (by omega)
      have c5 := run_rlookup V_T f r (by omega) (by omega)
      have c6 := run_advance V_T f n
      have c7 := run_radvance V_T f n
      have hlen := outlineG_len s1 n left (by omega)
      have hl2 : (outlineG f n left).1.length < 1000000000000 := by
        have := outlineG_cnt s1 n left h2; exact this
      generalize outlineG f n left = R at c2 c3 hlen hl2
      obtain ⟨o, l, e⟩ := R
      have c8 := run_sameOls V_T o o hl2 hlen.2
      have c9 := run_sameFont V_T f f s2
      rw [decide_eq_true rfl] at c8 c9
      clear hlen hl2 s1 s2 s5 hf
      simp -dsimp -implicitDefEqProofs (maxSteps := 1000000) (disch := omega) [condP_pos, condP_neg, optP_pos, decide_eq_true, decide_eq_false, wrap_i64, Int.natCast_inj, run_awake, hw, h2, c1, c2, c3, c4, c5, c6, c7, c8, c9]
    · simp -dsimp -implicitDefEqProofs (maxSteps := 1000000) (disch := omega) [condP_pos, condP_neg, optP_pos, decide_eq_true, decide_eq_false, wrap_i64, Int.natCast_inj, run_awake, hw, h2]
  · rw [decide_eq_false (by omega)] at hw
    simp -dsimp -implicitDefEqProofs (maxSteps := 1000000) (disch := omega) [condP_pos, condP_neg, optP_pos, decide_eq_true, decide_eq_false, wrap_i64, Int.natCast_inj, run_awake, hw]
end Go.Vai

set_option linter.unusedVariables false
set_option linter.unusedSimpArgs false
set_option linter.unnecessarySimpa false
set_option linter.unusedSectionVars false
namespace Go.Vai
/-! Lines and flat fonts. -/
theorem outlineG_left {f : Font} (hf : smFont f) (k left : Int) (hl : left < 100000) : 0 ≤ (outlineG f k left).2.1 ∧ (outlineG f k left).2.1 ≤ max left 0 := by
  unfold outlineG
  split
  · simp only; omega
  · split
    · rename_i h1 h2
      have h4 := drawG_ok hf 8 k 0 0 ([], max left 0, [])
      generalize drawG f 8 k 0 0 ([], max left 0, []) = r at *
      obtain ⟨ok, t⟩ := r
      simp only at h2
      subst h2
      obtain ⟨a1, a2, a3, a4⟩ := h4 t (by simp only; omega) rfl
      exact ⟨a2, a3⟩
    · simp only; omega
def flatL (f : Font) : List Gl → Nat → Int → List Gl → List Gl × Int × Int
  | [], _, left, acc => (acc, left, 0)
  | g :: r, k, left, acc => if (outlineG f k left).2.2 = 0 then flatL f r (k + 1) (outlineG f k left).2.1 (acc ++ [(cut g.1, (outlineG f k left).1, [])]) else ([], 0, (outlineG f k left).2.2)
def flatG (f : Font) (left : Int) : Font × Int × Int :=
  if (flatL f f.1 0 (max left 0) []).2.2 = 0 then (((flatL f f.1 0 (max left 0) []).1, f.2), (flatL f f.1 0 (max left 0) []).2.1, 0) else (([], []), 0, (flatL f f.1 0 (max left 0) []).2.2)
theorem flatL_err (f : Font) : ∀ (l : List Gl) (k : Nat) (left : Int) (acc : List Gl), (flatL f l k left acc).2.2 ≠ 0 → flatL f l k left acc = ([], 0, (flatL f l k left acc).2.2)
  | [], k, left, acc, h => absurd rfl h
  | g :: r, k, left, acc, h => by
    simp only [flatL] at h ⊢
    split at h
    · rename_i h1
      rw [if_pos h1]
      exact flatL_err f r _ _ _ h
    · rename_i h1
      rw [if_neg h1]
abbrev aFlat (x : Font × Int × Int) : AV := .tup [aFont x.1, i64 x.2.1, i64 x.2.2]
section
variable {v : Env} (hv : v.T = Tt)
include hv
def S36 (f : Font) (x : List Int × List Int × List Pc × Int) : St :=
  { sl := [(2, .bp 0 0), (6, .osl 1 3 0 x.2.2.1.length), (7, i64 x.2.2.2), (8, rw_ ((x.1 ++ x.2.1).map eI)), (9, i64 x.1.length)],
    hp := [(0, some (.box [rw_ (f.1.map eGl), rw_ (f.2.map ePt)])), (1, some (.arr 3 (x.2.2.1.map ePc)))], nx := 2 }
set_option maxHeartbeats 1000000 in
theorem run_rline (f : Font) (l : List UInt8) (hl : l.length < 100000000) (h1 : f.1.length < 1000000000000) (h2 : f.2.length < 1000000000000) : v.run 36 [aFont f, bs l] [] = some (.tup [rw_ ((lineG f l).1.map ePc), i64 (lineG f l).2], []) := by
  have hLG : ¬ f.1.length = 0 → lineG f l = (lineF f 0 (runesG l), lineE f 0 (runesG l)) := fun h => by simp [lineG, h]
  have hr := run_rrunes hv l hl
  have hrl := runesG_len l
  by_cases h0 : f.1.length = 0
  · have hL0 : lineG f l = ([], 0) := by simp [lineG, h0]
    rw [hL0]
    refine run_wp (by rw [hv]; exact rfl) ?_
    simp -dsimp -implicitDefEqProofs (maxSteps := 1000000) (disch := omega) [condP_pos, condP_neg, optP_pos, decide_eq_true, decide_eq_false, wrap_i64, Int.natCast_inj, h0]
  · rw [hLG h0]
    refine run_wp (by rw [hv]; exact rfl) ?_
    have h00 : ¬ f.1 = [] := fun e => h0 (by rw [e]; rfl)
    simp -dsimp -implicitDefEqProofs (maxSteps := 1000000) (disch := omega) [condP_pos, condP_neg, optP_pos, decide_eq_true, decide_eq_false, wrap_i64, Int.natCast_inj, h0, hr]
    refine wp_inv (S36 f) (fun x => x.1 ++ x.2.1 = runesG l ∧ x.2.2.1.length = x.1.length ∧ (-1048576 ≤ x.2.2.2 ∧ x.2.2.2 ≤ 1048576) ∧ x.2.2.1 ++ lineF f x.2.2.2 x.2.1 = lineF f 0 (runesG l) ∧ lineE f x.2.2.2 x.2.1 = lineE f 0 (runesG l)) (fun x => x.2.1.length) ([], runesG l, [], 0) (by simp) (by simp -dsimp -implicitDefEqProofs (maxSteps := 1000000) (disch := omega) [condP_pos, condP_neg, optP_pos, decide_eq_true, decide_eq_false, wrap_i64, Int.natCast_inj, S36]) ?_
    rintro ⟨pre, rest, acc, p⟩ ⟨e1, e2, e3, e4, e5⟩
    simp only at e1 e2 e3 e4 e5
    have hlen : pre.length + rest.length ≤ l.length := by rw [← e1] at hrl; simpa using hrl
    rw [← e4, ← e5]
    cases rest with
    | nil => simp -dsimp -implicitDefEqProofs (maxSteps := 1000000) (disch := omega) [condP_pos, condP_neg, optP_pos, decide_eq_true, decide_eq_false, wrap_i64, Int.natCast_inj, S36, lineF, lineE]
    | cons x rest =>
      simp at hlen
      have hk := run_rlookup hv f x h1 h2
      have ha := run_radvance hv f (lookupG f.1.length x f.2)
      have hb := adv_b f (lookupG f.1.length x f.2)
      simp -dsimp -implicitDefEqProofs (maxSteps := 1000000) (disch := omega) [condP_pos, condP_neg, optP_pos, decide_eq_true, decide_eq_false, wrap_i64, Int.natCast_inj, S36, hk, ha, run_rcut hv]
      refine again (pre ++ [x], rest, acc ++ [(lookupG f.1.length x f.2, p, 0)], cut (p + advance f (lookupG f.1.length x f.2))) ?_ ?_ ?_
      · refine ⟨by simpa using e1, by simp [e2], cut_b _, ?_, ?_⟩
        · simp [lineF]
        · simp [lineE]
      · simp
      · simp -dsimp -implicitDefEqProofs (maxSteps := 1000000) (disch := omega) [condP_pos, condP_neg, optP_pos, decide_eq_true, decide_eq_false, wrap_i64, Int.natCast_inj, S36, ePc, eI]
def S37 (f : Font) (x : List Gl × List Gl × Int × List Gl) : St :=
  { sl := [(1, i64 x.2.2.1), (2, .bp 0 0), (4, .bp 1 0), (7, .bp 2 0), (20, i64 (x.1 ++ x.2.1).length), (21, i64 x.1.length)],
    hp := [(0, some (.box [rw_ ((x.1 ++ x.2.1).map eGl), rw_ (f.2.map ePt)])), (1, some (.box [.emp, .emp])), (2, some (.box [.osl 3 3 0 x.2.2.2.length, rw_ (f.2.map ePt)])), (3, some (.arr 3 (x.2.2.2.map eGl)))], nx := 4 }
set_option maxHeartbeats 2000000 in
theorem run_flat (f : Font) (hf : smFont f) (hcl : v.run 66 [rw_ (f.2.map ePt)] [] = some (rw_ (f.2.map ePt), [])) (left : Int) (hl : left < 100000) : v.run 37 [aFont f, i64 left] [] = some (aFlat (flatG f left), []) := by
  have hm0 : 0 ≤ max left 0 := by omega
  have hm1 : max left 0 < 100000 := by omega
  unfold flatG
  generalize hM : max left 0 = M at *
  obtain ⟨fg, fr⟩ := f
  have hf1 := hf.1
  simp only at hf1 hcl
  refine run_wp (by rw [hv]; exact rfl) ?_
  generalize hFL : flatL (fg, fr) fg 0 M [] = FL
  simp -dsimp -implicitDefEqProofs (maxSteps := 1000000) (disch := omega) [condP_pos, condP_neg, optP_pos, decide_eq_true, decide_eq_false, wrap_i64, Int.natCast_inj, hM, hcl]
  refine wp_inv (S37 (fg, fr)) (fun x => x.1 ++ x.2.1 = fg ∧ (0 ≤ x.2.2.1 ∧ x.2.2.1 < 100000) ∧ x.2.2.2.length = x.1.length ∧ FL = flatL (fg, fr) x.2.1 x.1.length x.2.2.1 x.2.2.2) (fun x => x.2.1.length) ([], fg, M, []) ⟨rfl, ⟨hm0, hm1⟩, rfl, hFL.symm⟩ (by simp -dsimp -implicitDefEqProofs (maxSteps := 1000000) (disch := omega) [condP_pos, condP_neg, optP_pos, decide_eq_true, decide_eq_false, wrap_i64, Int.natCast_inj, S37]) ?_
  rintro ⟨pre, rest, lf, acc⟩ ⟨e1, e2, e3, e4⟩
  simp only at e1 e2 e3 e4
  cases rest with
  | nil =>
    rw [e4]
    simp -dsimp -implicitDefEqProofs (maxSteps := 1000000) (disch := omega) [condP_pos, condP_neg, optP_pos, decide_eq_true, decide_eq_false, wrap_i64, Int.natCast_inj, S37, flatL]
  | cons g rest =>
    have hlen : pre.length + (rest.length + 1) < 1000000 := by rw [← e1] at hf1; simpa using hf1
    have ho := run_outline hv (fg, fr) hf pre.length lf (by omega)
    have hb := outlineG_left hf pre.length lf (by omega)
    have ha := run_advance hv (fg, fr) pre.length
    have hav : advance (fg, fr) pre.length = cut g.1 := by
      unfold advance
      rw [if_pos (by omega)]
      have : fg[pre.length]? = some g := by rw [← e1]; simp
      simp [this]
    rw [hav] at ha
    rw [flatL] at e4
    subst e1
    simp only [aFont, List.map_append, List.map_cons] at ho ha
    generalize outlineG (pre ++ g :: rest, fr) pre.length lf = R at *
    obtain ⟨o, l2, er⟩ := R
    simp only at e4 hb
    by_cases he : er = 0
    · subst he
      rw [if_pos rfl] at e4
      simp -dsimp -implicitDefEqProofs (maxSteps := 1000000) (disch := omega) [condP_pos, condP_neg, optP_pos, decide_eq_true, decide_eq_false, wrap_i64, Int.natCast_inj, S37, ho, ha]
      refine again (pre ++ [g], rest, l2, acc ++ [(cut g.1, o, [])]) ⟨by simp, by simp only; omega, by simp [e3], by simpa using e4⟩ (by simp) ?_
      simp -dsimp -implicitDefEqProofs (maxSteps := 1000000) (disch := omega) [condP_pos, condP_neg, optP_pos, decide_eq_true, decide_eq_false, wrap_i64, Int.natCast_inj, S37, eGl]
    · rw [if_neg he] at e4
      subst e4
      simp -dsimp -implicitDefEqProofs (maxSteps := 1000000) (disch := omega) [condP_pos, condP_neg, optP_pos, decide_eq_true, decide_eq_false, wrap_i64, Int.natCast_inj, S37, ho, ha, he]
def S38 (f : Font) (x : List Gl × List Gl × Int × List Gl) : St :=
  { sl := [(1, i64 x.2.2.1), (2, .bp 0 0), (4, .bp 1 0), (7, .bp 2 0), (8, i64 x.1.length)],
    hp := [(0, some (.box [rw_ ((x.1 ++ x.2.1).map eGl), rw_ (f.2.map ePt)])), (1, some (.box [.emp, .emp])), (2, some (.box [.osl 3 3 0 x.2.2.2.length, .osl 4 2 0 f.2.length])), (3, some (.arr 3 (x.2.2.2.map eGl))), (4, some (.arr 2 (f.2.map ePt)))], nx := 5 }
set_option maxHeartbeats 2000000 in
theorem run_rflat (f : Font) (hf : smFont f) (left : Int) (hl : left < 100000) : v.run 38 [aFont f, i64 left] [] = some (aFlat (flatG f left), []) := by
  have hm0 : 0 ≤ max left 0 := by omega
  have hm1 : max left 0 < 100000 := by omega
  unfold flatG
  generalize hM : max left 0 = M at *
  obtain ⟨fg, fr⟩ := f
  have hf1 := hf.1
  have hf2 := hf.2.1
  simp only at hf1 hf2
  refine run_wp (by rw [hv]; exact rfl) ?_
  generalize hFL : flatL (fg, fr) fg 0 M [] = FL
  simp -dsimp -implicitDefEqProofs (maxSteps := 1000000) (disch := omega) [condP_pos, condP_neg, optP_pos, decide_eq_true, decide_eq_false, wrap_i64, Int.natCast_inj, hM]
  refine wp_inv (S38 (fg, fr)) (fun x => x.1 ++ x.2.1 = fg ∧ (0 ≤ x.2.2.1 ∧ x.2.2.1 < 100000) ∧ x.2.2.2.length = x.1.length ∧ FL = flatL (fg, fr) x.2.1 x.1.length x.2.2.1 x.2.2.2) (fun x => x.2.1.length) ([], fg, M, []) ⟨rfl, ⟨hm0, hm1⟩, rfl, hFL.symm⟩ (by simp -dsimp -implicitDefEqProofs (maxSteps := 1000000) (disch := omega) [condP_pos, condP_neg, optP_pos, decide_eq_true, decide_eq_false, wrap_i64, Int.natCast_inj, S38]) ?_
  rintro ⟨pre, rest, lf, acc⟩ ⟨e1, e2, e3, e4⟩
  simp only at e1 e2 e3 e4
  cases rest with
  | nil =>
    rw [e4]
    simp -dsimp -implicitDefEqProofs (maxSteps := 1000000) (disch := omega) [condP_pos, condP_neg, optP_pos, decide_eq_true, decide_eq_false, wrap_i64, Int.natCast_inj, S38, flatL]
  | cons g rest =>
    have hlen : pre.length + (rest.length + 1) < 1000000 := by rw [← e1] at hf1; simpa using hf1
    have ho := run_routline hv (fg, fr) hf pre.length lf (by omega)
    have hb := outlineG_left hf pre.length lf (by omega)
    rw [flatL] at e4
    subst e1
    simp only [aFont, List.map_append, List.map_cons] at ho
    generalize outlineG (pre ++ g :: rest, fr) pre.length lf = R at *
    obtain ⟨o, l2, er⟩ := R
    simp only at e4 hb
    by_cases he : er = 0
    · subst he
      rw [if_pos rfl] at e4
      simp -dsimp -implicitDefEqProofs (maxSteps := 1000000) (disch := omega) [condP_pos, condP_neg, optP_pos, decide_eq_true, decide_eq_false, wrap_i64, Int.natCast_inj, S38, ho, run_rcut hv]
      refine again (pre ++ [g], rest, l2, acc ++ [(cut g.1, o, [])]) ⟨by simp, by simp only; omega, by simp [e3], by simpa using e4⟩ (by simp) ?_
      simp -dsimp -implicitDefEqProofs (maxSteps := 1000000) (disch := omega) [condP_pos, condP_neg, optP_pos, decide_eq_true, decide_eq_false, wrap_i64, Int.natCast_inj, S38, eGl]
    · rw [if_neg he] at e4
      subst e4
      simp -dsimp -implicitDefEqProofs (maxSteps := 1000000) (disch := omega) [condP_pos, condP_neg, optP_pos, decide_eq_true, decide_eq_false, wrap_i64, Int.natCast_inj, S38, ho, he]
end
end Go.Vai

set_option linter.unusedVariables false
set_option linter.unusedSimpArgs false
set_option linter.unnecessarySimpa false
set_option linter.unusedSectionVars false
namespace Go.Vai
/-! A flat font looks the same. -/
theorem ptsG_app : ∀ (a b : List Ol), ptsG (a ++ b) = ptsG a + ptsG b
  | [], b => by simp [ptsG]
  | o :: a, b => by simp only [List.cons_append, ptsG, ptsG_app a b]; omega
theorem ptsG_map (f : Pt → Pt) : ∀ (a : List Ol), ptsG (a.map (List.map f)) = ptsG a
  | [] => rfl
  | o :: a => by simp only [List.map_cons, ptsG, ptsG_map f a, List.length_map]
def inR (p : Pt) : Prop := (-1048576 ≤ p.1 ∧ p.1 ≤ 1048576) ∧ (-1048576 ≤ p.2 ∧ p.2 ≤ 1048576)
def allR (l : List Ol) : Prop := ∀ o ∈ l, ∀ p ∈ o, inR p
theorem allR_app {a b : List Ol} (h1 : allR a) (h2 : allR b) : allR (a ++ b) := fun o ho => by
  rcases List.mem_append.1 ho with ho | ho
  · exact h1 o ho
  · exact h2 o ho
theorem allR_moved (dx dy : Int) (l : List Ol) : allR (l.map (List.map (movedP dx dy))) := by
  intro o ho p hp
  obtain ⟨o', _, rfl⟩ := List.mem_map.1 ho
  obtain ⟨p', _, rfl⟩ := List.mem_map.1 hp
  exact ⟨cut_b _, cut_b _⟩
theorem cut_id {n : Int} (h : -1048576 ≤ n ∧ n ≤ 1048576) : cut n = n := by unfold cut; omega
theorem moved_id {p : Pt} (h : inR p) : movedP 0 0 p = p := by
  obtain ⟨h1, h2⟩ := h
  simp only [movedP, Int.add_zero]
  rw [cut_id h1, cut_id h2, cut_id h1, cut_id h2]
theorem moved_all {l : List Ol} (h : allR l) : l.map (List.map (movedP 0 0)) = l := by
  have : ∀ o ∈ l, o.map (movedP 0 0) = o := fun o ho => by
    have : ∀ p ∈ o, movedP 0 0 p = p := fun p hp => moved_id (h o ho p hp)
    exact (List.map_congr_left this).trans (List.map_id' o)
  exact (List.map_congr_left this).trans (List.map_id' l)
/-- What a drawing adds, and what it costs. -/
def AddG (c : Nat) (s s' : Dr) : Prop := s'.2.2 = s.2.2 ∧ ∃ add, s'.1 = s.1 ++ add ∧ allR add ∧ ((c + ptsG add : Nat) : Int) ≤ s.2.1 - s'.2.1
theorem piecesG_add {dr : Int → Int → Int → Dr → Bool × Dr} {many : Nat} {dx dy : Int} (hd : ∀ k dx dy s s', dr k dx dy s = (true, s') → AddG 1 s s') :
    ∀ (l : List Pc) (s s' : Dr), piecesG dr many dx dy l s = (true, s') → AddG 0 s s'
  | [], s, s', e => by
    simp only [piecesG, Prod.mk.injEq, true_and] at e
    subst e; exact ⟨rfl, [], by simp, (by intro o ho; cases ho), by simp [ptsG]⟩
  | p :: r, s, s', e => by
    simp only [piecesG] at e
    split at e
    · exact piecesG_add hd r s s' e
    · split at e
      · rename_i h1 h2
        generalize hx : dr p.1 (cut (dx + cut p.2.1)) (cut (dy + cut p.2.2)) s = x at e h2
        obtain ⟨ok, t⟩ := x
        simp only at h2 e
        subst h2
        obtain ⟨a1, b1, c1, d1, f1⟩ := hd _ _ _ _ _ hx
        obtain ⟨a2, b2, c2, d2, f2⟩ := piecesG_add hd r t s' e
        refine ⟨a2.trans a1, b1 ++ b2, by rw [c2, c1]; simp, allR_app d1 d2, ?_⟩
        rw [ptsG_app]; omega
      · rename_i h1 h2
        rw [e] at h2; exact absurd rfl h2
theorem drawG_add {f : Font} : ∀ (n : Nat) (k dx dy : Int) (s s' : Dr), drawG f n k dx dy s = (true, s') → AddG 1 s s'
  | 0, k, dx, dy, s, s', e => by simp [drawG] at e
  | n + 1, k, dx, dy, s, s', e => by
    cases hg : f.1[k.toNat]? with
    | none => simp [drawG, hg] at e
    | some g =>
      rw [drawG_succ hg] at e
      split at e
      · simp at e
      · have key := piecesG_add (many := f.1.length) (dx := dx) (dy := dy) (fun k dx dy s s' => drawG_add (f := f) n k dx dy s s') g.2.2 (s.1 ++ g.2.1.map (List.map (movedP dx dy)), s.2.1 - (1 + (ptsG g.2.1 : Int)), s.2.2 ++ [k])
        generalize piecesG (drawG f n) f.1.length dx dy g.2.2 (s.1 ++ g.2.1.map (List.map (movedP dx dy)), s.2.1 - (1 + (ptsG g.2.1 : Int)), s.2.2 ++ [k]) = r at key e
        obtain ⟨ok, t⟩ := r
        cases ok with
        | false => simp at e
        | true =>
          obtain ⟨a1, b1, c1, d1, f1⟩ := key t rfl
          simp only [popG_t, Prod.mk.injEq, true_and] at e
          subst e
          simp only at a1 c1 f1
          refine ⟨by simp only; rw [a1]; simp, g.2.1.map (List.map (movedP dx dy)) ++ b1, by simp only; rw [c1]; simp, allR_app (allR_moved _ _ _) d1, ?_⟩
          rw [ptsG_app, ptsG_map]
          simp only
          omega
theorem piecesG_low {dr : Int → Int → Int → Dr → Bool × Dr} {many : Nat} {dx dy : Int} (hd : ∀ k dx dy s s', 0 ≤ s.2.1 → dr k dx dy s = (true, s') → 0 ≤ s'.2.1) :
    ∀ (l : List Pc) (s s' : Dr), 0 ≤ s.2.1 → piecesG dr many dx dy l s = (true, s') → 0 ≤ s'.2.1
  | [], s, s', h, e => by
    simp only [piecesG, Prod.mk.injEq, true_and] at e
    subst e; exact h
  | p :: r, s, s', h, e => by
    simp only [piecesG] at e
    split at e
    · exact piecesG_low hd r s s' h e
    · split at e
      · rename_i h1 h2
        generalize hx : dr p.1 (cut (dx + cut p.2.1)) (cut (dy + cut p.2.2)) s = x at e h2
        obtain ⟨ok, t⟩ := x
        simp only at h2 e
        subst h2
        exact piecesG_low hd r t s' (hd _ _ _ _ _ h hx) e
      · rename_i h1 h2
        rw [e] at h2; exact absurd rfl h2
theorem drawG_low {f : Font} : ∀ (n : Nat) (k dx dy : Int) (s s' : Dr), 0 ≤ s.2.1 → drawG f n k dx dy s = (true, s') → 0 ≤ s'.2.1
  | 0, k, dx, dy, s, s', h, e => by simp [drawG] at e
  | n + 1, k, dx, dy, s, s', h, e => by
    cases hg : f.1[k.toNat]? with
    | none => simp [drawG, hg] at e
    | some g =>
      rw [drawG_succ hg] at e
      split at e
      · simp at e
      · rename_i hl
        have key := piecesG_low (many := f.1.length) (dx := dx) (dy := dy) (fun k dx dy s s' => drawG_low (f := f) n k dx dy s s') g.2.2 (s.1 ++ g.2.1.map (List.map (movedP dx dy)), s.2.1 - (1 + (ptsG g.2.1 : Int)), s.2.2 ++ [k])
        generalize piecesG (drawG f n) f.1.length dx dy g.2.2 (s.1 ++ g.2.1.map (List.map (movedP dx dy)), s.2.1 - (1 + (ptsG g.2.1 : Int)), s.2.2 ++ [k]) = r at key e
        obtain ⟨ok, t⟩ := r
        cases ok with
        | false => simp at e
        | true =>
          have := key t (by simp only; omega) rfl
          simp only [popG_t, Prod.mk.injEq, true_and] at e
          subst e
          exact this
/-- More work is left over. -/
def ShG (dr : Int → Int → Int → Dr → Bool × Dr) : Prop := ∀ k dx dy s s' (d : Int), 0 ≤ d → dr k dx dy s = (true, s') → dr k dx dy (s.1, s.2.1 + d, s.2.2) = (true, (s'.1, s'.2.1 + d, s'.2.2))
theorem piecesG_sh {dr : Int → Int → Int → Dr → Bool × Dr} {many : Nat} {dx dy : Int} (hd : ShG dr) :
    ∀ (l : List Pc) (s s' : Dr) (d : Int), 0 ≤ d → piecesG dr many dx dy l s = (true, s') → piecesG dr many dx dy l (s.1, s.2.1 + d, s.2.2) = (true, (s'.1, s'.2.1 + d, s'.2.2))
  | [], s, s', d, h, e => by
    simp only [piecesG, Prod.mk.injEq, true_and] at e ⊢
    subst e; exact ⟨rfl, rfl, rfl⟩
  | p :: r, s, s', d, h, e => by
    simp only [piecesG] at e ⊢
    split at e
    · rename_i h1
      rw [if_pos h1]
      exact piecesG_sh hd r s s' d h e
    · rename_i h1
      rw [if_neg h1]
      split at e
      · rename_i h2
        generalize hx : dr p.1 (cut (dx + cut p.2.1)) (cut (dy + cut p.2.2)) s = x at e h2
        obtain ⟨ok, t⟩ := x
        simp only at h2 e
        subst h2
        rw [hd _ _ _ _ _ d h hx, if_pos rfl]
        exact piecesG_sh hd r t s' d h e
      · rename_i h2
        rw [e] at h2; exact absurd rfl h2
theorem drawG_sh {f : Font} : ∀ (n : Nat), ShG (drawG f n)
  | 0, k, dx, dy, s, s', d, h, e => by simp [drawG] at e
  | n + 1, k, dx, dy, s, s', d, h, e => by
    cases hg : f.1[k.toNat]? with
    | none => simp [drawG, hg] at e
    | some g =>
      rw [drawG_succ hg] at e ⊢
      split at e
      · simp at e
      · rename_i hl
        rw [if_neg (by simp only; omega)]
        have key := piecesG_sh (many := f.1.length) (dx := dx) (dy := dy) (drawG_sh (f := f) n) g.2.2 (s.1 ++ g.2.1.map (List.map (movedP dx dy)), s.2.1 - (1 + (ptsG g.2.1 : Int)), s.2.2 ++ [k])
        have he : s.2.1 + d - (1 + (ptsG g.2.1 : Int)) = s.2.1 - (1 + (ptsG g.2.1 : Int)) + d := by omega
        simp only
        rw [he]
        generalize piecesG (drawG f n) f.1.length dx dy g.2.2 (s.1 ++ g.2.1.map (List.map (movedP dx dy)), s.2.1 - (1 + (ptsG g.2.1 : Int)), s.2.2 ++ [k]) = r at key e
        obtain ⟨ok, t⟩ := r
        cases ok with
        | false => simp at e
        | true =>
          have k2 := key t d h rfl
          simp only at k2
          rw [k2]
          simp only [popG_t, Prod.mk.injEq, true_and] at e ⊢
          subst e
          exact ⟨rfl, rfl, rfl⟩
/-- An outline that is drawn with some work, drawn with more. -/
theorem outlineG_more {f : Font} {k left : Int} {o : List Ol} {l : Int} (h : outlineG f k left = (o, l, 0)) {m : Int} (hm : max left 0 ≤ m) :
    0 ≤ k ∧ k < f.1.length ∧ outlineG f k m = (o, l + (m - max left 0), 0) ∧ allR o ∧ ((1 + ptsG o : Nat) : Int) ≤ max left 0 - l := by
  have hm0 : max m 0 = m := by omega
  unfold outlineG at h ⊢
  rw [hm0]
  split at h
  · simp at h
  · rename_i h1
    rw [if_neg h1]
    split at h
    · rename_i h2
      generalize hr : drawG f 8 k 0 0 ([], max left 0, []) = r at h h2
      obtain ⟨ok, t⟩ := r
      simp only at h2
      subst h2
      have h3 := drawG_sh 8 k 0 0 _ _ (m - max left 0) (by omega) hr
      obtain ⟨a1, add, c1, d1, f1⟩ := drawG_add 8 k 0 0 _ _ hr
      simp only at h3 c1 f1
      have hx : max left 0 + (m - max left 0) = m := by omega
      rw [hx] at h3
      rw [h3, if_pos rfl]
      simp only [Prod.mk.injEq, and_true] at h
      obtain ⟨h4, h5⟩ := h
      rw [List.nil_append] at c1
      subst h4; subst h5
      refine ⟨by omega, by omega, rfl, by rw [c1]; exact d1, by rw [c1]; exact f1⟩
    · simp at h
theorem outlineG_err {f : Font} (k : Nat) (hk : k < f.1.length) (left : Int) : (outlineG f k left).2.2 = 0 ∨ (outlineG f k left).2.2 = 1 := by
  unfold outlineG
  rw [if_neg (by omega)]
  split
  · exact .inl rfl
  · exact .inr rfl
/-- A glyph without pieces. -/
theorem outlineG_plain {g : Font} {k : Nat} {adv : Int} {o : List Ol} (hg : g.1[k]? = some (adv, o, [])) (ho : allR o) {m : Int} (hm : ((1 + ptsG o : Nat) : Int) ≤ m) : outlineG g k m = (o, m - (1 + (ptsG o : Int)), 0) := by
  have hk : k < g.1.length := (List.getElem?_eq_some_iff.1 hg).1
  have hm0 : max m 0 = m := by omega
  unfold outlineG
  rw [if_neg (by omega), hm0]
  have h8 : drawG g 8 k 0 0 ([], m, []) = (true, (o, m - (1 + (ptsG o : Int)), [])) := by
    rw [drawG_succ (g := (adv, o, [])) (by simpa using hg)]
    rw [if_neg (by simp only; omega)]
    simp only [piecesG, popG_t, List.nil_append, moved_all ho]
    rfl
  rw [h8, if_pos rfl]
/-- What a flat font has. -/
theorem flatL_ok (f : Font) : ∀ (r : List Gl) (k : Nat) (left : Int) (acc : List Gl) (R : List Gl × Int × Int), 0 ≤ left → left ≤ 5000 → (∀ j g, r[j]? = some g → f.1[k + j]? = some g) → acc.length = k →
    flatL f r k left acc = R → (R.2.2 = 0 ∨ R.2.2 = 1) ∧ (R.2.2 = 0 → R.1.length = k + r.length ∧ (∀ j, j < k → R.1[j]? = acc[j]?) ∧
      ∀ j g, r[j]? = some g → ∃ o l, R.1[k + j]? = some (cut g.1, o, []) ∧ allR o ∧ outlineG f ((k + j : Nat) : Int) 5000 = (o, l, 0) ∧ ((1 + ptsG o : Nat) : Int) ≤ 5000 - l ∧ ((1 + ptsG o : Nat) : Int) ≤ 5000)
  | [], k, left, acc, R, h0, h1, hr, ha, e => by
    simp only [flatL] at e
    subst e
    exact ⟨.inl rfl, fun _ => ⟨by simp [ha], fun j _ => rfl, fun j g hj => by simp at hj⟩⟩
  | g :: r, k, left, acc, R, h0, h1, hr, ha, e => by
    have hgk : f.1[k]? = some g := by simpa using hr 0 g rfl
    have hk : k < f.1.length := (List.getElem?_eq_some_iff.1 hgk).1
    have her := outlineG_err k hk left
    simp only [flatL] at e
    split at e
    · rename_i hz
      generalize hx : outlineG f k left = x at e hz
      obtain ⟨o, l, er⟩ := x
      simp only at hz e
      subst hz
      have hml : max left 0 = left := by omega
      obtain ⟨q1, q2, q3, q4, q5⟩ := outlineG_more hx (m := 5000) (by omega)
      rw [hml] at q3 q5
      have hl0 : 0 ≤ l ∧ l ≤ left := by
        unfold outlineG at hx
        rw [if_neg (by omega), hml] at hx
        split at hx
        · rename_i h2
          generalize hr2 : drawG f 8 k 0 0 ([], left, []) = r2 at hx h2
          obtain ⟨ok, t⟩ := r2
          simp only at h2
          subst h2
          simp only [Prod.mk.injEq, and_true] at hx
          have hb := drawG_low 8 k 0 0 _ _ (show (0 : Int) ≤ (([], left, []) : Dr).2.1 from h0) hr2
          rw [← hx.2]
          exact ⟨hb, by rw [hx.2]; omega⟩
        · simp at hx
      have ih := flatL_ok f r (k + 1) l (acc ++ [(cut g.1, o, [])]) R hl0.1 (by omega) (fun j g' hj => by
        have := hr (j + 1) g' (by simpa using hj)
        rw [show k + 1 + j = k + (j + 1) by omega]; exact this) (by simp [ha]) e
      refine ⟨ih.1, fun hR => ?_⟩
      obtain ⟨i1, i2, i3⟩ := ih.2 hR
      refine ⟨by rw [i1]; simp; omega, fun j hj => ?_, fun j g' hj => ?_⟩
      · rw [i2 j (by omega), List.getElem?_append_left (by omega)]
      · cases j with
        | zero =>
          simp only [List.getElem?_cons_zero, Option.some.injEq] at hj
          subst hj
          refine ⟨o, l + (5000 - left), ?_, q4, q3, by omega, by omega⟩
          rw [Nat.add_zero, i2 k (by omega)]
          rw [← ha]; simp
        | succ j =>
          have := i3 j g' (by simpa using hj)
          rw [show k + 1 + j = k + (j + 1) by omega] at this
          exact this
    · rename_i hz
      subst e
      simp only
      refine ⟨her, fun h => absurd h hz⟩
end Go.Vai

set_option linter.unusedVariables false
set_option linter.unusedSimpArgs false
set_option linter.unnecessarySimpa false
set_option linter.unusedSectionVars false
namespace Go.Vai
/-! The laws of lines and of flat fonts. -/
theorem okSz_pt (l : List Pt) : okSz 2 (l.map ePt) = true := by simp [okSz]
theorem run_clone (l : List Pt) (h : l.length < 1000000000) : V.run 66 [rw_ (l.map ePt)] [] = some (rw_ (l.map ePt), []) := by
  have hE : V.E 66 [rw_ (l.map ePt)] [] = some (rw_ (l.map ePt), []) := by
    show E66 66 [rw_ (l.map ePt)] [] = _
    simp only [E66, if_true]
    rw [if_pos ⟨okSz_pt l, by simpa using h⟩]
  rw [Env.run_some]
  refine ⟨1, ?_⟩
  have h66 : V.T 66 = none := rfl
  unfold runN
  rw [h66]
  exact hE
theorem flatL_len (f : Font) (hf : smFont f) : ∀ (r : List Gl) (k : Nat) (left : Int) (acc : List Gl), left ≤ 20000 → (∀ g ∈ acc, okGl g) → (∀ g ∈ (flatL f r k left acc).1, okGl g) ∧ (flatL f r k left acc).1.length ≤ acc.length + r.length
  | [], k, left, acc, hl, h => ⟨h, by simp [flatL]⟩
  | g :: r, k, left, acc, hl, h => by
    simp only [flatL]
    split
    · have h1 := outlineG_cnt hf (k : Int) left hl
      have h2 := (outlineG_len hf (k : Int) left (by omega)).2
      have h3 := (outlineG_left hf (k : Int) left (by omega)).2
      have ih := flatL_len f hf r (k + 1) (outlineG f k left).2.1 (acc ++ [(cut g.1, (outlineG f k left).1, [])]) (by omega) (fun x hx => by
        rcases List.mem_append.1 hx with hx | hx
        · exact h x hx
        · simp only [List.mem_singleton] at hx
          subst hx
          exact ⟨⟨h1, h2⟩, by simp⟩)
      refine ⟨ih.1, ?_⟩
      have := ih.2
      simp only [List.length_append, List.length_cons, List.length_nil] at this ⊢
      omega
    · exact ⟨(by intro x hx; cases hx), by simp⟩
theorem flatG_ok {f : Font} (hf : smFont f) (left : Int) (hl : left ≤ 20000) : okFont (flatG f left).1 ∧ (flatG f left).1.1.length ≤ f.1.length := by
  have h := flatL_len f hf f.1 0 (max left 0) [] (by omega) (by intro x hx; cases hx)
  have h1 := hf.1
  have h2 := hf.2.1
  unfold flatG
  split
  · refine ⟨⟨?_, ?_, h.1⟩, ?_⟩
    · have := h.2; simp only [List.length_nil] at this; simp only; omega
    · simp only; omega
    · have := h.2; simp only [List.length_nil] at this; simp only; omega
  · exact ⟨⟨by simp, by simp, (by intro g hg; cases hg)⟩, by simp⟩
theorem lineG_len (f : Font) (s : List UInt8) : (lineG f s).1.length ≤ s.length := by
  have h := runesG_len s
  have h2 : ∀ (l : List Int) (p : Int), (lineF f p l).length = l.length := by
    intro l
    induction l with
    | nil => intro p; rfl
    | cons x r ih => intro p; simp only [lineF, List.length_cons, ih]
  unfold lineG
  split
  · simp
  · simp only; rw [h2]; exact h
set_option maxHeartbeats 1000000 in
theorem law_line (f : Font) (s : List UInt8) (left : Int) (hf : roomFont f) : V.run 7 [aFont f, bs s, i64 left] [] = some (bo true, []) := by
  have hw := run_fewR V_T f 300 (by omega) hf
  refine run_wp (by rw [V_T]; exact rfl) ?_
  by_cases h1 : fontSize f ≤ 300
  · rw [decide_eq_true (by omega)] at hw
    by_cases h3 : s.length ≤ 300
    · by_cases h2 : left ≤ 5000
      · obtain ⟨s1, s2, s3, s4, s5⟩ := small_font h1 (by omega)
        have c1 := run_copied V_T f (by omega) (by omega) (fun g hg => by obtain ⟨q1, q2, q3, q4⟩ := s5 g hg; exact ⟨by omega, by omega, fun o ho => by have := q4 o ho; omega⟩)
        have c2 := run_line V_T V_G0 V_G1 f s (by omega) (by omega) (by omega)
        have c3 := run_rline V_T f s (by omega) (by omega) (by omega)
        have c4 := run_flat V_T f s1 (run_clone f.2 (by omega)) left (by omega)
        have c5 := run_rflat V_T f s1 left (by omega)
        have hfo := (flatG_ok s1 left (by omega)).1
        have hln := lineG_len f s
        generalize flatG f left = R at c4 c5 hfo
        generalize lineG f s = L at c2 c3 hln
        obtain ⟨g, rs, er⟩ := R
        obtain ⟨pl, wd⟩ := L
        simp only at hfo hln
        have c6 := run_samePcs V_T pl pl (by omega)
        have c7 := run_sameFont V_T g g hfo
        have c8 := run_sameFont V_T f f s2
        rw [decide_eq_true rfl] at c6 c7 c8
        clear hfo s1 s2 s5 hf
        simp -dsimp -implicitDefEqProofs (maxSteps := 1000000) (disch := omega) [condP_pos, condP_neg, optP_pos, decide_eq_true, decide_eq_false, wrap_i64, Int.natCast_inj, run_awake, hw, h2, h3, c1, c2, c3, c4, c5, c6, c7, c8]
      · simp -dsimp -implicitDefEqProofs (maxSteps := 1000000) (disch := omega) [condP_pos, condP_neg, optP_pos, decide_eq_true, decide_eq_false, wrap_i64, Int.natCast_inj, run_awake, hw, h2, h3]
    · simp -dsimp -implicitDefEqProofs (maxSteps := 1000000) (disch := omega) [condP_pos, condP_neg, optP_pos, decide_eq_true, decide_eq_false, wrap_i64, Int.natCast_inj, run_awake, hw, h3]
  · rw [decide_eq_false (by omega)] at hw
    simp -dsimp -implicitDefEqProofs (maxSteps := 1000000) (disch := omega) [condP_pos, condP_neg, optP_pos, decide_eq_true, decide_eq_false, wrap_i64, Int.natCast_inj, run_awake, hw]
theorem lookup_many (n : Nat) (r : Int) (l : List Pt) : lookupG n r l = lookupG n r l := rfl
theorem lineG_same {f g : Font} (h1 : g.1.length = f.1.length) (h2 : g.2 = f.2) (ha : ∀ k, advance g k = advance f k) (s : List UInt8) : lineG g s = lineG f s := by
  have e1 : ∀ (l : List Int) (p : Int), lineF g p l = lineF f p l := by
    intro l
    induction l with
    | nil => intro p; rfl
    | cons x r ih => intro p; simp only [lineF, h1, h2, ha, ih]
  have e2 : ∀ (l : List Int) (p : Int), lineE g p l = lineE f p l := by
    intro l
    induction l with
    | nil => intro p; rfl
    | cons x r ih => intro p; simp only [lineE, h1, h2, ha, ih]
  unfold lineG
  rw [h1, e1, e2]
theorem cut_cut (n : Int) : cut (cut n) = cut n := cut_id (cut_b n)
theorem piecesG_cnt {dr : Int → Int → Int → Dr → Bool × Dr} {many : Nat} {dx dy : Int} (hd : ∀ k dx dy s s', dr k dx dy s = (true, s') → (s'.1.length : Int) + 300 * s'.2.1 ≤ s.1.length + 300 * s.2.1) :
    ∀ (l : List Pc) (s s' : Dr), piecesG dr many dx dy l s = (true, s') → (s'.1.length : Int) + 300 * s'.2.1 ≤ s.1.length + 300 * s.2.1
  | [], s, s', e => by
    simp only [piecesG, Prod.mk.injEq, true_and] at e
    subst e; exact Int.le_refl _
  | p :: r, s, s', e => by
    simp only [piecesG] at e
    split at e
    · exact piecesG_cnt hd r s s' e
    · split at e
      · rename_i h1 h2
        generalize hx : dr p.1 (cut (dx + cut p.2.1)) (cut (dy + cut p.2.2)) s = x at e h2
        obtain ⟨ok, t⟩ := x
        simp only at h2 e
        subst h2
        have a1 := hd _ _ _ _ _ hx
        have a2 := piecesG_cnt hd r t s' e
        omega
      · rename_i h1 h2
        rw [e] at h2; exact absurd rfl h2
theorem drawG_cnt {f : Font} (hf : ∀ g ∈ f.1, g.2.1.length ≤ 300) : ∀ (n : Nat) (k dx dy : Int) (s s' : Dr), drawG f n k dx dy s = (true, s') → (s'.1.length : Int) + 300 * s'.2.1 ≤ s.1.length + 300 * s.2.1
  | 0, k, dx, dy, s, s', e => by simp [drawG] at e
  | n + 1, k, dx, dy, s, s', e => by
    cases hg : f.1[k.toNat]? with
    | none => simp [drawG, hg] at e
    | some g =>
      have hgl := hf g (List.mem_of_getElem? hg)
      rw [drawG_succ hg] at e
      split at e
      · simp at e
      · have key := piecesG_cnt (many := f.1.length) (dx := dx) (dy := dy) (fun k dx dy s s' => drawG_cnt hf n k dx dy s s') g.2.2 (s.1 ++ g.2.1.map (List.map (movedP dx dy)), s.2.1 - (1 + (ptsG g.2.1 : Int)), s.2.2 ++ [k])
        generalize piecesG (drawG f n) f.1.length dx dy g.2.2 (s.1 ++ g.2.1.map (List.map (movedP dx dy)), s.2.1 - (1 + (ptsG g.2.1 : Int)), s.2.2 ++ [k]) = r at key e
        obtain ⟨ok, t⟩ := r
        cases ok with
        | false => simp at e
        | true =>
          have k2 := key t rfl
          simp only [popG_t, Prod.mk.injEq, true_and] at e
          subst e
          simp only [List.length_append, List.length_map] at k2 ⊢
          omega
theorem outlineG_small {f : Font} (hf : smFont f) (h3 : ∀ g ∈ f.1, g.2.1.length ≤ 300) (k : Int) : (outlineG f k 5000).1.length < 4000000 := by
  unfold outlineG
  split
  · simp
  · split
    · rename_i h1 h2
      have h4 := drawG_cnt h3 8 k 0 0 ([], max 5000 0, [])
      have h5 := drawG_low (f := f) 8 k 0 0 ([], max 5000 0, [])
      generalize drawG f 8 k 0 0 ([], max 5000 0, []) = r at *
      obtain ⟨ok, t⟩ := r
      simp only at h2
      subst h2
      have h6 := h4 t rfl
      have h7 := h5 t (by simp only; omega) rfl
      simp only [List.length_nil] at h6
      simp only; omega
    · simp
def S8 (f g : Font) (i : Nat) : St :=
  { sl := [(2, .bp 0 0), (5, bo true), (6, .bp 1 0), (13, i64 i)], hp := [(0, some (xFont f)), (1, some (xFont g))], nx := 2 }
set_option maxHeartbeats 2000000 in
theorem law_flat (f : Font) (s : List UInt8) (hf : roomFont f) : V.run 8 [aFont f, bs s] [] = some (bo true, []) := by
  have hw := run_fewR V_T f 300 (by omega) hf
  refine run_wp (by rw [V_T]; exact rfl) ?_
  by_cases h1 : fontSize f ≤ 300
  · rw [decide_eq_true (by omega)] at hw
    by_cases h3 : s.length ≤ 300
    · obtain ⟨s1, s2, s3, s4, s5⟩ := small_font h1 (by omega)
      have c4 := run_flat V_T f s1 (run_clone f.2 (by omega)) 5000 (by omega)
      have hfo := flatG_ok s1 5000 (by omega)
      have hok := flatL_ok f f.1 0 5000 [] (flatL f f.1 0 5000 []) (by omega) (by omega) (fun j g h => by simpa using h) rfl rfl
      have hmx : max (5000 : Int) 0 = 5000 := by omega
      unfold flatG at c4 hfo
      rw [hmx] at c4 hfo
      generalize flatL f f.1 0 5000 [] = R at hok c4 hfo
      obtain ⟨gl, rs, er⟩ := R
      simp only at hok c4 hfo
      by_cases he : er = 0
      · subst he
        rw [if_pos rfl] at c4 hfo
        obtain ⟨_, hok⟩ := hok
        obtain ⟨k1, _, k3⟩ := hok rfl
        simp only [Nat.zero_add] at k1 k3
        obtain ⟨hfo1, hfo2⟩ := hfo
        have hgs : smFont (gl, f.2) := by
          refine ⟨by simp only; omega, by simp only; omega, fun g hg => ?_⟩
          obtain ⟨j, hj⟩ := List.mem_iff_getElem?.1 hg
          simp only at hj
          have hjl : j < f.1.length := by rw [← k1]; exact (List.getElem?_eq_some_iff.1 hj).1
          obtain ⟨o, l, q1, q2, q3, q4, q5⟩ := k3 j f.1[j] (List.getElem?_eq_getElem hjl)
          rw [q1] at hj
          injection hj with hj
          subst hj
          have hcn := outlineG_cnt s1 (j : Int) 5000 (by omega)
          refine ⟨?_, by simp only; omega, by simp⟩
          simp only
          have hcs := outlineG_small s1 (fun g hg => (s5 g hg).2.1) (j : Int)
          rw [q3] at hcs
          exact hcs
        have hadv : ∀ k, advance (gl, f.2) k = advance f k := by
          intro k
          unfold advance
          split
          · simp only
            by_cases hk : k.toNat < f.1.length
            · obtain ⟨o, l, q1, q2, q3, q4, q5⟩ := k3 k.toNat f.1[k.toNat] (List.getElem?_eq_getElem hk)
              rw [q1, List.getElem?_eq_getElem hk]
              simp only [cut_cut]
            · rw [List.getElem?_eq_none (by omega), List.getElem?_eq_none (by omega)]
          · rfl
        have hls := lineG_same (f := f) (g := (gl, f.2)) k1 rfl hadv s
        have c2 := run_line V_T V_G0 V_G1 f s (by omega) (by omega) (by omega)
        have c3 := run_line V_T V_G0 V_G1 (gl, f.2) s (by omega) (by simp only; omega) (by simp only; omega)
        rw [hls] at c3
        have hln := lineG_len f s
        generalize lineG f s = L at c2 c3 hln
        obtain ⟨pl, wd⟩ := L
        simp only at hln
        have c6 := run_samePcs V_T pl pl (by omega)
        rw [decide_eq_true rfl] at c6
        simp -dsimp -implicitDefEqProofs (maxSteps := 1000000) (disch := omega) [condP_pos, condP_neg, optP_pos, decide_eq_true, decide_eq_false, wrap_i64, Int.natCast_inj, run_awake, hw, h3, c2, c3, c4, c6, k1]
        refine wp_inv (S8 f (gl, f.2)) (fun i => i ≤ f.1.length) (fun i => f.1.length - i) 0 (by simp) (by simp -dsimp -implicitDefEqProofs (maxSteps := 1000000) (disch := omega) [condP_pos, condP_neg, optP_pos, decide_eq_true, decide_eq_false, wrap_i64, Int.natCast_inj, S8]) ?_
        intro i hi
        by_cases hil : i < f.1.length
        · obtain ⟨o, l, q1, q2, q3, q4, q5⟩ := k3 i f.1[i] (List.getElem?_eq_getElem hil)
          have d1 := run_outline V_T f s1 (i : Int) 5000 (by omega)
          have d2 := run_outline V_T (gl, f.2) hgs (i : Int) 5000 (by omega)
          rw [q3] at d1
          rw [outlineG_plain (g := (gl, f.2)) q1 q2 q5] at d2
          have hcn := outlineG_cnt s1 (i : Int) 5000 (by omega)
          have hcl := (outlineG_len s1 (i : Int) 5000 (by omega)).2
          rw [q3] at hcn hcl
          have c8 := run_sameOls V_T o o hcn hcl
          rw [decide_eq_true rfl] at c8
          have hgi : i < gl.length := by omega
          have q1' : gl[i] = (cut f.1[i].1, o, []) := by
            have := List.getElem?_eq_getElem hgi
            rw [q1] at this
            injection this with this
            exact this.symm
          clear k3 hadv hgs hf hfo1 hok s1 s2 s5 hcl
          simp -dsimp -implicitDefEqProofs (maxSteps := 1000000) (disch := omega) [condP_pos, condP_neg, optP_pos, decide_eq_true, decide_eq_false, wrap_i64, Int.natCast_inj, S8, hil, d1, d2, c8, hgi, q1', eGl]
          refine again (i + 1) (by omega) (by omega) ?_
          simp -dsimp -implicitDefEqProofs (maxSteps := 1000000) (disch := omega) [condP_pos, condP_neg, optP_pos, decide_eq_true, decide_eq_false, wrap_i64, Int.natCast_inj, S8]
        · simp -dsimp -implicitDefEqProofs (maxSteps := 1000000) (disch := omega) [condP_pos, condP_neg, optP_pos, decide_eq_true, decide_eq_false, wrap_i64, Int.natCast_inj, S8, hil]
      · have h01 : er = 1 := by
          rcases hok.1 with h | h
          · exact absurd h he
          · exact h
        subst h01
        rw [if_neg (by decide)] at c4
        simp -dsimp -implicitDefEqProofs (maxSteps := 1000000) (disch := omega) [condP_pos, condP_neg, optP_pos, decide_eq_true, decide_eq_false, wrap_i64, Int.natCast_inj, run_awake, hw, h3, c4]
    · simp -dsimp -implicitDefEqProofs (maxSteps := 1000000) (disch := omega) [condP_pos, condP_neg, optP_pos, decide_eq_true, decide_eq_false, wrap_i64, Int.natCast_inj, run_awake, hw, h3]
  · rw [decide_eq_false (by omega)] at hw
    simp -dsimp -implicitDefEqProofs (maxSteps := 1000000) (disch := omega) [condP_pos, condP_neg, optP_pos, decide_eq_true, decide_eq_false, wrap_i64, Int.natCast_inj, run_awake, hw]
end Go.Vai
