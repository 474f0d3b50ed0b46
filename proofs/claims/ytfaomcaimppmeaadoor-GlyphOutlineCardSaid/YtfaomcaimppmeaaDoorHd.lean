/-
  What functions of layer 5 and of its reference compute: equations of the abstract run.
-/
import Derived.Test.YtfaomcaimppmeaaDoorHb
import Derived.Test.YtfaomcaimppmeaaDoorGf
set_option linter.unusedVariables false
set_option linter.unusedSimpArgs false
set_option linter.unnecessarySimpa false
set_option linter.unusedSectionVars false
namespace Go.Vai
/-! Small fonts; the law of outlines. -/
theorem ptsG_sz : ∀ l : List Ol, ptsG l = szOls l
  | [] => rfl
  | o :: r => by simp only [ptsG, szOls, ptsG_sz r]
theorem szGls_mem {g : Gl} : ∀ {l : List Gl}, g ∈ l → g.2.2.length + g.2.1.length + szOls g.2.1 ≤ szGls l
  | [], h => by cases h
  | x :: l, h => by
    simp only [szGls]
    rcases List.mem_cons.1 h with rfl | h
    · omega
    · have := szGls_mem h; omega
theorem small_font {f : Font} {m : Nat} (h : fontSize f ≤ m) (hm : m < 100000) : smFont f ∧ okFont f ∧ (f.1.length ≤ m ∧ f.2.length ≤ m ∧ ∀ g ∈ f.1, g.2.2.length ≤ m ∧ g.2.1.length ≤ m ∧ szOls g.2.1 ≤ m ∧ ∀ o ∈ g.2.1, o.length ≤ m) := by
  unfold fontSize at h
  have key : ∀ g ∈ f.1, g.2.2.length ≤ m ∧ g.2.1.length ≤ m ∧ szOls g.2.1 ≤ m ∧ ∀ o ∈ g.2.1, o.length ≤ m := by
    intro g hg
    have h1 := szGls_mem hg
    refine ⟨by omega, by omega, by omega, fun o ho => ?_⟩
    have h2 := ptsG_len _ o ho
    rw [ptsG_sz] at h2
    omega
  refine ⟨⟨by omega, by omega, fun g hg => ?_⟩, ⟨by omega, by omega, fun g hg => ?_⟩, by omega, by omega, key⟩
  · obtain ⟨h1, h2, h3, h4⟩ := key g hg
    exact ⟨by omega, by rw [ptsG_sz]; omega, by omega⟩
  · obtain ⟨h1, h2, h3, h4⟩ := key g hg
    exact ⟨⟨by omega, fun o ho => by have := h4 o ho; omega⟩, by omega⟩
section
variable {v : Env} (hv : v.T = Tt)
include hv
set_option maxHeartbeats 1000000 in
theorem run_fewR (f : Font) (most : Int) (hm : most < 1000000000) (hf : roomFont f) : v.run 18 [aFont f, i64 most] [] = some (bo (decide ((fontSize f : Int) ≤ most)), []) := by
  refine run_wp (by rw [hv]; exact rfl) ?_
  obtain ⟨fg, fr⟩ := f
  obtain ⟨h0, h1, h2⟩ := hf
  simp only at h0 h1 h2
  generalize hF : fontSize (fg, fr) = F
  simp -dsimp -implicitDefEqProofs (maxSteps := 1000000) (disch := omega) [condP_pos, condP_neg, optP_pos, decide_eq_true, decide_eq_false, wrap_i64, Int.natCast_inj]
  refine wp_inv (S18 (fg, fr) most) (fun a => a.1 ++ a.2.1 = fg ∧ a.2.2 + szGls a.2.1 ≤ F ∧ ((a.2.2 : Int) ≤ most → a.2.2 + szGls a.2.1 = F) ∧ a.2.2 < 600000000000000) (fun a => a.2.1.length) ([], fg, fg.length + fr.length) (by refine ⟨by simp, by simp [← hF, fontSize], by simp [← hF, fontSize], ?_⟩; simp only; omega) (by simp -dsimp -implicitDefEqProofs (maxSteps := 1000000) (disch := omega) [condP_pos, condP_neg, optP_pos, decide_eq_true, decide_eq_false, wrap_i64, Int.natCast_inj, S18]) ?_
  rintro ⟨pre, rest, n⟩ ⟨e1, e2, e2', e3⟩
  simp only at e1 e2 e2' e3
  cases rest with
  | nil =>
    simp only [szGls] at e2 e2'
    by_cases hn : (n : Int) ≤ most
    · have := e2' hn
      simp -dsimp -implicitDefEqProofs (maxSteps := 1000000) (disch := omega) [condP_pos, condP_neg, optP_pos, decide_eq_true, decide_eq_false, wrap_i64, Int.natCast_inj, S18, hn]
    · simp -dsimp -implicitDefEqProofs (maxSteps := 1000000) (disch := omega) [condP_pos, condP_neg, optP_pos, decide_eq_true, decide_eq_false, wrap_i64, Int.natCast_inj, S18, hn]
  | cons p rest =>
    have hl : pre.length + (rest.length + 1) ≤ 140737488351232 := by rw [← e1] at h0; simpa using h0
    obtain ⟨adv, ols, pcs⟩ := p
    have hp := h2 (adv, ols, pcs) (by rw [← e1]; simp)
    obtain ⟨p1, p2, p3⟩ := hp
    clear h2
    simp only at p1 p2 p3
    simp only [szGls] at e2 e2'
    by_cases hn : (n : Int) ≤ most
    · have e2 := e2' hn
      simp -dsimp -implicitDefEqProofs (maxSteps := 1000000) (disch := omega) [condP_pos, condP_neg, optP_pos, decide_eq_true, decide_eq_false, wrap_i64, Int.natCast_inj, S18, hn]
      refine wp_inv (T18 (fg, fr) most pre (adv, ols, pcs) rest) (fun a => a.1 ++ a.2.1 = ols ∧ a.2.2 + szOls a.2.1 + szGls rest = F ∧ a.2.2 < 600000000000000) (fun a => a.2.1.length) ([], ols, n + (pcs.length + ols.length)) (by refine ⟨by simp, ?_, ?_⟩ <;> simp only <;> omega) (by simp -dsimp -implicitDefEqProofs (maxSteps := 1000000) (disch := omega) [condP_pos, condP_neg, optP_pos, decide_eq_true, decide_eq_false, wrap_i64, Int.natCast_inj, T18]) ?_
      rintro ⟨q, r, k⟩ ⟨d1, d2, d3⟩
      simp only at d1 d2 d3
      subst d1
      cases r with
      | nil =>
        simp only [szOls] at d2
        simp -dsimp -implicitDefEqProofs (maxSteps := 1000000) (disch := omega) [condP_pos, condP_neg, optP_pos, decide_eq_true, decide_eq_false, wrap_i64, Int.natCast_inj, T18]
        refine again (pre ++ [(adv, q ++ [], pcs)], rest, k) ?_ ?_ ?_
        · refine ⟨by simp [← e1], ?_, ?_, ?_⟩ <;> simp only <;> omega
        · simp
        · simp -dsimp -implicitDefEqProofs (maxSteps := 1000000) (disch := omega) [condP_pos, condP_neg, optP_pos, decide_eq_true, decide_eq_false, wrap_i64, Int.natCast_inj, S18]
      | cons o r =>
        have ho := p2 o (by simp)
        have hq : q.length + (r.length + 1) ≤ 140737488351232 := by simpa using p1
        simp only [szOls] at d2
        clear p2 p1
        by_cases hk : (k : Int) ≤ most
        · simp -dsimp -implicitDefEqProofs (maxSteps := 1000000) (disch := omega) [condP_pos, condP_neg, optP_pos, decide_eq_true, decide_eq_false, wrap_i64, Int.natCast_inj, T18, hk]
          refine again (q ++ [o], r, k + o.length) ?_ ?_ ?_
          · refine ⟨by simp, ?_, ?_⟩ <;> simp only <;> omega
          · simp
          · simp -dsimp -implicitDefEqProofs (maxSteps := 1000000) (disch := omega) [condP_pos, condP_neg, optP_pos, decide_eq_true, decide_eq_false, wrap_i64, Int.natCast_inj, T18]
        · simp -dsimp -implicitDefEqProofs (maxSteps := 1000000) (disch := omega) [condP_pos, condP_neg, optP_pos, decide_eq_true, decide_eq_false, wrap_i64, Int.natCast_inj, T18, hk]
          refine again (pre ++ [(adv, q ++ o :: r, pcs)], rest, k) ?_ ?_ ?_
          · refine ⟨by simp [← e1], ?_, ?_, ?_⟩ <;> simp only <;> omega
          · simp
          · simp -dsimp -implicitDefEqProofs (maxSteps := 1000000) (disch := omega) [condP_pos, condP_neg, optP_pos, decide_eq_true, decide_eq_false, wrap_i64, Int.natCast_inj, S18]
    · simp -dsimp -implicitDefEqProofs (maxSteps := 1000000) (disch := omega) [condP_pos, condP_neg, optP_pos, decide_eq_true, decide_eq_false, wrap_i64, Int.natCast_inj, S18, hn]

end
theorem piecesG_len {dr : Int → Int → Int → Dr → Bool × Dr} {many : Nat} {dx dy : Int} (hd : ∀ k dx dy s, (∀ o ∈ s.1, o.length < 1000000) → ∀ o ∈ (dr k dx dy s).2.1, o.length < 1000000) :
    ∀ (l : List Pc) (s : Dr), (∀ o ∈ s.1, o.length < 1000000) → ∀ o ∈ (piecesG dr many dx dy l s).2.1, o.length < 1000000
  | [], s, h => h
  | p :: r, s, h => by
    simp only [piecesG]
    split
    · exact piecesG_len hd r s h
    · split
      · exact piecesG_len hd r _ (hd _ _ _ _ h)
      · exact hd _ _ _ _ h
theorem drawG_len {f : Font} (hf : smFont f) : ∀ (n : Nat) (k dx dy : Int) (s : Dr), (∀ o ∈ s.1, o.length < 1000000) → ∀ o ∈ (drawG f n k dx dy s).2.1, o.length < 1000000
  | 0, k, dx, dy, s, h => h
  | n + 1, k, dx, dy, s, h => by
    cases hg : f.1[k.toNat]? with
    | none => simp only [drawG, hg]; exact h
    | some g =>
      rw [drawG_succ hg]
      split
      · exact h
      · have hgl := hf.2.2 g (List.mem_of_getElem? hg)
        have key := piecesG_len (many := f.1.length) (dx := dx) (dy := dy) (fun k dx dy s => drawG_len hf n k dx dy s) g.2.2 (s.1 ++ g.2.1.map (List.map (movedP dx dy)), s.2.1 - (1 + (ptsG g.2.1 : Int)), s.2.2 ++ [k]) (by
          intro o ho
          rcases List.mem_append.1 ho with ho | ho
          · exact h o ho
          · obtain ⟨o', ho', rfl⟩ := List.mem_map.1 ho
            have := ptsG_len _ o' ho'
            have := hgl.2.1
            simp; omega)
        generalize piecesG (drawG f n) f.1.length dx dy g.2.2 _ = r at key ⊢
        obtain ⟨ok, t⟩ := r
        cases ok <;> exact key
theorem outlineG_len {f : Font} (hf : smFont f) (k left : Int) (hl : left < 1000000) : (outlineG f k left).1.length < 1000000000000 * 2 ∧ ∀ o ∈ (outlineG f k left).1, o.length < 1000000000000 := by
  unfold outlineG
  split
  · simp
  · split
    · rename_i h1 h2
      have h3 := drawG_len hf 8 k 0 0 ([], max left 0, []) (by simp)
      have h4 := drawG_ok hf 8 k 0 0 ([], max left 0, [])
      generalize drawG f 8 k 0 0 ([], max left 0, []) = r at *
      obtain ⟨ok, t⟩ := r
      simp only at h2
      subst h2
      obtain ⟨a1, a2, a3, a4⟩ := h4 t (by simp only; omega) rfl
      simp only [potG, List.length_nil] at a3 a4
      refine ⟨by simp only; omega, fun o ho => by have := h3 o ho; omega⟩
    · simp
theorem outlineG_cnt {f : Font} (hf : smFont f) (k left : Int) (hl : left ≤ 20000) : (outlineG f k left).1.length < 1000000000000 := by
  unfold outlineG
  split
  · simp
  · split
    · rename_i h1 h2
      have h4 := drawG_ok hf 8 k 0 0 ([], max left 0, [])
      generalize drawG f 8 k 0 0 ([], max left 0, []) = r at *
      obtain ⟨ok, t⟩ := r
      simp only at h2
      subst h2
      obtain ⟨a1, a2, a3, a4⟩ := h4 t (by simp only; omega) rfl
      simp only [potG, List.length_nil] at a3 a4
      simp only; omega
    · simp
theorem law_outline (f : Font) (r n left : Int) (hf : roomFont f) : V.run 5 [aFont f, i64 r, i64 n, i64 left] [] = some (bo true, []) := by
  have hw := run_fewR V_T f 300 (by omega) hf
  refine run_wp (by rw [V_T]; exact rfl) ?_
  by_cases h1 : fontSize f ≤ 300
  · rw [decide_eq_true (by omega)] at hw
    by_cases h2 : left ≤ 20000
    · obtain ⟨s1, s2, s3, s4, s5⟩ := small_font h1 (by omega)
      have c1 := run_copied V_T f (by omega) (by omega) (fun g hg => by obtain ⟨q1, q2, q3, q4⟩ := s5 g hg; exact ⟨by omega, by omega, fun o ho => by have := q4 o ho; omega⟩)
      have c2 := run_outline V_T f s1 n left (by omega)
      have c3 := run_routline V_T f s1 n left (by omega)
      have c4 := run_lookup V_T f r (by omega) (by omega)
      have c5 := run_rlookup V_T f r (by omega) (by omega)
      have c6 := run_advance V_T f n
      have c7 := run_radvance V_T f n
      have hlen := outlineG_len s1 n left (by omega)
      have hl2 : (outlineG f n left).1.length < 1000000000000 := by
        have := outlineG_cnt s1 n left h2; exact this
      generalize outlineG f n left = R at c2 c3 hlen hl2
      obtain ⟨o, l, e⟩ := R
      have c8 := run_sameOls V_T o o hl2 hlen.2
      have c9 := run_sameFont V_T f f s2
      rw [decide_eq_true rfl] at c8 c9
      clear hlen hl2 s1 s2 s5 hf
      simp -dsimp -implicitDefEqProofs (maxSteps := 1000000) (disch := omega) [condP_pos, condP_neg, optP_pos, decide_eq_true, decide_eq_false, wrap_i64, Int.natCast_inj, run_awake, hw, h2, c1, c2, c3, c4, c5, c6, c7, c8, c9]
    · simp -dsimp -implicitDefEqProofs (maxSteps := 1000000) (disch := omega) [condP_pos, condP_neg, optP_pos, decide_eq_true, decide_eq_false, wrap_i64, Int.natCast_inj, run_awake, hw, h2]
  · rw [decide_eq_false (by omega)] at hw
    simp -dsimp -implicitDefEqProofs (maxSteps := 1000000) (disch := omega) [condP_pos, condP_neg, optP_pos, decide_eq_true, decide_eq_false, wrap_i64, Int.natCast_inj, run_awake, hw]
end Go.Vai
