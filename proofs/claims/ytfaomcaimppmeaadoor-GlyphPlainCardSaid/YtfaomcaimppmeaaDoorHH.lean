/-
  What functions of layer 5 and of its reference compute: equations of the abstract run.
-/
import Derived.Test.YtfaomcaimppmeaaDoorHG
import Derived.Test.YtfaomcaimppmeaaDoorHr
import Derived.Test.YtfaomcaimppmeaaDoorHq
set_option linter.unusedVariables false
set_option linter.unusedSimpArgs false
set_option linter.unnecessarySimpa false
set_option linter.unusedSectionVars false
namespace Go.Vai
/-! The law of the font that is always there. -/
def inRB (p : Pt) : Bool := decide (-1048576 ≤ p.1) && decide (p.1 ≤ 1048576) && decide (-1048576 ≤ p.2) && decide (p.2 ≤ 1048576)
def plainChk : Bool := plainF.1.all fun g => decide (g.2.1.length ≤ 100) && decide (ptsG g.2.1 ≤ 500) && decide (g.2.2 = []) && g.2.1.all fun o => decide (o.length ≤ 100) && o.all inRB
theorem plain_chk : plainChk = true := by kernel_rfl
theorem plain_gl {g : Gl} (h : g ∈ plainF.1) : g.2.1.length ≤ 100 ∧ ptsG g.2.1 ≤ 500 ∧ g.2.2 = [] ∧ allR g.2.1 ∧ ∀ o ∈ g.2.1, o.length ≤ 100 := by
  have hc := plain_chk
  unfold plainChk at hc
  rw [List.all_eq_true] at hc
  have hc := hc g h
  simp only [Bool.and_eq_true, decide_eq_true_eq, List.all_eq_true, inRB] at hc
  obtain ⟨⟨⟨h1, h2⟩, h3⟩, h4⟩ := hc
  refine ⟨h1, h2, h3, fun o ho p hp => ?_, fun o ho => (h4 o ho).1⟩
  obtain ⟨⟨⟨a1, a2⟩, a3⟩, a4⟩ := (h4 o ho).2 p hp
  exact ⟨⟨a1, a2⟩, ⟨a3, a4⟩⟩
theorem plain_sm : smFont plainF := ⟨by rw [plain_len.1]; omega, by rw [plain_len.2]; omega, fun g hg => by
  obtain ⟨h1, h2, h3, _⟩ := plain_gl hg
  exact ⟨by omega, by omega, by rw [h3]; simp⟩⟩
theorem plain_ok : okFont plainF := ⟨by rw [plain_len.1]; omega, by rw [plain_len.2]; omega, fun g hg => by
  obtain ⟨h1, h2, h3, _, h5⟩ := plain_gl hg
  exact ⟨⟨by omega, fun o ho => by have := h5 o ho; omega⟩, by rw [h3]; simp⟩⟩
theorem plain_right : rightB plainF = true := by kernel_rfl
theorem lookupG_in (many : Nat) (hm : 0 < many) (r : Int) : ∀ l : List Pt, 0 ≤ lookupG many r l ∧ lookupG many r l < many
  | [] => by simp only [lookupG]; rw [if_neg (by omega)]; omega
  | p :: l => by
    simp only [lookupG]
    split
    · split
      · rename_i h; exact h
      · rw [if_neg (by omega)]; omega
    · exact lookupG_in many hm r l
def glyphOf (r : Int) : List Ol := match plainF.1[(lookupG 96 r plainF.2).toNat]? with
  | some g => g.2.1
  | none => []
theorem plain_outline (r : Int) : ∃ l, outlineG plainF (lookupG plainF.1.length r plainF.2) 1000 = (glyphOf r, l, 0) ∧ (glyphOf r).length ≤ 100 ∧ ∀ o ∈ glyphOf r, o.length ≤ 100 := by
  rw [plain_len.1]
  obtain ⟨h1, h2⟩ := lookupG_in 96 (by omega) r plainF.2
  unfold glyphOf
  generalize lookupG 96 r plainF.2 = k at *
  have hk : k.toNat < plainF.1.length := by rw [plain_len.1]; omega
  have hg := List.getElem?_eq_getElem hk
  obtain ⟨g1, g2, g3, g4, g5⟩ := plain_gl (List.getElem_mem hk)
  rw [hg]
  simp only
  generalize plainF.1[k.toNat] = g at *
  obtain ⟨adv, ols, pcs⟩ := g
  simp only at g1 g2 g3 g4 g5
  subst g3
  refine ⟨1000 - (1 + (ptsG ols : Int)), ?_, g1, g5⟩
  have := outlineG_plain (m := 1000) hg g4 (by omega)
  rw [Int.toNat_of_nonneg h1] at this
  exact this
def bigG (c : Nat) : Nat := if 97 ≤ c ∧ c ≤ 122 then c - 32 else c
def codeG (l : List Ol) : Nat := l.foldl (fun a o => match o with
  | p :: _ => a + 2 ^ (p.1 / 4 + 3 * (p.2 / 4)).toNat
  | [] => a) 0
def codes : List Nat := (List.range 94).map fun (i : Nat) => codeG (glyphOf (33 + (i : Int)))
def sameChk : Bool := (List.range 94).all fun i => decide (glyphOf (33 + (i : Int)) = outG 0 (digitsG (33 + (i : Int))))
theorem same_chk : sameChk = true := by kernel_rfl
def pairGo (c : Nat) (b : Nat) : List Nat → Nat → Bool
  | [], _ => true
  | d :: r, j => (!Nat.beq c d || Nat.beq b (bigG j)) && pairGo c b r (j + 1)
def pairsGo (L : List Nat) : List Nat → Nat → Bool
  | [], _ => true
  | c :: r, i => pairGo c (bigG i) L 33 && pairsGo L r (i + 1)
theorem pairs_ok : pairsGo codes codes 33 = true := by kernel_rfl
theorem pairGo_get {c b : Nat} : ∀ (l : List Nat) (j i d : Nat), pairGo c b l j = true → l[i]? = some d → c = d → b = bigG (j + i)
  | [], j, i, d, h, e, _ => by simp at e
  | x :: r, j, i, d, h, e, hc => by
    simp only [pairGo, Bool.and_eq_true] at h
    cases i with
    | zero =>
      simp only [List.getElem?_cons_zero, Option.some.injEq] at e
      subst e; subst hc
      have h1 := h.1
      simp only [Nat.beq_refl, Bool.not_true, Bool.false_or] at h1
      exact Nat.eq_of_beq_eq_true h1
    | succ i =>
      have := pairGo_get r (j + 1) i d h.2 (by simpa using e) hc
      rw [this]; congr 1; omega
theorem pairsGo_get {L : List Nat} : ∀ (l : List Nat) (j i c : Nat), pairsGo L l j = true → l[i]? = some c → pairGo c (bigG (j + i)) L 33 = true
  | [], j, i, c, h, e => by simp at e
  | x :: r, j, i, c, h, e => by
    simp only [pairsGo, Bool.and_eq_true] at h
    cases i with
    | zero =>
      simp only [List.getElem?_cons_zero, Option.some.injEq] at e
      subst e
      exact h.1
    | succ i =>
      have := pairsGo_get r (j + 1) i c h.2 (by simpa using e)
      rw [show j + (i + 1) = j + 1 + i by omega]; exact this
theorem codes_get (i : Nat) (h : i < 94) : codes[i]? = some (codeG (glyphOf (33 + (i : Int)))) := by
  unfold codes
  rw [List.getElem?_map, List.getElem?_range h]; rfl
theorem looks (r s : Nat) (hr : 33 ≤ r ∧ r ≤ 126) (hs : 33 ≤ s ∧ s ≤ 126) : (glyphOf r = glyphOf s) ↔ bigG r = bigG s := by
  constructor
  · intro h
    have h1 := pairsGo_get codes 33 (r - 33) _ pairs_ok (codes_get (r - 33) (by omega))
    have h2 := pairGo_get codes 33 (s - 33) _ h1 (codes_get (s - 33) (by omega)) (by
      have e1 : ((33 : Int) + ((r - 33 : Nat) : Int)) = r := by omega
      have e2 : ((33 : Int) + ((s - 33 : Nat) : Int)) = s := by omega
      rw [e1, e2, h])
    rw [show 33 + (r - 33) = r by omega, show 33 + (s - 33) = s by omega] at h2
    exact h2
  · intro h
    have hc := same_chk
    unfold sameChk at hc
    rw [List.all_eq_true] at hc
    have key : ∀ x : Nat, 33 ≤ x ∧ x ≤ 126 → glyphOf x = outG 0 (digitsG x) := fun x hx => by
      have := hc (x - 33) (by simp; omega)
      simp only [decide_eq_true_eq] at this
      rw [show ((33 : Int) + ((x - 33 : Nat) : Int)) = x by omega] at this
      exact this
    have hd : ∀ x : Nat, digitsG x = digitsG (bigG x : Nat) := fun x => by
      unfold bigG
      split
      · rename_i hx
        have this : ((x - 32 : Nat) : Int) = (x : Int) - 32 := by omega
        have h1 : (if 97 ≤ (x : Int) ∧ (x : Int) ≤ 122 then (x : Int) - 32 else (x : Int)) = (x : Int) - 32 := if_pos (by omega)
        have h2 : (if 97 ≤ ((x : Int) - 32) ∧ ((x : Int) - 32) ≤ 122 then ((x : Int) - 32) - 32 else ((x : Int) - 32)) = (x : Int) - 32 := if_neg (by omega)
        rw [this]
        unfold digitsG
        simp only [h1, h2]
      · rfl
    rw [key r hr, key s hs, hd r, hd s, h]
theorem run_big (c : UInt8) : V.run 41 [u8 c.toNat] [] = some (u8 ((bigG c.toNat : Nat) : Int), []) := by
  have hc := u8_lt c
  refine run_wp (by rw [V_T]; exact rfl) ?_
  unfold bigG
  generalize c.toNat = n at *
  by_cases h1 : 97 ≤ n
  · by_cases h2 : n ≤ 122
    · rw [if_pos ⟨h1, h2⟩]
      have hs : ((n - 32 : Nat) : Int) = (n : Int) - 32 := by omega
      rw [hs]
      simp -dsimp -implicitDefEqProofs (maxSteps := 1000000) (disch := omega) [condP_pos, condP_neg, optP_pos, decide_eq_true, decide_eq_false, wrap_i64, Int.natCast_inj, h1, h2, wrap_u8]
    · rw [if_neg (by omega)]
      simp -dsimp -implicitDefEqProofs (maxSteps := 1000000) (disch := omega) [condP_pos, condP_neg, optP_pos, decide_eq_true, decide_eq_false, wrap_i64, Int.natCast_inj, h1, h2]
  · rw [if_neg (by omega)]
    simp -dsimp -implicitDefEqProofs (maxSteps := 1000000) (disch := omega) [condP_pos, condP_neg, optP_pos, decide_eq_true, decide_eq_false, wrap_i64, Int.natCast_inj, h1]
set_option maxHeartbeats 2000000 in
theorem law_plain (r s : UInt8) : V.run 9 [u8 r.toNat, u8 s.toNat] [] = some (bo true, []) := by
  have hr := u8_lt r
  have hs := u8_lt s
  have c0 := run_plain V_T
  have c1 := run_lookup V_T plainF r.toNat (by rw [plain_len.1]; omega) (by rw [plain_len.2]; omega)
  have c2 := run_lookup V_T plainF s.toNat (by rw [plain_len.1]; omega) (by rw [plain_len.2]; omega)
  have c3 := run_outline V_T plainF plain_sm (lookupG plainF.1.length r.toNat plainF.2) 1000 (by omega)
  have c4 := run_outline V_T plainF plain_sm (lookupG plainF.1.length s.toNat plainF.2) 1000 (by omega)
  obtain ⟨l1, o1, g1, g2⟩ := plain_outline r.toNat
  obtain ⟨l2, o2, g3, g4⟩ := plain_outline s.toNat
  rw [o1] at c3
  rw [o2] at c4
  have c5 := run_right V_T plainF plain_ok
  rw [plain_right] at c5
  have c6 := run_rplain V_T
  have c7 := run_sameFont V_T plainF plainF plain_ok
  rw [decide_eq_true rfl] at c7
  have c8 := run_sameOls V_T (glyphOf r.toNat) (glyphOf s.toNat) (by omega) (fun o ho => by have := g2 o ho; omega)
  have c9 := run_big r
  have c10 := run_big s
  have hlk := looks r.toNat s.toNat
  generalize glyphOf r.toNat = A at *
  generalize glyphOf s.toNat = B at *
  generalize lookupG plainF.1.length r.toNat plainF.2 = K1 at *
  generalize lookupG plainF.1.length s.toNat plainF.2 = K2 at *
  generalize plainF = F at *
  refine run_wp (by rw [V_T]; exact rfl) ?_
  generalize r.toNat = rn at *
  generalize s.toNat = sn at *
  clear g2 g4 o1 o2
  by_cases h1 : 33 ≤ rn
  · by_cases h2 : rn ≤ 126
    · by_cases h3 : 33 ≤ sn
      · by_cases h4 : sn ≤ 126
        · have hk := hlk ⟨h1, h2⟩ ⟨h3, h4⟩
          by_cases h5 : A = B
          · have h6 := hk.1 h5
            rw [decide_eq_true h5] at c8
            rw [h6] at c9
            simp -dsimp -implicitDefEqProofs (maxSteps := 1000000) (disch := omega) [condP_pos, condP_neg, optP_pos, decide_eq_true, decide_eq_false, wrap_i64, Int.natCast_inj, run_awake, c0, c1, c2, c3, c4, c5, c6, c7, c8, c9, c10, h1, h2, h3, h4]
          · have h6 : ¬ bigG rn = bigG sn := fun e => h5 (hk.2 e)
            rw [decide_eq_false h5] at c8
            simp -dsimp -implicitDefEqProofs (maxSteps := 1000000) (disch := omega) [condP_pos, condP_neg, optP_pos, decide_eq_true, decide_eq_false, wrap_i64, Int.natCast_inj, run_awake, c0, c1, c2, c3, c4, c5, c6, c7, c8, c9, c10, h1, h2, h3, h4, h6]
        · simp -dsimp -implicitDefEqProofs (maxSteps := 1000000) (disch := omega) [condP_pos, condP_neg, optP_pos, decide_eq_true, decide_eq_false, wrap_i64, Int.natCast_inj, run_awake, c0, c1, c2, c3, c4, c5, c6, c7, c8, c9, c10, h1, h2, h3, h4]
      · simp -dsimp -implicitDefEqProofs (maxSteps := 1000000) (disch := omega) [condP_pos, condP_neg, optP_pos, decide_eq_true, decide_eq_false, wrap_i64, Int.natCast_inj, run_awake, c0, c1, c2, c3, c4, c5, c6, c7, c8, c9, c10, h1, h2, h3]
    · simp -dsimp -implicitDefEqProofs (maxSteps := 1000000) (disch := omega) [condP_pos, condP_neg, optP_pos, decide_eq_true, decide_eq_false, wrap_i64, Int.natCast_inj, run_awake, c0, c1, c2, c3, c4, c5, c6, c7, c8, c9, c10, h1, h2]
  · simp -dsimp -implicitDefEqProofs (maxSteps := 1000000) (disch := omega) [condP_pos, condP_neg, optP_pos, decide_eq_true, decide_eq_false, wrap_i64, Int.natCast_inj, run_awake, c0, c1, c2, c3, c4, c5, c6, c7, c8, c9, c10, h1]
end Go.Vai
