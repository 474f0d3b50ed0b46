/-
  What functions of layer 5 and of its reference compute: equations of the abstract run.
-/
import Derived.Test.YtfaomcaimppmeaaDoorGg
set_option linter.unusedVariables false
set_option linter.unusedSimpArgs false
set_option linter.unnecessarySimpa false
set_option linter.unusedSectionVars false
namespace Go.Vai
/-! Hidden runes between two texts. -/
def encR (r : Int) : List UInt8 := (Utf8.encode r).data.toList
theorem encode_mkB (r : Int) : Utf8.encode r = mkB (encR r) := (mkB_data _).symm
def hidC (r : Int) : Bool := decide (0 ≤ r) && decide (r ≤ 1114111) && hidG r && !decide (r = 9) && !decide (r = 10) && !decide (r = 13)
theorem hidC_iff (r : Int) : hidC r = true ↔ 0 ≤ r ∧ r ≤ 1114111 ∧ hidG r = true ∧ r ≠ 9 ∧ r ≠ 10 ∧ r ≠ 13 := by simp [hidC, and_assoc]
def betw : List Int → List UInt8
  | [] => []
  | r :: l => if hidC r = true then encR r ++ betw l else betw l
theorem betw_app : ∀ (a b : List Int), betw (a ++ b) = betw a ++ betw b
  | [], b => rfl
  | r :: a, b => by
    simp only [List.cons_append, betw, betw_app a b]
    split <;> simp
theorem encR_len (r : Int) : (encR r).length ≤ 4 := by
  unfold encR Utf8.encode
  simp only
  (repeat' split) <;> simp
theorem betw_len : ∀ (l : List Int), (betw l).length ≤ 4 * l.length
  | [] => by simp [betw]
  | r :: l => by
    have h1 := encR_len r
    have h2 := betw_len l
    simp only [betw, List.length_cons]
    split
    · simp; omega
    · omega
def notC (l : List UInt8) : Prop := ∀ (b : UInt8) (r : List UInt8), l = b :: r → b.toNat < 128 ∨ 192 ≤ b.toNat
theorem dec_enc (r : Int) (h : hidC r = true) (x : List UInt8) : decG (encR r ++ x) = (r, (encR r).length) ∧ notC (encR r ++ x) ∧ encR r ≠ [] := by
  obtain ⟨h1, h2, h3, _⟩ := (hidC_iff r).1 h
  rw [hidG_iff] at h3
  have hv : Utf8.valid r = true := by simp [Utf8.valid]; omega
  have ho : ∀ n : Nat, n < 256 → (UInt8.ofNat n).toNat = n := fun n hn => by simp; omega
  unfold encR Utf8.encode notC
  simp only [hv, if_true]
  generalize hn : r.toNat = n
  have hr : r = n := by omega
  subst hr
  by_cases c1 : n < 128
  · rw [if_pos c1]
    have a1 := ho n (by omega)
    generalize UInt8.ofNat n = b1 at *
    refine ⟨?_, fun b r e => ?_, by simp⟩
    · simp only [List.cons_append, List.nil_append, decG]
      rw [if_pos (by omega)]
      simp; omega
    · simp at e; rw [← e.1]; omega
  · rw [if_neg c1]
    by_cases c2 : n < 2048
    · rw [if_pos c2]
      have a1 := ho (0xC0 + n / 64) (by omega)
      have a2 := ho (0x80 + n % 64) (by omega)
      generalize UInt8.ofNat (0xC0 + n / 64) = b1 at *
      generalize UInt8.ofNat (0x80 + n % 64) = b2 at *
      refine ⟨?_, fun b r e => ?_, by simp⟩
      · simp only [List.cons_append, List.nil_append, decG]
        rw [if_neg (by omega), if_pos (by omega)]
        simp; omega
      · simp at e; rw [← e.1]; omega
    · rw [if_neg c2]
      by_cases c3 : n < 65536
      · rw [if_pos c3]
        have a1 := ho (0xE0 + n / 4096) (by omega)
        have a2 := ho (0x80 + n / 64 % 64) (by omega)
        have a3 := ho (0x80 + n % 64) (by omega)
        generalize UInt8.ofNat (0xE0 + n / 4096) = b1 at *
        generalize UInt8.ofNat (0x80 + n / 64 % 64) = b2 at *
        generalize UInt8.ofNat (0x80 + n % 64) = b3 at *
        refine ⟨?_, fun b r e => ?_, by simp⟩
        · simp only [List.cons_append, List.nil_append, decG]
          rw [if_neg (by omega), if_neg (by omega), if_pos (by omega)]
          simp; omega
        · simp at e; rw [← e.1]; omega
      · rw [if_neg c3]
        have a1 := ho (0xF0 + n / 262144) (by omega)
        have a2 := ho (0x80 + n / 4096 % 64) (by omega)
        have a3 := ho (0x80 + n / 64 % 64) (by omega)
        have a4 := ho (0x80 + n % 64) (by omega)
        generalize UInt8.ofNat (0xF0 + n / 262144) = b1 at *
        generalize UInt8.ofNat (0x80 + n / 4096 % 64) = b2 at *
        generalize UInt8.ofNat (0x80 + n / 64 % 64) = b3 at *
        generalize UInt8.ofNat (0x80 + n % 64) = b4 at *
        refine ⟨?_, fun b r e => ?_, by simp⟩
        · simp only [List.cons_append, List.nil_append, decG]
          rw [if_neg (by omega), if_neg (by omega), if_neg (by omega), if_pos (by omega)]
          simp; omega
        · simp at e; rw [← e.1]; omega
theorem dec_app (a : UInt8) (r y : List UInt8) (hy : notC y) : decG (a :: (r ++ y)) = decG (a :: r) := by
  match r with
  | [] =>
    match y with
    | [] => rfl
    | b :: y =>
      have hb := hy b y rfl
      simp only [List.nil_append, decG]
      (repeat' split) <;> first | rfl | (exfalso; omega)
  | [b] =>
    match y with
    | [] => rfl
    | c :: y =>
      have hb := hy c y rfl
      simp only [List.cons_append, List.nil_append, decG]
      (repeat' split) <;> first | rfl | (exfalso; omega)
  | [b, c] =>
    match y with
    | [] => rfl
    | d :: y =>
      have hb := hy d y rfl
      simp only [List.cons_append, List.nil_append, decG]
      (repeat' split) <;> first | rfl | (exfalso; omega)
  | b :: c :: d :: r => rfl
theorem runesG_app : ∀ (n : Nat) (s y : List UInt8), s.length ≤ n → notC y → runesG (s ++ y) = runesG s ++ runesG y
  | _, [], y, _, _ => by simp [runesG_nil]
  | 0, a :: r, y, h, _ => by simp at h
  | n + 1, a :: r, y, h, hy => by
    have hp := decG_pos a r
    have hle := decG_le a r
    simp only [List.length_cons] at h
    rw [List.cons_append, runesG_cons, runesG_cons, dec_app a r y hy]
    have hd : (a :: (r ++ y)).drop (decG (a :: r)).2 = (a :: r).drop (decG (a :: r)).2 ++ y := by
      rw [← List.cons_append, List.drop_append_of_le_length (by simp; omega)]
    rw [hd, runesG_app n _ y (by simp; omega) hy]
    split <;> simp
theorem betw_ok : ∀ (l : List Int) (t : List UInt8), (betw l = [] ∨ notC (betw l ++ t)) ∧ runesG (betw l ++ t) = runesG t
  | [], t => ⟨.inl rfl, rfl⟩
  | r :: l, t => by
    obtain ⟨i1, i2⟩ := betw_ok l t
    simp only [betw]
    split
    · rename_i h
      obtain ⟨d1, d2, d3⟩ := dec_enc r h (betw l ++ t)
      rw [List.append_assoc]
      refine ⟨.inr d2, ?_⟩
      cases he : encR r with
      | nil => exact absurd he d3
      | cons a z =>
        rw [he] at d1
        rw [List.cons_append] at d1 ⊢
        rw [runesG_cons, d1]
        simp only
        obtain ⟨h1, h2, h3, h4, h5, h6⟩ := (hidC_iff r).1 h
        have hm : mapR r = r := by
          unfold mapR
          rw [if_neg]
          rintro (e | e | e | e)
          · exact h4 e
          · exact h5 e
          · exact h6 e
          · rw [hidG_iff] at h3; omega
        rw [hm, if_pos h3, ← List.cons_append, List.drop_left, i2]
    · exact ⟨i1, i2⟩
theorem runes_between (s t : List UInt8) (l : List Int) (h : betw l ≠ []) : runesG (s ++ betw l ++ t) = runesG s ++ runesG t := by
  obtain ⟨h1, h2⟩ := betw_ok l t
  rcases h1 with h1 | h1
  · exact absurd h1 h
  · rw [List.append_assoc, runesG_app s.length s _ (Nat.le_refl _) h1, h2]
end Go.Vai

set_option linter.unusedVariables false
set_option linter.unusedSimpArgs false
set_option linter.unnecessarySimpa false
set_option linter.unusedSectionVars false
namespace Go.Vai
/-! The law of hidden runes. -/
def S4 (s t : List UInt8) (a : List Int × List Int) : St :=
  { sl := [(0, bs s), (1, bs t), (2, rw_ ((a.1 ++ a.2).map eI)), (7, bo true), (8, bs (betw a.1)), (9, i64 a.1.length)], hp := [], nx := 0 }
def T4 (A B : List Int) (i : Nat) : St :=
  { sl := [(7, bo true), (11, rw_ (A.map eI)), (12, rw_ (B.map eI)), (13, rw_ (A.map eI ++ B.map eI)), (14, i64 i)], hp := [], nx := 0 }
theorem betw_one (a : List Int) (x : Int) : betw (a ++ [x]) = betw a ++ if hidC x = true then encR x else [] := by
  rw [betw_app]; simp [betw]
set_option maxHeartbeats 1000000 in
theorem law_hidden (s t : List UInt8) (h : List Int) : V.run 4 [bs s, bs t, rw_ (h.map eI)] [] = some (bo true, []) := by
  refine run_wp (by rw [V_T]; exact rfl) ?_
  by_cases h1 : s.length ≤ 1000
  · by_cases h2 : t.length ≤ 1000
    · by_cases h3 : h.length ≤ 100
      · simp -dsimp -implicitDefEqProofs (maxSteps := 1000000) (disch := omega) [condP_pos, condP_neg, optP_pos, decide_eq_true, decide_eq_false, wrap_i64, Int.natCast_inj, run_awake, h1, h2, h3]
        refine wp_inv (S4 s t) (fun a => a.1 ++ a.2 = h) (fun a => a.2.length) ([], h) (by simp) (by simp -dsimp -implicitDefEqProofs (maxSteps := 1000000) (disch := omega) [condP_pos, condP_neg, optP_pos, decide_eq_true, decide_eq_false, wrap_i64, Int.natCast_inj, S4, betw, mk_mkB]) ?_
        rintro ⟨pre, rest⟩ rfl
        have hbl := betw_len pre
        cases rest with
        | cons x rest =>
          simp at h3
          by_cases c1 : 0 ≤ x
          · have hrh := run_rhidden V_T x c1
            by_cases c2 : x ≤ 1114111
            · by_cases c3 : hidG x = true
              · rw [c3] at hrh
                by_cases c4 : x = 9
                · have hb : betw (pre ++ [x]) = betw pre := by rw [betw_one]; simp [hidC, c4]
                  subst c4
                  simp -dsimp -implicitDefEqProofs (maxSteps := 1000000) (disch := omega) [condP_pos, condP_neg, optP_pos, decide_eq_true, decide_eq_false, wrap_i64, Int.natCast_inj, S4, c1, c2, hrh]
                  refine again (pre ++ [9], rest) (by simp) (by simp) ?_
                  simp -dsimp -implicitDefEqProofs (maxSteps := 1000000) (disch := omega) [condP_pos, condP_neg, optP_pos, decide_eq_true, decide_eq_false, wrap_i64, Int.natCast_inj, S4, hb]
                · by_cases c5 : x = 10
                  · have hb : betw (pre ++ [x]) = betw pre := by rw [betw_one]; simp [hidC, c5]
                    subst c5
                    simp -dsimp -implicitDefEqProofs (maxSteps := 1000000) (disch := omega) [condP_pos, condP_neg, optP_pos, decide_eq_true, decide_eq_false, wrap_i64, Int.natCast_inj, S4, c1, c2, hrh, c4]
                    refine again (pre ++ [10], rest) (by simp) (by simp) ?_
                    simp -dsimp -implicitDefEqProofs (maxSteps := 1000000) (disch := omega) [condP_pos, condP_neg, optP_pos, decide_eq_true, decide_eq_false, wrap_i64, Int.natCast_inj, S4, hb]
                  · by_cases c6 : x = 13
                    · have hb : betw (pre ++ [x]) = betw pre := by rw [betw_one]; simp [hidC, c6]
                      subst c6
                      simp -dsimp -implicitDefEqProofs (maxSteps := 1000000) (disch := omega) [condP_pos, condP_neg, optP_pos, decide_eq_true, decide_eq_false, wrap_i64, Int.natCast_inj, S4, c1, c2, hrh, c4, c5]
                      refine again (pre ++ [13], rest) (by simp) (by simp) ?_
                      simp -dsimp -implicitDefEqProofs (maxSteps := 1000000) (disch := omega) [condP_pos, condP_neg, optP_pos, decide_eq_true, decide_eq_false, wrap_i64, Int.natCast_inj, S4, hb]
                    · have hb : betw (pre ++ [x]) = betw pre ++ encR x := by rw [betw_one, (hidC_iff x).2 ⟨c1, c2, c3, c4, c5, c6⟩]; rfl
                      have hel := encR_len x
                      simp -dsimp -implicitDefEqProofs (maxSteps := 1000000) (disch := omega) [condP_pos, condP_neg, optP_pos, decide_eq_true, decide_eq_false, wrap_i64, Int.natCast_inj, if_pos, if_neg, S4, c1, c2, hrh, c4, c5, c6, wrap_i32, encode_mkB]
                      refine again (pre ++ [x], rest) (by simp) (by simp) ?_
                      simp -dsimp -implicitDefEqProofs (maxSteps := 1000000) (disch := omega) [condP_pos, condP_neg, optP_pos, decide_eq_true, decide_eq_false, wrap_i64, Int.natCast_inj, S4, hb]
              · have c3' : hidG x = false := by simpa using c3
                rw [c3'] at hrh
                have hb : betw (pre ++ [x]) = betw pre := by rw [betw_one]; simp [hidC, c3']
                simp -dsimp -implicitDefEqProofs (maxSteps := 1000000) (disch := omega) [condP_pos, condP_neg, optP_pos, decide_eq_true, decide_eq_false, wrap_i64, Int.natCast_inj, S4, c1, c2, hrh]
                refine again (pre ++ [x], rest) (by simp) (by simp) ?_
                simp -dsimp -implicitDefEqProofs (maxSteps := 1000000) (disch := omega) [condP_pos, condP_neg, optP_pos, decide_eq_true, decide_eq_false, wrap_i64, Int.natCast_inj, S4, hb]
            · have hb : betw (pre ++ [x]) = betw pre := by rw [betw_one]; simp [hidC, c2]
              simp -dsimp -implicitDefEqProofs (maxSteps := 1000000) (disch := omega) [condP_pos, condP_neg, optP_pos, decide_eq_true, decide_eq_false, wrap_i64, Int.natCast_inj, S4, c1, c2]
              refine again (pre ++ [x], rest) (by simp) (by simp) ?_
              simp -dsimp -implicitDefEqProofs (maxSteps := 1000000) (disch := omega) [condP_pos, condP_neg, optP_pos, decide_eq_true, decide_eq_false, wrap_i64, Int.natCast_inj, S4, hb]
          · have hb : betw (pre ++ [x]) = betw pre := by rw [betw_one]; simp [hidC, c1]
            simp -dsimp -implicitDefEqProofs (maxSteps := 1000000) (disch := omega) [condP_pos, condP_neg, optP_pos, decide_eq_true, decide_eq_false, wrap_i64, Int.natCast_inj, S4, c1]
            refine again (pre ++ [x], rest) (by simp) (by simp) ?_
            simp -dsimp -implicitDefEqProofs (maxSteps := 1000000) (disch := omega) [condP_pos, condP_neg, optP_pos, decide_eq_true, decide_eq_false, wrap_i64, Int.natCast_inj, S4, hb]
        | nil =>
          simp at h3
          have r1 := run_runes V_T V_G0 V_G1 s (by omega)
          have r2 := run_runes V_T V_G0 V_G1 t (by omega)
          have r3 := run_runes V_T V_G0 V_G1 (s ++ betw pre ++ t) (by simp; omega)
          simp only [List.append_assoc] at r3
          by_cases hb : betw pre = []
          · rw [hb, List.nil_append] at r3
            simp -dsimp -implicitDefEqProofs (maxSteps := 1000000) (disch := omega) [condP_pos, condP_neg, optP_pos, decide_eq_true, decide_eq_false, wrap_i64, Int.natCast_inj, if_pos, if_neg, S4, r1, r2, r3, hb, mk_mkB]
          · have hr := runes_between s t pre hb
            simp only [List.append_assoc] at hr
            rw [hr] at r3
            have l1 := runesG_len s
            have l2 := runesG_len t
            generalize runesG s = A at *
            generalize runesG t = B at *
            simp -dsimp -implicitDefEqProofs (maxSteps := 1000000) (disch := omega) [condP_pos, condP_neg, optP_pos, decide_eq_true, decide_eq_false, wrap_i64, Int.natCast_inj, if_pos, if_neg, S4, r1, r2, r3, hb, mk_mkB]
            refine wp_inv (T4 A B) (fun i => i ≤ A.length + B.length) (fun i => A.length + B.length - i) 0 (by simp) (by simp -dsimp -implicitDefEqProofs (maxSteps := 1000000) (disch := omega) [condP_pos, condP_neg, optP_pos, decide_eq_true, decide_eq_false, wrap_i64, Int.natCast_inj, T4]) ?_
            intro i hi
            by_cases e1 : i < A.length
            · obtain ⟨x, hx⟩ : ∃ x, A[i] = x := ⟨_, rfl⟩
              have g1 : (A.map eI ++ B.map eI)[i]? = some (eI x) := by rw [List.getElem?_append_left (by simpa using e1)]; simp [e1, hx]
              simp -dsimp -implicitDefEqProofs (maxSteps := 1000000) (disch := omega) [condP_pos, condP_neg, optP_pos, decide_eq_true, decide_eq_false, wrap_i64, Int.natCast_inj, T4, e1, hx, g1]
              refine again (i + 1) (by omega) (by omega) ?_
              simp -dsimp -implicitDefEqProofs (maxSteps := 1000000) (disch := omega) [condP_pos, condP_neg, optP_pos, decide_eq_true, decide_eq_false, wrap_i64, Int.natCast_inj, T4]
            · by_cases e2 : i < A.length + B.length
              · obtain ⟨x, hx⟩ : ∃ x, B[i - A.length] = x := ⟨_, rfl⟩
                have g1 : (A.map eI ++ B.map eI)[i]? = some (eI x) := by 
                  rw [List.getElem?_append_right (by simpa using e1)]
                  have hi2 : i - A.length < B.length := by omega
                  simp [hx, hi2]
                have tn : ((i : Int) - A.length).toNat = i - A.length := by omega
                simp -dsimp -implicitDefEqProofs (maxSteps := 1000000) (disch := omega) [condP_pos, condP_neg, optP_pos, decide_eq_true, decide_eq_false, wrap_i64, Int.natCast_inj, T4, e1, e2, hx, g1, tn]
                refine again (i + 1) (by omega) (by omega) ?_
                simp -dsimp -implicitDefEqProofs (maxSteps := 1000000) (disch := omega) [condP_pos, condP_neg, optP_pos, decide_eq_true, decide_eq_false, wrap_i64, Int.natCast_inj, T4]
              · simp -dsimp -implicitDefEqProofs (maxSteps := 1000000) (disch := omega) [condP_pos, condP_neg, optP_pos, decide_eq_true, decide_eq_false, wrap_i64, Int.natCast_inj, T4, e1, e2]
      · simp -dsimp -implicitDefEqProofs (maxSteps := 1000000) (disch := omega) [condP_pos, condP_neg, optP_pos, decide_eq_true, decide_eq_false, wrap_i64, Int.natCast_inj, run_awake, h1, h2, h3]
    · simp -dsimp -implicitDefEqProofs (maxSteps := 1000000) (disch := omega) [condP_pos, condP_neg, optP_pos, decide_eq_true, decide_eq_false, wrap_i64, Int.natCast_inj, run_awake, h1, h2]
  · simp -dsimp -implicitDefEqProofs (maxSteps := 1000000) (disch := omega) [condP_pos, condP_neg, optP_pos, decide_eq_true, decide_eq_false, wrap_i64, Int.natCast_inj, run_awake, h1]
end Go.Vai
