/-
  What functions of layer 5 and of its reference compute: equations of the abstract run.
-/
import Derived.Test.YtfaomcaimppmeaaDoorGB
set_option linter.unusedVariables false
set_option linter.unusedSimpArgs false
set_option linter.unnecessarySimpa false
set_option linter.unusedSectionVars false
namespace Go.Vai
/-! Lines. -/
theorem runesF_len : ∀ (n : Nat) (l : List UInt8), (runesF n l).length ≤ l.length
  | 0, _ => Nat.zero_le _
  | _ + 1, [] => Nat.le_refl _
  | n + 1, a :: r => by
    have hp := decG_pos a r
    have := runesF_len n ((a :: r).drop (decG (a :: r)).2)
    simp only [List.length_drop, List.length_cons] at this
    simp only [runesF]
    split <;> simp only [List.length_cons] <;> omega
theorem runesG_len (l : List UInt8) : (runesG l).length ≤ l.length := runesF_len _ _
theorem adv_b (f : Font) (k : Int) : -1048576 ≤ advance f k ∧ advance f k ≤ 1048576 := by
  unfold advance
  split
  · split
    · exact cut_b _
    · omega
  · omega
def lineF (f : Font) : Int → List Int → List Pc
  | _, [] => []
  | p, x :: r => (lookupG f.1.length x f.2, p, 0) :: lineF f (cut (p + advance f (lookupG f.1.length x f.2))) r
def lineE (f : Font) : Int → List Int → Int
  | p, [] => p
  | p, x :: r => lineE f (cut (p + advance f (lookupG f.1.length x f.2))) r
def lineG (f : Font) (l : List UInt8) : List Pc × Int := if f.1.length = 0 then ([], 0) else (lineF f 0 (runesG l), lineE f 0 (runesG l))
variable {v : Env} (hv : v.T = Tt) (hG0 : v.G 0 = some gFirst) (hG1 : v.G 1 = some gAcc)
include hv hG0 hG1
def S35 (f : Font) (x : List Int × List Int × List Pc × Int) : St :=
  { sl := [(2, .bp 0 0), (6, .osl 1 3 0 x.2.2.1.length), (7, i64 x.2.2.2), (16, rw_ ((x.1 ++ x.2.1).map eI)), (17, i64 (x.1 ++ x.2.1).length), (18, i64 x.1.length)],
    hp := [(0, some (.box [rw_ (f.1.map eGl), rw_ (f.2.map ePt)])), (1, some (.arr 3 (x.2.2.1.map ePc)))], nx := 2 }
set_option maxHeartbeats 1000000 in
theorem run_line (f : Font) (l : List UInt8) (hl : l.length < 1000000000) (h1 : f.1.length < 1000000000000) (h2 : f.2.length < 1000000000000) : v.run 35 [aFont f, bs l] [] = some (.tup [rw_ ((lineG f l).1.map ePc), i64 (lineG f l).2], []) := by
  have hLG : ¬ f.1.length = 0 → lineG f l = (lineF f 0 (runesG l), lineE f 0 (runesG l)) := fun h => by simp [lineG, h]
  have hr := run_runes hv hG0 hG1 l hl
  have hrl := runesG_len l
  by_cases h0 : f.1.length = 0
  · have hL0 : lineG f l = ([], 0) := by simp [lineG, h0]
    rw [hL0]
    refine run_wp (by rw [hv]; exact rfl) ?_
    simp -dsimp -implicitDefEqProofs (disch := omega) [condP_pos, condP_neg, optP_pos, decide_eq_true, decide_eq_false, wrap_i64, Int.natCast_inj, h0]
  · rw [hLG h0]
    refine run_wp (by rw [hv]; exact rfl) ?_
    have h00 : ¬ f.1 = [] := fun e => h0 (by rw [e]; rfl)
    simp -dsimp -implicitDefEqProofs (disch := omega) [condP_pos, condP_neg, optP_pos, decide_eq_true, decide_eq_false, wrap_i64, Int.natCast_inj, h0, hr]
    refine wp_inv (S35 f) (fun x => x.1 ++ x.2.1 = runesG l ∧ x.2.2.1.length = x.1.length ∧ (-1048576 ≤ x.2.2.2 ∧ x.2.2.2 ≤ 1048576) ∧ x.2.2.1 ++ lineF f x.2.2.2 x.2.1 = lineF f 0 (runesG l) ∧ lineE f x.2.2.2 x.2.1 = lineE f 0 (runesG l)) (fun x => x.2.1.length) ([], runesG l, [], 0) (by simp) (by simp -dsimp -implicitDefEqProofs (disch := omega) [condP_pos, condP_neg, optP_pos, decide_eq_true, decide_eq_false, wrap_i64, Int.natCast_inj, S35]) ?_
    rintro ⟨pre, rest, acc, p⟩ ⟨e1, e2, e3, e4, e5⟩
    simp only at e1 e2 e3 e4 e5
    have hlen : pre.length + rest.length ≤ l.length := by rw [← e1] at hrl; simpa using hrl
    rw [← e4, ← e5]
    cases rest with
    | nil => simp -dsimp -implicitDefEqProofs (disch := omega) [condP_pos, condP_neg, optP_pos, decide_eq_true, decide_eq_false, wrap_i64, Int.natCast_inj, S35, lineF, lineE]
    | cons x rest =>
      simp at hlen
      have hk := run_lookup hv f x h1 h2
      have ha := run_advance hv f (lookupG f.1.length x f.2)
      have hb := adv_b f (lookupG f.1.length x f.2)
      simp -dsimp -implicitDefEqProofs (disch := omega) [condP_pos, condP_neg, optP_pos, decide_eq_true, decide_eq_false, wrap_i64, Int.natCast_inj, S35, hk, ha, run_cut hv]
      refine again (pre ++ [x], rest, acc ++ [(lookupG f.1.length x f.2, p, 0)], cut (p + advance f (lookupG f.1.length x f.2))) ?_ ?_ ?_
      · refine ⟨by simpa using e1, by simp [e2], cut_b _, ?_, ?_⟩
        · simp [lineF]
        · simp [lineE]
      · simp
      · simp -dsimp -implicitDefEqProofs (disch := omega) [condP_pos, condP_neg, optP_pos, decide_eq_true, decide_eq_false, wrap_i64, Int.natCast_inj, S35, ePc, eI]
end Go.Vai
