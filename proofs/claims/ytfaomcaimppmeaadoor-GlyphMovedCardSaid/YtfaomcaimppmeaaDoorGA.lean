/-
  What functions of layer 5 and of its reference compute: equations of the abstract run.
-/
import Derived.Test.YtfaomcaimppmeaaDoorG9
set_option linter.unusedVariables false
set_option linter.unusedSimpArgs false
set_option linter.unnecessarySimpa false
set_option linter.unusedSectionVars false
namespace Go.Vai
theorem decG_pos (a : UInt8) (r : List UInt8) : 1 ≤ (decG (a :: r)).2 := by
  simp only [decG]
  (repeat' split) <;> simp
theorem decG_le (a : UInt8) (r : List UInt8) : (decG (a :: r)).2 ≤ r.length + 1 := by
  simp only [decG]
  (repeat' split) <;> simp
theorem decG_rng (a : UInt8) (r : List UInt8) : 0 ≤ (decG (a :: r)).1 ∧ (decG (a :: r)).1 ≤ 1114111 := by
  have := u8_lt a
  simp only [decG]
  (repeat' split) <;> simp only <;> omega
def mapR (x : Int) : Int := if x = 9 ∨ x = 10 ∨ x = 13 ∨ x = 160 then 32 else x
def runesF : Nat → List UInt8 → List Int
  | 0, _ => []
  | _ + 1, [] => []
  | n + 1, a :: r => if hidG (mapR (decG (a :: r)).1) = true then runesF n ((a :: r).drop (decG (a :: r)).2) else mapR (decG (a :: r)).1 :: runesF n ((a :: r).drop (decG (a :: r)).2)
theorem runesF_fuel : ∀ (n m : Nat) (l : List UInt8), l.length ≤ n → l.length ≤ m → runesF n l = runesF m l
  | 0, m, l, h, _ => by
    obtain rfl : l = [] := List.eq_nil_of_length_eq_zero (by omega)
    cases m <;> rfl
  | n + 1, 0, l, _, h => by
    obtain rfl : l = [] := List.eq_nil_of_length_eq_zero (by omega)
    rfl
  | n + 1, m + 1, [], _, _ => rfl
  | n + 1, m + 1, a :: r, h1, h2 => by
    have hp := decG_pos a r
    have := runesF_fuel n m ((a :: r).drop (decG (a :: r)).2) (by simp at *; omega) (by simp at *; omega)
    simp only [runesF, this]
def runesG (l : List UInt8) : List Int := runesF l.length l
theorem runesG_nil : runesG [] = [] := rfl
theorem runesG_cons (a : UInt8) (r : List UInt8) : runesG (a :: r) = if hidG (mapR (decG (a :: r)).1) = true then runesG ((a :: r).drop (decG (a :: r)).2) else mapR (decG (a :: r)).1 :: runesG ((a :: r).drop (decG (a :: r)).2) := by
  have hp := decG_pos a r
  unfold runesG
  rw [List.length_cons]
  simp only [runesF]
  rw [runesF_fuel r.length ((a :: r).drop (decG (a :: r)).2).length _ (by simp; omega) (Nat.le_refl _)]
def eI (x : Int) : List FV := [.sc (.int .i64 x)]
@[simp] theorem eI_len (x : Int) : (eI x).length = 1 := rfl
@[simp] theorem eI_map {β : Type} (f : FV → β) (x : Int) : (eI x).map f = [f (.sc (.int .i64 x))] := rfl
variable {v : Env} (hv : v.T = Tt) (hG0 : v.G 0 = some gFirst) (hG1 : v.G 1 = some gAcc)
include hv hG0 hG1
theorem run_decode (a : UInt8) (r : List UInt8) (hl : r.length < 1000000000) : v.run 53 [bs (a :: r)] [] = some (.tup [i32 (decG (a :: r)).1, i64 (decG (a :: r)).2], []) := by
  refine run_wp (by rw [hv]; exact rfl) ?_
  have ha' := u8_lt a
  by_cases h : a.toNat < 128
  · have hd : decG (a :: r) = ((a.toNat : Int), 1) := by simp [decG, h]
    simp -dsimp -implicitDefEqProofs (disch := omega) [condP_pos, condP_neg, optP_pos, decide_eq_true, decide_eq_false, wrap_i64, Int.natCast_inj, hd, wrap_i32]
  · simp -dsimp -implicitDefEqProofs (disch := omega) [condP_pos, condP_neg, optP_pos, decide_eq_true, decide_eq_false, wrap_i64, Int.natCast_inj, run_slow hv hG0 hG1 a r hl (by omega)]
def S15 (x : List Int × List UInt8) : St :=
  { sl := [(0, bs x.2), (3, .osl 0 1 0 x.1.length)], hp := [(0, some (.arr 1 (x.1.map eI)))], nx := 1 }
set_option maxHeartbeats 1000000 in
theorem run_runes (l : List UInt8) (hl : l.length < 1000000000) : v.run 15 [bs l] [] = some (rw_ ((runesG l).map eI), []) := by
  refine run_wp (by rw [hv]; exact rfl) ?_
  simp -dsimp -implicitDefEqProofs (disch := omega) [condP_pos, condP_neg, optP_pos, decide_eq_true, decide_eq_false, wrap_i64, Int.natCast_inj]
  refine wp_inv S15 (fun x => x.1 ++ runesG x.2 = runesG l ∧ x.1.length + x.2.length ≤ l.length) (fun x => x.2.length) ([], l) (by simp) (by simp -dsimp -implicitDefEqProofs (disch := omega) [condP_pos, condP_neg, optP_pos, decide_eq_true, decide_eq_false, wrap_i64, Int.natCast_inj, S15]) ?_
  rintro ⟨acc, rest⟩ ⟨h1, h2⟩
  simp only at h1 h2
  rw [← h1]
  cases rest with
  | nil => simp -dsimp -implicitDefEqProofs (disch := omega) [condP_pos, condP_neg, optP_pos, decide_eq_true, decide_eq_false, wrap_i64, Int.natCast_inj, S15, runesG_nil]
  | cons a r =>
    simp at h2
    have hd := run_decode hv hG0 hG1 a r (by omega)
    have hp := decG_pos a r
    have hle := decG_le a r
    have hr := decG_rng a r
    rw [runesG_cons] at h1 ⊢
    generalize hD : decG (a :: r) = D at *
    obtain ⟨x, n⟩ := D
    simp only at hp hle hr h1 ⊢
    have ht : (l.length : Int) < 1000000000 := by omega
    have hlen : ((a :: r).drop n).length = r.length + 1 - n := by simp
    by_cases hx : x = 9 ∨ x = 10 ∨ x = 13 ∨ x = 160
    · have hm : mapR x = 32 := by simp [mapR, hx]
      have hh : hidG 32 = false := by decide
      rw [hm, hh] at h1
      rw [hm, hh]
      have hrh := run_hidden hv 32
      rw [hh] at hrh
      rcases hx with rfl | rfl | rfl | rfl <;>
      · simp -dsimp -implicitDefEqProofs (disch := omega) [condP_pos, condP_neg, optP_pos, decide_eq_true, decide_eq_false, wrap_i64, Int.natCast_inj, S15, hd, hrh]
        refine again (acc ++ [32], (a :: r).drop n) ?_ ?_ ?_
        · refine ⟨by simpa using h1, ?_⟩
          simp only [hlen]; simp; omega
        · simp only [hlen]; simp; omega
        · simp -dsimp -implicitDefEqProofs (disch := omega) [condP_pos, condP_neg, optP_pos, decide_eq_true, decide_eq_false, wrap_i64, Int.natCast_inj, S15, eI]
    · have hm : mapR x = x := by simp [mapR, hx]
      rw [hm] at h1
      rw [hm]
      have hrh := run_hidden hv x
      have n1 : ¬ x = 9 := fun e => hx (by simp [e])
      have n2 : ¬ x = 10 := fun e => hx (by simp [e])
      have n3 : ¬ x = 13 := fun e => hx (by simp [e])
      have n4 : ¬ x = 160 := fun e => hx (by simp [e])
      cases hh : hidG x with
      | true =>
        rw [hh] at h1 hrh
        simp -dsimp -implicitDefEqProofs (disch := omega) [condP_pos, condP_neg, optP_pos, decide_eq_true, decide_eq_false, wrap_i64, Int.natCast_inj, S15, hd, hrh, n1, n2, n3, n4]
        refine again (acc, (a :: r).drop n) ?_ ?_ ?_
        · refine ⟨by simpa using h1, ?_⟩
          simp only [hlen]; omega
        · simp only [hlen]; simp; omega
        · simp -dsimp -implicitDefEqProofs (disch := omega) [condP_pos, condP_neg, optP_pos, decide_eq_true, decide_eq_false, wrap_i64, Int.natCast_inj, S15, eI]
      | false =>
        rw [hh] at h1 hrh
        simp -dsimp -implicitDefEqProofs (disch := omega) [condP_pos, condP_neg, optP_pos, decide_eq_true, decide_eq_false, wrap_i64, Int.natCast_inj, S15, hd, hrh, n1, n2, n3, n4]
        refine again (acc ++ [x], (a :: r).drop n) ?_ ?_ ?_
        · refine ⟨by simpa using h1, ?_⟩
          simp only [hlen]; simp; omega
        · simp only [hlen]; simp; omega
        · simp -dsimp -implicitDefEqProofs (disch := omega) [condP_pos, condP_neg, optP_pos, decide_eq_true, decide_eq_false, wrap_i64, Int.natCast_inj, S15, eI]
end Go.Vai
