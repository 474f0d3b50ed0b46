/-
  What functions of layer 5 and of its reference compute: equations of the abstract run.
-/
import Derived.Test.YtfaomcaimppmeaaDoorVaZ
import Derived.Test.YtfaomcaimppmeaaDoorVaX
set_option linter.unusedVariables false
set_option linter.unusedSimpArgs false
set_option linter.unnecessarySimpa false
set_option linter.unusedSectionVars false
namespace Go.Vai
open Go.Proofs
/-! A copy of a row of pairs: whether an empty row is nil is not known, so the function is told by what it does. -/
theorem mixed : Tryd.prog.follows .mixedOrders = true := by kernel_rfl
def T66 : FuncId → Option LFunc := fun f => if f = 66 then some L66 else none
theorem tok66 : TOk Tryd.prog T66 := by
  intro f L h
  unfold T66 at h
  split at h
  · rename_i hf
    subst hf
    injection h with h; subst h; exact ⟨Tryd.f66, _, Tryd.func66, by kernel_rfl, comp66⟩
  · cases h
theorem take_all {α : Type} (l : List α) : l.take l.length = l := List.take_length
theorem run66a {v : Env} (hv : v.T = T66) (es : List (List FV)) (h1 : es ≠ []) (h2 : okSz 2 es = true) (h3 : es.length < 1000000000) : v.run 66 [.fz (.sl es)] [] = some (.fz (.sl es), []) := by
  have h4 : es.isEmpty = false := by cases es with
    | nil => exact absurd rfl h1
    | cons a b => rfl
  refine run_wp (by rw [hv]; exact rfl) ?_
  simp -dsimp -implicitDefEqProofs (maxSteps := 1000000) (disch := omega) [condP_pos, condP_neg, optP_pos, decide_eq_true, decide_eq_false, wrap_i64, Int.natCast_inj, h2, h4]
theorem run66b {v : Env} (hv : v.T = T66) (A : Option Addr) (c : Nat) : v.run 66 [.fz (.sc (.slice A 0 c))] [] = some (.fz (.sl []), []) := by
  refine run_wp (by rw [hv]; exact rfl) ?_
  cases A with
  | none => simp -dsimp -implicitDefEqProofs (maxSteps := 1000000) (disch := omega) [condP_pos, condP_neg, optP_pos, decide_eq_true, decide_eq_false, wrap_i64, Int.natCast_inj]
  | some a => simp -dsimp -implicitDefEqProofs (maxSteps := 1000000) (disch := omega) [condP_pos, condP_neg, optP_pos, decide_eq_true, decide_eq_false, wrap_i64, Int.natCast_inj]
def E66 : RF := fun f xs bl => if f = 66 then (match xs, bl with
  | [.fz (.sl es)], [] => if okSz 2 es = true ∧ es.length < 1000000000 then some (.fz (.sl es), []) else none
  | _, _ => none) else none
theorem E66_sound (G : Nat → Option (List FV)) : RFSound Tryd.prog G E66 := by
  intro f xs bl r bl' e
  unfold E66 at e
  split at e
  · rename_i hf
    subst hf
    split at e
    · rename_i es
      split at e
      · rename_i hc
        injection e with e
        injection e with e1 e2
        subst e1; subst e2
        have hS : ∀ n, RFSound Tryd.prog G (runN G T66 (fun _ _ _ => none) n) := runN_sound mixed tok66 noE_sound
        by_cases he : es = []
        · subst he
          refine ⟨Nat.le_refl _, fun C σ w vs hC hw hown hfr HR hl hv K hK => ?_⟩
          match vs, hl with
          | [u], _ =>
            have hu := hv 0 _ u rfl rfl
            obtain ⟨A, cap, rfl, _, _⟩ := hu.slc_slice
            have h := run66b (v := { G := G, T := T66, E := fun _ _ _ => none }) rfl A cap
            rw [Env.run_some] at h
            obtain ⟨n, hn⟩ := h
            refine (hS n _ _ _ _ _ hn).2 C σ w [.slice A 0 cap] hC hw hown hfr HR rfl (fun i x y e1 e2 => ?_) K hK
            match i with
            | 0 =>
              simp at e1 e2
              subst e1; subst e2
              exact .fz _ _ (.sc _ rfl)
            | n + 1 => simp at e1
        · have h := run66a (v := { G := G, T := T66, E := fun _ _ _ => none }) rfl es he hc.1 hc.2
          rw [Env.run_some] at h
          obtain ⟨n, hn⟩ := h
          exact hS n _ _ _ _ _ hn
      · cases e
    · cases e
  · cases e
end Go.Vai
