/-
  What functions of layer 9 and of its reference compute: equations of the abstract run, and plain laws of them.
-/
import Derived.Test.YthaaafdiilahjaaGreatDoorBKF
import Derived.Test.YthaaafdiilahjaaGreatDoorBW1
set_option linter.unusedVariables false
set_option linter.unusedSimpArgs false
set_option linter.unnecessarySimpa false
set_option linter.unusedSectionVars false
namespace Go.Vai
open Go.Proofs
theorem Ez_sound (m : Int) (e3 e4 : Value) (h3 : isIf e3) (h4 : isIf e4) : RFSound Tryz.prog (Gz m e3 e4) Ez := by
 refine fn_sound (fun f xs bl r bl' hf4 e => ?_) (fun f xs bl h => ?_)
 ·unfold Ez at e
  split at e
  ·rename_i s l
   split at e
   ·rename_i hc
    injection e with e; injection e with e1 e2; subst e1; subst e2
    exact ws_told l s hc
   ·cases e
  ·rename_i l
   split at e
   ·rename_i hc
    injection e with e; injection e with e1 e2; subst e1; subst e2
    exact bstr_told l hc
   ·cases e
  ·rename_i n es
   obtain ⟨l, hl, e⟩ := Option.bind_eq_some_iff.1 e
   split at e
   ·rename_i hc
    injection e with e; injection e with e1 e2; subst e1; subst e2
    rw [intsOf_some hl, hc.1]
    have := ints_turn (G := Gz m e3 e4) l hc.2
    simpa [scR, Function.comp_def] using this
   ·cases e
  ·injection e with e; injection e with e1 e2; subst e1; subst e2
   refine rf_of_calls fun C σ w vs hG hl hv => .inl ⟨enters112 _ _, ?_⟩
   match vs, hl with
   | [x], _ =>
    obtain rfl := (hv 0 _ x rfl rfl).sc_inv
    exact (Tryz.slices_Sort_int_none none 0 w).mono fun e w' ⟨he, hw⟩ => ⟨_, he, fun σ h => .tup [] [] rfl fun i x v e => by simp at e, hw ▸ Go.RowKit.Below.refl _ _⟩
  ·rename_i es c
   obtain ⟨l, hl, e⟩ := Option.bind_eq_some_iff.1 e
   split at e
   ·rename_i hc
    injection e with e; injection e with e1 e2; subst e1; subst e2
    obtain ⟨ps, rfl, rfl⟩ := celsOf_some hl
    have := run_cells35 (G := Gz m e3 e4) ps c hc.1 hc.2.1 (by simpa using hc.2.2)
    exact (env_sound (W1 (Gz m e3 e4)) mixed tok35 (E61_sound _)).fn 47 _ _ _ _ (by decide) this
   ·cases e
  ·exact E0_sound m e3 e4 h3 h4 _ _ _ _ _ hf4 e
 ·unfold Ez
  split <;> first | (exfalso; revert h; decide) | exact E0_hi _ _ _ h
end Go.Vai
