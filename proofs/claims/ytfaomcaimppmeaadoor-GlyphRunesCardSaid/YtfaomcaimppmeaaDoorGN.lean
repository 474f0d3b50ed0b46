/-
  The row of the law of runes.
-/
import Derived.Test.YtfaomcaimppmeaaDoorGg
import Derived.Test.YtfaomcaimppmeaaDoorGf
set_option linter.unusedVariables false
set_option linter.unusedSimpArgs false
set_option linter.unnecessarySimpa false
namespace Go.Vai
open Go.RowKit Go.ChangeShapes Go.WideShapes Go.Proofs Go.Proofs.YtfaomcaimppmeaaDoor
def tsGlyphRunes : List Ty := [.s]
theorem hrun_glyphRunes : ∀ xss : List (List FV), xss.length = tsGlyphRunes.length → (∀ (i : Nat) (T : Ty) (xs : List FV), tsGlyphRunes[i]? = some T → xss[i]? = some xs → HasT T xs) → ∃ bl, V.run 3 (List.zipWith argAV tsGlyphRunes xss) [] = some (.fz (.sc (.bool true)), bl) := by
  intro xss hl h
  match xss, hl with
  | [x0], _ =>
    obtain ⟨a0, rfl, h0⟩ := hasT_str (h 0 _ x0 rfl rfl)
    exact ⟨[], law_runes a0⟩
set_option maxRecDepth 100000 in
theorem lifted_glyphRunes (os : Os) (started : os.Started) (H : Type) (enc : TypeId × Value → H) :
    ReturnsInHanded {} Tryd.checked os 3 .any (fun w args => (Rows.glyphRunesSpec.pre enc Tryd.prog Tryd.f3 [] false w args ∧ laidMetH Tryd.prog laidL w) ∧ sizedMet enc Tryd.prog Tryd.f3 (OpenSpec.ofChange Rows.glyphRunesSpec) false w args)
      (Rows.glyphRunesSpec.post enc Tryd.prog Tryd.f3 false true false false) := by
  refine returnsInHanded_of_change_and (C := Tryd.checked) (X := fun w _ => laidMetH Tryd.prog laidL w) (fun _ _ _ hh h => h.of_heap hh) Tryd_own started (by kernel_rfl) Tryd.func3
    (ChangeSpec.witness_at (enc := enc) (C := Tryd.checked) (os := os) (X := fun w _ => laidMetH Tryd.prog laidL w) false (laidW os) #[.string ⟨#[]⟩] 8 rfl (by kernel_rfl) (by kernel_rfl) (by kernel_rfl) (by kernel_rfl) (by kernel_rfl) (laidW_met os _)) ?_
  intro W base args ds gs before hval hW _ hwt hL _
  exact contract_true V mixed tok noE_sound Tryd_laidOut Tryd.func3 (by kernel_rfl) rfl (Ts := tsGlyphRunes) (by kernel_rfl) (by
      intro i T t h1 h2
      rw [Tryd.params3] at h2
      match i with
      | 0 => simp [tsGlyphRunes] at h1 h2; subst h1; subst h2; exact ok_str
      | n + 1 => simp [tsGlyphRunes] at h1)
    (by
      intro t ht
      rw [Tryd.params3] at ht
      simp at ht
      subst ht
      exact ⟨by kernel_rfl, of_decide_eq_true (by kernel_rfl)⟩)
    rfl (tb := 4) (by kernel_rfl) (by kernel_rfl) (by
      intro ds hd
      match ds, hd with
      | [d0], _ => rfl)
    hrun_glyphRunes (gr_of_laid hL) hval hW hwt
end Go.Vai
