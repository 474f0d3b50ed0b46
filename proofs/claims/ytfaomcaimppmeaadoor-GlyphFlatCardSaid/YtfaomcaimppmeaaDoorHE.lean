/-
  The row of the law of flat fonts.
-/
import Derived.Test.YtfaomcaimppmeaaDoorHq
import Derived.Test.YtfaomcaimppmeaaDoorGf
set_option linter.unusedVariables false
set_option linter.unusedSimpArgs false
set_option linter.unnecessarySimpa false
namespace Go.Vai
open Go.RowKit Go.ChangeShapes Go.WideShapes Go.Proofs Go.Proofs.YtfaomcaimppmeaaDoor
def tsGlyphFlat : List Ty := [tFont, .s]
theorem hrun_glyphFlat : ∀ xss : List (List FV), xss.length = tsGlyphFlat.length → (∀ (i : Nat) (T : Ty) (xs : List FV), tsGlyphFlat[i]? = some T → xss[i]? = some xs → HasT T xs) → ∃ bl, V.run 8 (List.zipWith argAV tsGlyphFlat xss) [] = some (.fz (.sc (.bool true)), bl) := by
  intro xss hl h
  match xss, hl with
  | [x0, x1], _ =>
    obtain ⟨a0, rfl, h0⟩ := hasT_font (h 0 _ x0 rfl rfl)
    obtain ⟨a1, rfl, h1⟩ := hasT_str (h 1 _ x1 rfl rfl)
    exact ⟨[], law_flat a0 a1 h0⟩
set_option maxRecDepth 100000 in
theorem lifted_glyphFlat (os : Os) (started : os.Started) (H : Type) (enc : TypeId × Value → H) :
    ReturnsInHanded {} Tryd.checked os 8 .any (fun w args => (Rows.glyphFlatSpec.pre enc Tryd.prog Tryd.f8 [] false w args ∧ laidMetH Tryd.prog laidL w) ∧ sizedMet enc Tryd.prog Tryd.f8 (OpenSpec.ofChange Rows.glyphFlatSpec) false w args)
      (Rows.glyphFlatSpec.post enc Tryd.prog Tryd.f8 false true false false) := by
  refine returnsInHanded_of_change_and (C := Tryd.checked) (X := fun w _ => laidMetH Tryd.prog laidL w) (fun _ _ _ hh h => h.of_heap hh) Tryd_own started (by kernel_rfl) Tryd.func8
    (ChangeSpec.witness_at (enc := enc) (C := Tryd.checked) (os := os) (X := fun w _ => laidMetH Tryd.prog laidL w) false (laidW os) #[.agg #[.slice none 0 0, .slice none 0 0], .string ⟨#[]⟩] 8 rfl (by kernel_rfl) (by kernel_rfl) (by kernel_rfl) (by kernel_rfl) (by kernel_rfl) (laidW_met os _)) ?_
  intro W base args ds gs before hval hW _ hwt hL _
  exact contract_true V mixed tok (E66_sound _) Tryd_laidOut Tryd.func8 (by kernel_rfl) rfl (Ts := tsGlyphFlat) (by kernel_rfl) (by
      intro i T t h1 h2
      rw [Tryd.params8] at h2
      match i with
      | 0 => simp [tsGlyphFlat] at h1 h2; subst h1; subst h2; exact ok_font
      | 1 => simp [tsGlyphFlat] at h1 h2; subst h1; subst h2; exact ok_str
      | n + 2 => simp [tsGlyphFlat] at h1)
    (by
      intro t ht
      rw [Tryd.params8] at ht
      simp at ht
      rcases ht with rfl | rfl <;> exact ⟨by kernel_rfl, of_decide_eq_true (by kernel_rfl)⟩)
    rfl (tb := 4) (by kernel_rfl) (by kernel_rfl) (by
      intro ds hd
      match ds, hd with
      | [d0, d1], _ => rfl)
    hrun_glyphFlat (gr_of_laid hL) hval hW hwt
end Go.Vai
