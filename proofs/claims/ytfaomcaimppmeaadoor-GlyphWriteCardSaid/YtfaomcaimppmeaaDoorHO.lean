/-
  The row of the law of writing.
-/
import Derived.Test.YtfaomcaimppmeaaDoorHN
import Derived.Test.YtfaomcaimppmeaaDoorGf
set_option linter.unusedVariables false
set_option linter.unusedSimpArgs false
set_option linter.unnecessarySimpa false
namespace Go.Vai
open Go.RowKit Go.ChangeShapes Go.WideShapes Go.Proofs Go.Proofs.YtfaomcaimppmeaaDoor
def tsGlyphWrite : List Ty := [tFont]
theorem hrun_glyphWrite : ∀ xss : List (List FV), xss.length = tsGlyphWrite.length → (∀ (i : Nat) (T : Ty) (xs : List FV), tsGlyphWrite[i]? = some T → xss[i]? = some xs → HasT T xs) → ∃ bl, V.run 10 (List.zipWith argAV tsGlyphWrite xss) [] = some (.fz (.sc (.bool true)), bl) := by
  intro xss hl h
  match xss, hl with
  | [x0], _ =>
    obtain ⟨a0, rfl, h0⟩ := hasT_font (h 0 _ x0 rfl rfl)
    exact ⟨[], law_write a0 h0⟩
set_option maxRecDepth 100000 in
theorem lifted_glyphWrite (os : Os) (started : os.Started) (H : Type) (enc : TypeId × Value → H) :
    ReturnsInHanded {} Tryd.checked os 10 .any (fun w args => (Rows.glyphWriteSpec.pre enc Tryd.prog Tryd.f10 [] false w args ∧ laidMetH Tryd.prog laidL w) ∧ sizedMet enc Tryd.prog Tryd.f10 (OpenSpec.ofChange Rows.glyphWriteSpec) false w args)
      (Rows.glyphWriteSpec.post enc Tryd.prog Tryd.f10 false true false false) := by
  refine returnsInHanded_of_change_and (C := Tryd.checked) (X := fun w _ => laidMetH Tryd.prog laidL w) (fun _ _ _ hh h => h.of_heap hh) Tryd_own started (by kernel_rfl) Tryd.func10
    (ChangeSpec.witness_at (enc := enc) (C := Tryd.checked) (os := os) (X := fun w _ => laidMetH Tryd.prog laidL w) false (laidW os) #[.agg #[.slice none 0 0, .slice none 0 0]] 8 rfl (by kernel_rfl) (by kernel_rfl) (by kernel_rfl) (by kernel_rfl) (by kernel_rfl) (laidW_met os _)) ?_
  intro W base args ds gs before hval hW _ hwt hL _
  exact contract_true V mixed tok (E66_sound _) Tryd_laidOut Tryd.func10 (by kernel_rfl) rfl (Ts := tsGlyphWrite) (by kernel_rfl) (by
      intro i T t h1 h2
      rw [Tryd.params10] at h2
      match i with
      | 0 => simp [tsGlyphWrite] at h1 h2; subst h1; subst h2; exact ok_font
      | n + 1 => simp [tsGlyphWrite] at h1)
    (by
      intro t ht
      rw [Tryd.params10] at ht
      simp at ht
      subst ht
      exact ⟨by kernel_rfl, of_decide_eq_true (by kernel_rfl)⟩)
    rfl (tb := 4) (by kernel_rfl) (by kernel_rfl) (by
      intro ds hd
      match ds, hd with
      | [d0], _ => rfl)
    hrun_glyphWrite (gr_of_laid hL) hval hW hwt
end Go.Vai
