/-
  The row of the law of outlines.
-/
import Derived.Test.YtfaomcaimppmeaaDoorHd
import Derived.Test.YtfaomcaimppmeaaDoorGf
set_option linter.unusedVariables false
set_option linter.unusedSimpArgs false
set_option linter.unnecessarySimpa false
namespace Go.Vai
open Go.RowKit Go.ChangeShapes Go.WideShapes Go.Proofs Go.Proofs.YtfaomcaimppmeaaDoor
def tsGlyphOutline : List Ty := [tFont, .i .i64, .i .i64, .i .i64]
theorem hrun_glyphOutline : ∀ xss : List (List FV), xss.length = tsGlyphOutline.length → (∀ (i : Nat) (T : Ty) (xs : List FV), tsGlyphOutline[i]? = some T → xss[i]? = some xs → HasT T xs) → ∃ bl, V.run 5 (List.zipWith argAV tsGlyphOutline xss) [] = some (.fz (.sc (.bool true)), bl) := by
  intro xss hl h
  match xss, hl with
  | [x0, x1, x2, x3], _ =>
    obtain ⟨a0, rfl, h0⟩ := hasT_font (h 0 _ x0 rfl rfl)
    obtain ⟨a1, rfl, h1⟩ := hasT_int (h 1 _ x1 rfl rfl)
    obtain ⟨a2, rfl, h2⟩ := hasT_int (h 2 _ x2 rfl rfl)
    obtain ⟨a3, rfl, h3⟩ := hasT_int (h 3 _ x3 rfl rfl)
    exact ⟨[], law_outline a0 a1 a2 a3 h0⟩
set_option maxRecDepth 100000 in
theorem lifted_glyphOutline (os : Os) (started : os.Started) (H : Type) (enc : TypeId × Value → H) :
    ReturnsInHanded {} Tryd.checked os 5 .any (fun w args => (Rows.glyphOutlineSpec.pre enc Tryd.prog Tryd.f5 [] false w args ∧ laidMetH Tryd.prog laidL w) ∧ sizedMet enc Tryd.prog Tryd.f5 (OpenSpec.ofChange Rows.glyphOutlineSpec) false w args)
      (Rows.glyphOutlineSpec.post enc Tryd.prog Tryd.f5 false true false false) := by
  refine returnsInHanded_of_change_and (C := Tryd.checked) (X := fun w _ => laidMetH Tryd.prog laidL w) (fun _ _ _ hh h => h.of_heap hh) Tryd_own started (by kernel_rfl) Tryd.func5
    (ChangeSpec.witness_at (enc := enc) (C := Tryd.checked) (os := os) (X := fun w _ => laidMetH Tryd.prog laidL w) false (laidW os) #[.agg #[.slice none 0 0, .slice none 0 0], .int .i64 0, .int .i64 0, .int .i64 0] 8 rfl (by kernel_rfl) (by kernel_rfl) (by kernel_rfl) (by kernel_rfl) (by kernel_rfl) (laidW_met os _)) ?_
  intro W base args ds gs before hval hW _ hwt hL _
  exact contract_true V mixed tok noE_sound Tryd_laidOut Tryd.func5 (by kernel_rfl) rfl (Ts := tsGlyphOutline) (by kernel_rfl) (by
      intro i T t h1 h2
      rw [Tryd.params5] at h2
      match i with
      | 0 => simp [tsGlyphOutline] at h1 h2; subst h1; subst h2; exact ok_font
      | 1 => simp [tsGlyphOutline] at h1 h2; subst h1; subst h2; exact ok_int
      | 2 => simp [tsGlyphOutline] at h1 h2; subst h1; subst h2; exact ok_int
      | 3 => simp [tsGlyphOutline] at h1 h2; subst h1; subst h2; exact ok_int
      | n + 4 => simp [tsGlyphOutline] at h1)
    (by
      intro t ht
      rw [Tryd.params5] at ht
      simp at ht
      rcases ht with rfl | rfl <;> exact ⟨by kernel_rfl, of_decide_eq_true (by kernel_rfl)⟩)
    rfl (tb := 4) (by kernel_rfl) (by kernel_rfl) (by
      intro ds hd
      match ds, hd with
      | [d0, d1, d2, d3], _ => rfl)
    hrun_glyphOutline (gr_of_laid hL) hval hW hwt
end Go.Vai
