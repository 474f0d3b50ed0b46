/-
  The row of the law of texts that are broken off.
-/
import Derived.Test.YtfaomcaimppmeaaDoorIl
import Derived.Test.YtfaomcaimppmeaaDoorGf
set_option linter.unusedVariables false
set_option linter.unusedSimpArgs false
set_option linter.unnecessarySimpa false
namespace Go.Vai
open Go.RowKit Go.ChangeShapes Go.WideShapes Go.Proofs Go.Proofs.YtfaomcaimppmeaaDoor
def tsGlyphCut : List Ty := [tFont, .i .u16, .s]
theorem hrun_glyphCut : ∀ xss : List (List FV), xss.length = tsGlyphCut.length → (∀ (i : Nat) (T : Ty) (xs : List FV), tsGlyphCut[i]? = some T → xss[i]? = some xs → HasT T xs) → ∃ bl, V.run 11 (List.zipWith argAV tsGlyphCut xss) [] = some (.fz (.sc (.bool true)), bl) := by
  intro xss hl h
  match xss, hl with
  | [x0, x1, x2], _ =>
    obtain ⟨a0, rfl, h0⟩ := hasT_font (h 0 _ x0 rfl rfl)
    obtain ⟨a1, rfl, h1⟩ := hasT_int (h 1 _ x1 rfl rfl)
    obtain ⟨a2, rfl, h2⟩ := hasT_str (h 2 _ x2 rfl rfl)
    exact ⟨[], law_cut a0 a1 a2 h0 (by have h : (decide ((0 : Int) ≤ a1) && decide (a1 ≤ 65535)) = true := h1; simp at h; omega) (by have h : (decide ((0 : Int) ≤ a1) && decide (a1 ≤ 65535)) = true := h1; simp at h; omega) h2⟩
set_option maxRecDepth 100000 in
theorem lifted_glyphCut (os : Os) (started : os.Started) (H : Type) (enc : TypeId × Value → H) :
    ReturnsInHanded {} Tryd.checked os 11 .any (fun w args => (Rows.glyphCutSpec.pre enc Tryd.prog Tryd.f11 [] false w args ∧ laidMetH Tryd.prog laidL w) ∧ sizedMet enc Tryd.prog Tryd.f11 (OpenSpec.ofChange Rows.glyphCutSpec) false w args)
      (Rows.glyphCutSpec.post enc Tryd.prog Tryd.f11 false true false false) := by
  refine returnsInHanded_of_change_and (C := Tryd.checked) (X := fun w _ => laidMetH Tryd.prog laidL w) (fun _ _ _ hh h => h.of_heap hh) Tryd_own started (by kernel_rfl) Tryd.func11
    (ChangeSpec.witness_at (enc := enc) (C := Tryd.checked) (os := os) (X := fun w _ => laidMetH Tryd.prog laidL w) false (laidW os) #[.agg #[.slice none 0 0, .slice none 0 0], .int .u16 0, .string ⟨#[]⟩] 8 rfl (by kernel_rfl) (by kernel_rfl) (by kernel_rfl) (by kernel_rfl) (by kernel_rfl) (laidW_met os _)) ?_
  intro W base args ds gs before hval hW _ hwt hL _
  exact contract_true V mixed tok (Eg_sound _) Tryd_laidOut Tryd.func11 (by kernel_rfl) rfl (Ts := tsGlyphCut) (by kernel_rfl) (by
      intro i T t h1 h2
      rw [Tryd.params11] at h2
      match i with
      | 0 => simp [tsGlyphCut] at h1 h2; subst h1; subst h2; exact ok_font
      | 1 => simp [tsGlyphCut] at h1 h2; subst h1; subst h2; exact ok_u16
      | 2 => simp [tsGlyphCut] at h1 h2; subst h1; subst h2; exact ok_str
      | n + 3 => simp [tsGlyphCut] at h1)
    (by
      intro t ht
      rw [Tryd.params11] at ht
      simp at ht
      rcases ht with rfl | rfl | rfl <;> exact ⟨by kernel_rfl, of_decide_eq_true (by kernel_rfl)⟩)
    rfl (tb := 4) (by kernel_rfl) (by kernel_rfl) (by
      intro ds hd
      match ds, hd with
      | [d0, d1, d2], _ => rfl)
    hrun_glyphCut (gr_of_laid hL) hval hW hwt
end Go.Vai
