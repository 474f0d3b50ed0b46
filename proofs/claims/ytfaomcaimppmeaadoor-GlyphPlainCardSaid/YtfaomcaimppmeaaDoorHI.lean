/-
  The row of the law of the plain font.
-/
import Derived.Test.YtfaomcaimppmeaaDoorHH
import Derived.Test.YtfaomcaimppmeaaDoorGf
set_option linter.unusedVariables false
set_option linter.unusedSimpArgs false
set_option linter.unnecessarySimpa false
namespace Go.Vai
open Go.RowKit Go.ChangeShapes Go.WideShapes Go.Proofs Go.Proofs.YtfaomcaimppmeaaDoor
def tsGlyphPlain : List Ty := [.i .u8, .i .u8]
theorem hrun_glyphPlain : ∀ xss : List (List FV), xss.length = tsGlyphPlain.length → (∀ (i : Nat) (T : Ty) (xs : List FV), tsGlyphPlain[i]? = some T → xss[i]? = some xs → HasT T xs) → ∃ bl, V.run 9 (List.zipWith argAV tsGlyphPlain xss) [] = some (.fz (.sc (.bool true)), bl) := by
  intro xss hl h
  match xss, hl with
  | [x0, x1], _ =>
    obtain ⟨a0, rfl⟩ := hasT_u8 (h 0 _ x0 rfl rfl)
    obtain ⟨a1, rfl⟩ := hasT_u8 (h 1 _ x1 rfl rfl)
    exact ⟨[], law_plain a0 a1⟩
set_option maxRecDepth 100000 in
theorem lifted_glyphPlain (os : Os) (started : os.Started) (H : Type) (enc : TypeId × Value → H) :
    ReturnsInHanded {} Tryd.checked os 9 .any (fun w args => (Rows.glyphPlainSpec.pre enc Tryd.prog Tryd.f9 [] false w args ∧ laidMetH Tryd.prog laidL w) ∧ sizedMet enc Tryd.prog Tryd.f9 (OpenSpec.ofChange Rows.glyphPlainSpec) false w args)
      (Rows.glyphPlainSpec.post enc Tryd.prog Tryd.f9 false true false false) := by
  refine returnsInHanded_of_change_and (C := Tryd.checked) (X := fun w _ => laidMetH Tryd.prog laidL w) (fun _ _ _ hh h => h.of_heap hh) Tryd_own started (by kernel_rfl) Tryd.func9
    (ChangeSpec.witness_at (enc := enc) (C := Tryd.checked) (os := os) (X := fun w _ => laidMetH Tryd.prog laidL w) false (laidW os) #[.int .u8 0, .int .u8 0] 8 rfl (by kernel_rfl) (by kernel_rfl) (by kernel_rfl) (by kernel_rfl) (by kernel_rfl) (laidW_met os _)) ?_
  intro W base args ds gs before hval hW _ hwt hL _
  exact contract_true V mixed tok (E66_sound _) Tryd_laidOut Tryd.func9 (by kernel_rfl) rfl (Ts := tsGlyphPlain) (by kernel_rfl) (by
      intro i T t h1 h2
      rw [Tryd.params9] at h2
      match i with
      | 0 => simp [tsGlyphPlain] at h1 h2; subst h1; subst h2; exact ok_u8
      | 1 => simp [tsGlyphPlain] at h1 h2; subst h1; subst h2; exact ok_u8
      | n + 2 => simp [tsGlyphPlain] at h1)
    (by
      intro t ht
      rw [Tryd.params9] at ht
      simp at ht
      subst ht
      exact ⟨by kernel_rfl, of_decide_eq_true (by kernel_rfl)⟩)
    rfl (tb := 4) (by kernel_rfl) (by kernel_rfl) (by
      intro ds hd
      match ds, hd with
      | [d0, d1], _ => rfl)
    hrun_glyphPlain (gr_of_laid hL) hval hW hwt
end Go.Vai
