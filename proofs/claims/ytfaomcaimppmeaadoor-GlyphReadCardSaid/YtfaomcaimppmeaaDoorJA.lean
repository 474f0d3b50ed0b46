/-
  The row of the law of reading.
-/
import Derived.Test.YtfaomcaimppmeaaDoorIw
import Derived.Test.YtfaomcaimppmeaaDoorGf
set_option linter.unusedVariables false
set_option linter.unusedSimpArgs false
set_option linter.unnecessarySimpa false
namespace Go.Vai
open Go.RowKit Go.ChangeShapes Go.WideShapes Go.Proofs Go.Proofs.YtfaomcaimppmeaaDoor
def tsGlyphRead : List Ty := [.s, .i .i64]
theorem hrun_glyphRead : ∀ xss : List (List FV), xss.length = tsGlyphRead.length → (∀ (i : Nat) (T : Ty) (xs : List FV), tsGlyphRead[i]? = some T → xss[i]? = some xs → HasT T xs) → ∃ bl, V.run 12 (List.zipWith argAV tsGlyphRead xss) [] = some (.fz (.sc (.bool true)), bl) := by
  intro xss hl h
  match xss, hl with
  | [x0, x1], _ =>
    obtain ⟨a0, rfl, h0⟩ := hasT_str (h 0 _ x0 rfl rfl)
    obtain ⟨a1, rfl, h1⟩ := hasT_int (h 1 _ x1 rfl rfl)
    exact ⟨[], law_read a0 a1 h0 (by have h : (decide ((-9223372036854775808 : Int) ≤ a1) && decide (a1 ≤ 9223372036854775807)) = true := h1; simp at h; omega)⟩
set_option maxRecDepth 100000 in
theorem lifted_glyphRead (os : Os) (started : os.Started) (H : Type) (enc : TypeId × Value → H) :
    ReturnsInHanded {} Tryd.checked os 12 .any (fun w args => (Rows.glyphReadSpec.pre enc Tryd.prog Tryd.f12 [] false w args ∧ laidMetH Tryd.prog laidL w) ∧ sizedMet enc Tryd.prog Tryd.f12 (OpenSpec.ofChange Rows.glyphReadSpec) false w args)
      (Rows.glyphReadSpec.post enc Tryd.prog Tryd.f12 false true false false) := by
  refine returnsInHanded_of_change_and (C := Tryd.checked) (X := fun w _ => laidMetH Tryd.prog laidL w) (fun _ _ _ hh h => h.of_heap hh) Tryd_own started (by kernel_rfl) Tryd.func12
    (ChangeSpec.witness_at (enc := enc) (C := Tryd.checked) (os := os) (X := fun w _ => laidMetH Tryd.prog laidL w) false (laidW os) #[.string ⟨#[]⟩, .int .i64 0] 8 rfl (by kernel_rfl) (by kernel_rfl) (by kernel_rfl) (by kernel_rfl) (by kernel_rfl) (laidW_met os _)) ?_
  intro W base args ds gs before hval hW _ hwt hL _
  exact contract_true V mixed tok (Eg_sound _) Tryd_laidOut Tryd.func12 (by kernel_rfl) rfl (Ts := tsGlyphRead) (by kernel_rfl) (by
      intro i T t h1 h2
      rw [Tryd.params12] at h2
      match i with
      | 0 => simp [tsGlyphRead] at h1 h2; subst h1; subst h2; exact ok_str
      | 1 => simp [tsGlyphRead] at h1 h2; subst h1; subst h2; exact ok_int
      | n + 2 => simp [tsGlyphRead] at h1)
    (by
      intro t ht
      rw [Tryd.params12] at ht
      simp at ht
      rcases ht with rfl | rfl <;> exact ⟨by kernel_rfl, of_decide_eq_true (by kernel_rfl)⟩)
    rfl (tb := 4) (by kernel_rfl) (by kernel_rfl) (by
      intro ds hd
      match ds, hd with
      | [d0, d1], _ => rfl)
    hrun_glyphRead (gr_of_laid hL) hval hW hwt
end Go.Vai
