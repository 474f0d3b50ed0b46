/-
  GlyphCut: for every input the law returns true, and each argument reads as before; the package variables utf8.first and utf8.acceptRanges are as the program's text lays them.
-/
import Derived.Test.YtfaomcaimppmeaaDoorIN
set_option linter.unusedVariables false
set_option linter.unusedSimpArgs false
set_option linter.unnecessarySimpa false
namespace Go.Proofs.YtfaomcaimppmeaaDoor
open Go Go.Vai
theorem glyphCut_holds : Rows.GlyphCutSaid :=
  OpenClaim.holds_of_wide 11 Tryd.f11 rfl rfl rfl rfl rfl rfl rfl ⟨rfl, rfl, rfl, rfl, rfl⟩ rfl rfl rfl rfl rfl (by kernel_rfl) Tryd.func11 (by kernel_rfl)
    (of_decide_eq_true (by kernel_rfl)) (by unfold Func.isWrapper; rw [if_neg (of_decide_eq_false (by kernel_rfl))]; exact ⟨rfl, rfl⟩)
    (fun os started H enc _ => lifted_glyphCut os started H enc)
theorem glyphCut_card : Rows.GlyphCutCardSaid :=
  Claim7.holds_tied_plain_at .later [] [.data, .pinned] true (true, "40e490e0a4d94b87b15274ead85828bdd745423730ed2bb8193ffb9790a31ff2") false
    glyphCut_holds (fun _ h => by cases h) (by kernel_rfl) (fun _ h => by cases h) glyphCut_row_tie rfl ⟨rfl, rfl⟩ (by kernel_rfl) rfl
    (fun f fn hf hfn => by
      obtain rfl : f = 11 := Option.some.inj ((show Tryd.prog.funcNamed "sterilizer/sterilizerlaw05.GlyphCut" = some 11 by kernel_rfl).symm.trans hf) |>.symm
      obtain rfl : fn = Tryd.f11 := (Option.some.inj (Tryd.func11.symm.trans hfn)).symm
      exact ⟨by kernel_rfl, fun j t ht => by
        rw [Tryd.params11] at ht
        have h3 : t = 31 ∨ t = 65 ∨ t = 9 := by
          match j with
          | 0 => simp at ht; exact .inl ht.symm
          | 1 => simp at ht; exact .inr (.inl ht.symm)
          | 2 => simp at ht; exact .inr (.inr (ht.symm))
          | n + 3 => simp at ht
        rcases h3 with rfl | rfl | rfl
        · exact (show Tryd.prog.wantsStandIn 31 = false by kernel_rfl)
        · exact (show Tryd.prog.wantsStandIn 65 = false by kernel_rfl)
        · exact (show Tryd.prog.wantsStandIn 9 = false by kernel_rfl)⟩)
    (by kernel_rfl)
#print axioms glyphCut_card
end Go.Proofs.YtfaomcaimppmeaaDoor
