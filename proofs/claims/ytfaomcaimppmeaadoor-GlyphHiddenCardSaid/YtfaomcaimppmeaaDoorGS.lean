/-
  GlyphHidden: for every input the law returns true, and each argument reads as before; the package variables utf8.first and utf8.acceptRanges are as the program's text lays them.
-/
import Derived.Test.YtfaomcaimppmeaaDoorGR
set_option linter.unusedVariables false
set_option linter.unusedSimpArgs false
set_option linter.unnecessarySimpa false
namespace Go.Proofs.YtfaomcaimppmeaaDoor
open Go Go.Vai
theorem glyphHidden_holds : Rows.GlyphHiddenSaid :=
  OpenClaim.holds_of_wide 4 Tryd.f4 rfl rfl rfl rfl rfl rfl rfl ⟨rfl, rfl, rfl, rfl, rfl⟩ rfl rfl rfl rfl rfl (by kernel_rfl) Tryd.func4 (by kernel_rfl)
    (of_decide_eq_true (by kernel_rfl)) (by unfold Func.isWrapper; rw [if_neg (of_decide_eq_false (by kernel_rfl))]; exact ⟨rfl, rfl⟩)
    (fun os started H enc _ => lifted_glyphHidden os started H enc)
theorem glyphHidden_card : Rows.GlyphHiddenCardSaid :=
  Claim7.holds_tied_plain_at .later [] [.data, .pinned] true (true, "40e490e0a4d94b87b15274ead85828bdd745423730ed2bb8193ffb9790a31ff2") false
    glyphHidden_holds (fun _ h => by cases h) (by kernel_rfl) (fun _ h => by cases h) glyphHidden_row_tie rfl ⟨rfl, rfl⟩ (by kernel_rfl) rfl
    (fun f fn hf hfn => by
      obtain rfl : f = 4 := Option.some.inj ((show Tryd.prog.funcNamed "sterilizer/sterilizerlaw05.GlyphHidden" = some 4 by kernel_rfl).symm.trans hf) |>.symm
      obtain rfl : fn = Tryd.f4 := (Option.some.inj (Tryd.func4.symm.trans hfn)).symm
      exact ⟨by kernel_rfl, fun j t ht => by
        rw [Tryd.params4] at ht
        have h3 : t = 9 ∨ t = 23 := by
          match j with
          | 0 => simp at ht; exact .inl ht.symm
          | 1 => simp at ht; exact .inl ht.symm
          | 2 => simp at ht; exact .inr (ht.symm)
          | n + 3 => simp at ht
        rcases h3 with rfl | rfl
        · exact (show Tryd.prog.wantsStandIn 9 = false by kernel_rfl)
        · exact (show Tryd.prog.wantsStandIn 23 = false by kernel_rfl)⟩)
    (by kernel_rfl)
#print axioms glyphHidden_card
end Go.Proofs.YtfaomcaimppmeaaDoor
