/-
  GlyphRunes: for every input the law returns true, and the argument reads as before; the package variables utf8.first and utf8.acceptRanges are as the program's text lays them.
-/
import Derived.Test.YtfaomcaimppmeaaDoorGN
set_option linter.unusedVariables false
set_option linter.unusedSimpArgs false
set_option linter.unnecessarySimpa false
namespace Go.Proofs.YtfaomcaimppmeaaDoor
open Go Go.Vai
theorem glyphRunes_holds : Rows.GlyphRunesSaid :=
  OpenClaim.holds_of_wide 3 Tryd.f3 rfl rfl rfl rfl rfl rfl rfl ⟨rfl, rfl, rfl, rfl, rfl⟩ rfl rfl rfl rfl rfl (by kernel_rfl) Tryd.func3 (by kernel_rfl)
    (of_decide_eq_true (by kernel_rfl)) (by unfold Func.isWrapper; rw [if_neg (of_decide_eq_false (by kernel_rfl))]; exact ⟨rfl, rfl⟩)
    (fun os started H enc _ => lifted_glyphRunes os started H enc)
theorem glyphRunes_card : Rows.GlyphRunesCardSaid :=
  Claim7.holds_tied_plain_at .later [] [.data, .pinned] true (true, "40e490e0a4d94b87b15274ead85828bdd745423730ed2bb8193ffb9790a31ff2") false
    glyphRunes_holds (fun _ h => by cases h) (by kernel_rfl) (fun _ h => by cases h) glyphRunes_row_tie rfl ⟨rfl, rfl⟩ (by kernel_rfl) rfl
    (fun f fn hf hfn => by
      obtain rfl : f = 3 := Option.some.inj ((show Tryd.prog.funcNamed "sterilizer/sterilizerlaw05.GlyphRunes" = some 3 by kernel_rfl).symm.trans hf) |>.symm
      obtain rfl : fn = Tryd.f3 := (Option.some.inj (Tryd.func3.symm.trans hfn)).symm
      exact ⟨by kernel_rfl, fun j t ht => by
        rw [Tryd.params3] at ht
        have h3 : t = 9 := by
          match j with
          | 0 => simp at ht; exact ht.symm
          | n + 1 => simp at ht
        subst h3
        exact (show Tryd.prog.wantsStandIn 9 = false by kernel_rfl)⟩)
    (by kernel_rfl)
#print axioms glyphRunes_card
end Go.Proofs.YtfaomcaimppmeaaDoor
