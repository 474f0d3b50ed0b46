/-
  GlyphBack, where the text is of bulk at most 1048576: the law returns true, and the argument reads as before; the package variables utf8.first and utf8.acceptRanges are as the program's text lays them.
-/
import Derived.Test.YtfaomcaimppmeaaDoorIQ
set_option linter.unusedVariables false
set_option linter.unusedSimpArgs false
set_option linter.unnecessarySimpa false
namespace Go.Proofs.YtfaomcaimppmeaaDoor
open Go Go.Vai
theorem glyphBackUpto_holds : Rows.GlyphBackUptoSaid :=
  OpenClaim.holds_of_cond 13 Tryd.f13 rfl rfl rfl rfl rfl rfl rfl ⟨rfl, rfl, rfl, rfl, rfl⟩ rfl rfl rfl rfl rfl (by kernel_rfl) Tryd.func13 (by kernel_rfl)
    (of_decide_eq_true (by kernel_rfl)) (by unfold Func.isWrapper; rw [if_neg (of_decide_eq_false (by kernel_rfl))]; exact ⟨rfl, rfl⟩)
    (fun os started H enc _ F => lifted_glyphBack os started H enc F)
theorem glyphBackUpto_card : Rows.GlyphBackUptoCardSaid :=
  Claim7.holds_tied_plain_at .later [] [.data, .pinned] true (true, "40e490e0a4d94b87b15274ead85828bdd745423730ed2bb8193ffb9790a31ff2") false
    glyphBackUpto_holds (fun _ h => by cases h) (by kernel_rfl) (fun _ h => by cases h) glyphBack_row_tie rfl ⟨rfl, rfl⟩ (by kernel_rfl) rfl
    (fun f fn hf hfn => by
      obtain rfl : f = 13 := Option.some.inj ((show Tryd.prog.funcNamed "sterilizer/sterilizerlaw05.GlyphBack" = some 13 by kernel_rfl).symm.trans hf) |>.symm
      obtain rfl : fn = Tryd.f13 := (Option.some.inj (Tryd.func13.symm.trans hfn)).symm
      exact ⟨by kernel_rfl, fun j t ht => by
        rw [Tryd.params13] at ht
        have h3 : t = 9 := by
          match j with
          | 0 => simp at ht; exact ht.symm
          | n + 1 => simp at ht
        subst h3
        exact (show Tryd.prog.wantsStandIn 9 = false by kernel_rfl)⟩)
    (by kernel_rfl)
#print axioms glyphBackUpto_card
end Go.Proofs.YtfaomcaimppmeaaDoor
