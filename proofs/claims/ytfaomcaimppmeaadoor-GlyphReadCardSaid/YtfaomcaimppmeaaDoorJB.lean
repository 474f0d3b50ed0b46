/-
  GlyphRead: for every input the law returns true, and each argument reads as before; the package variables utf8.first and utf8.acceptRanges are as the program's text lays them.
-/
import Derived.Test.YtfaomcaimppmeaaDoorJA
set_option linter.unusedVariables false
set_option linter.unusedSimpArgs false
set_option linter.unnecessarySimpa false
namespace Go.Proofs.YtfaomcaimppmeaaDoor
open Go Go.Vai
theorem glyphRead_holds : Rows.GlyphReadSaid :=
  OpenClaim.holds_of_wide 12 Tryd.f12 rfl rfl rfl rfl rfl rfl rfl ⟨rfl, rfl, rfl, rfl, rfl⟩ rfl rfl rfl rfl rfl (by kernel_rfl) Tryd.func12 (by kernel_rfl)
    (of_decide_eq_true (by kernel_rfl)) (by unfold Func.isWrapper; rw [if_neg (of_decide_eq_false (by kernel_rfl))]; exact ⟨rfl, rfl⟩)
    (fun os started H enc _ => lifted_glyphRead os started H enc)
theorem glyphRead_card : Rows.GlyphReadCardSaid :=
  Claim7.holds_tied_plain_at .later [] [.data, .pinned] true (true, "40e490e0a4d94b87b15274ead85828bdd745423730ed2bb8193ffb9790a31ff2") false
    glyphRead_holds (fun _ h => by cases h) (by kernel_rfl) (fun _ h => by cases h) glyphRead_row_tie rfl ⟨rfl, rfl⟩ (by kernel_rfl) rfl
    (fun f fn hf hfn => by
      obtain rfl : f = 12 := Option.some.inj ((show Tryd.prog.funcNamed "sterilizer/sterilizerlaw05.GlyphRead" = some 12 by kernel_rfl).symm.trans hf) |>.symm
      obtain rfl : fn = Tryd.f12 := (Option.some.inj (Tryd.func12.symm.trans hfn)).symm
      exact ⟨by kernel_rfl, fun j t ht => by
        rw [Tryd.params12] at ht
        have h3 : t = 9 ∨ t = 3 := by
          match j with
          | 0 => simp at ht; exact .inl ht.symm
          | 1 => simp at ht; exact .inr (ht.symm)
          | n + 2 => simp at ht
        rcases h3 with rfl | rfl
        · exact (show Tryd.prog.wantsStandIn 9 = false by kernel_rfl)
        · exact (show Tryd.prog.wantsStandIn 3 = false by kernel_rfl)⟩)
    (by kernel_rfl)
#print axioms glyphRead_card
end Go.Proofs.YtfaomcaimppmeaaDoor
