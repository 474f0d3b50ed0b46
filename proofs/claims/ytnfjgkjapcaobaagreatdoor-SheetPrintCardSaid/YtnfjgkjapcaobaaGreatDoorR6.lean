/-
  SheetPrint: for every input the law returns true, and each argument reads as before; the package variables that are listed are as the program's text lays them.
-/
import Derived.Test.YtnfjgkjapcaobaaGreatDoorR5
set_option linter.unusedVariables false
set_option linter.unusedSimpArgs false
set_option linter.unnecessarySimpa false
namespace Go.Proofs.YtnfjgkjapcaobaaGreatDoor
open Go Go.Vai
theorem sheetPrint_holds : Rows.SheetPrintSaid :=
 OpenClaim.holds_of_wide 4 Tryz.f4 rfl rfl rfl rfl rfl rfl rfl ⟨rfl, rfl, rfl, rfl, rfl⟩ rfl rfl rfl rfl rfl (by kernel_rfl) Tryz.func4 (by kernel_rfl)
  (of_decide_eq_true (by kernel_rfl)) (by unfold Func.isWrapper; rw [if_neg (of_decide_eq_false (by kernel_rfl))]; exact ⟨rfl, rfl⟩)
  (fun os started H enc _ => lifted_sheetPrint os started H enc)
theorem sheetPrint_card : Rows.SheetPrintCardSaid :=
 Claim7.holds_tied_plain_at .later [] [.data, .data, .data, .data, .sentinel, .sentinel, .pinned, .pinned] true (true, "1d19fdd4456caa5798d00e98e25f93265902badc581ab9f263c038df2e4bbf03") true
  sheetPrint_holds (fun _ h => by cases h) (by kernel_rfl) (fun _ h => by cases h) sheetPrint_row_tie rfl ⟨rfl, rfl⟩ (by kernel_rfl) rfl
  (fun f fn hf hfn => by
    obtain rfl : f = 4 := Option.some.inj ((show Tryz.prog.funcNamed "sterilizer/sterilizerlaw09.SheetPrint" = some 4 by kernel_rfl).symm.trans hf) |>.symm
    obtain rfl : fn = Tryz.f4 := (Option.some.inj (Tryz.func4.symm.trans hfn)).symm
    exact ⟨by kernel_rfl, fun j t ht => by
     rw [Tryz.params4] at ht
     have h3 : t = 27 := by
      match j with
      | 0 => simp at ht; exact ht.symm
      | n + 1 => simp at ht
     subst h3
     exact (show Tryz.prog.wantsStandIn 27 = false by kernel_rfl)⟩)
  (by kernel_rfl)
#print axioms sheetPrint_card
end Go.Proofs.YtnfjgkjapcaobaaGreatDoor
