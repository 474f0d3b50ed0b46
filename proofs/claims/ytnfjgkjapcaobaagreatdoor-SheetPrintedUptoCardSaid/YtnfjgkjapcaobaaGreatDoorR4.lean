/-
  SheetPrintedUpto: where what it reads is of bulk at most 1048576: the law returns true, and each argument reads as before; the package variables that are listed are as the program's text lays them.
-/
import Derived.Test.YtnfjgkjapcaobaaGreatDoorR3
set_option linter.unusedVariables false
set_option linter.unusedSimpArgs false
set_option linter.unnecessarySimpa false
namespace Go.Proofs.YtnfjgkjapcaobaaGreatDoor
open Go Go.Vai
theorem sheetPrintedUpto_holds : Rows.SheetPrintedUptoSaid :=
 OpenClaim.holds_of_cond 5 Tryz.f5 rfl rfl rfl rfl rfl rfl rfl ⟨rfl, rfl, rfl, rfl, rfl⟩ rfl rfl rfl rfl rfl (by kernel_rfl) Tryz.func5 (by kernel_rfl)
  (of_decide_eq_true (by kernel_rfl)) (by unfold Func.isWrapper; rw [if_neg (of_decide_eq_false (by kernel_rfl))]; exact ⟨rfl, rfl⟩)
  (fun os started H enc _ F => lifted_sheetPrinted os started H enc F)
theorem sheetPrintedUpto_card : Rows.SheetPrintedUptoCardSaid :=
 Claim7.holds_tied_plain_at .later [] [.data, .data, .data, .data, .sentinel, .sentinel, .pinned, .pinned] true (true, "1d19fdd4456caa5798d00e98e25f93265902badc581ab9f263c038df2e4bbf03") true
  sheetPrintedUpto_holds (fun _ h => by cases h) (by kernel_rfl) (fun _ h => by cases h) sheetPrintedUpto_row_tie rfl ⟨rfl, rfl⟩ (by kernel_rfl) rfl
  (fun f fn hf hfn => by
    obtain rfl : f = 5 := Option.some.inj ((show Tryz.prog.funcNamed "sterilizer/sterilizerlaw09.SheetPrinted" = some 5 by kernel_rfl).symm.trans hf) |>.symm
    obtain rfl : fn = Tryz.f5 := (Option.some.inj (Tryz.func5.symm.trans hfn)).symm
    exact ⟨by kernel_rfl, fun j t ht => by
     rw [Tryz.params5] at ht
     have h3 : t = 9 := by
      match j with
      | 0 => simp at ht; exact ht.symm
      | n + 1 => simp at ht
     subst h3
     exact (show Tryz.prog.wantsStandIn 9 = false by kernel_rfl)⟩)
  (by kernel_rfl)
#print axioms sheetPrintedUpto_card
end Go.Proofs.YtnfjgkjapcaobaaGreatDoor
