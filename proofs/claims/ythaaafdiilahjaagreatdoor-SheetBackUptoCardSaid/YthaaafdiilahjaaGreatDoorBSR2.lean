/-
  SheetBackUpto: where what it reads is of bulk at most 1048576: the law returns true, and each argument reads as before; the package variables that are listed are as the program's text lays them.
-/
import Derived.Test.YthaaafdiilahjaaGreatDoorBSR1
set_option linter.unusedVariables false
set_option linter.unusedSimpArgs false
set_option linter.unnecessarySimpa false
namespace Go.Proofs.YthaaafdiilahjaaGreatDoor
open Go Go.Vai
theorem sheetBackUpto_holds : Rows.SheetBackUptoSaid :=
 OpenClaim.holds_of_cond 6 Tryz.f6 rfl rfl rfl rfl rfl rfl rfl ⟨rfl, rfl, rfl, rfl, rfl⟩ rfl rfl rfl rfl rfl (by kernel_rfl) Tryz.func6 (by kernel_rfl)
  (of_decide_eq_true (by kernel_rfl)) (by unfold Func.isWrapper; rw [if_neg (of_decide_eq_false (by kernel_rfl))]; exact ⟨rfl, rfl⟩)
  (fun os started H enc _ F => lifted_sheetBack os started H enc F)
theorem sheetBackUpto_card : Rows.SheetBackUptoCardSaid :=
 Claim7.holds_tied_plain_at .later [] [.data, .data, .data, .data, .sentinel, .sentinel, .pinned, .pinned] true (true, "c42574e5350f8c2ba4b2d13cdc9537a8b09b3ba18c6263550e3ae4af02c1c6dd") true
  sheetBackUpto_holds (fun _ h => by cases h) (by kernel_rfl) (fun _ h => by cases h) sheetBackUpto_row_tie rfl ⟨rfl, rfl⟩ (by kernel_rfl) rfl
  (fun f fn hf hfn => by
    obtain rfl : f = 6 := Option.some.inj ((show Tryz.prog.funcNamed "sterilizer/sterilizerlaw09.SheetBack" = some 6 by kernel_rfl).symm.trans hf) |>.symm
    obtain rfl : fn = Tryz.f6 := (Option.some.inj (Tryz.func6.symm.trans hfn)).symm
    exact ⟨by kernel_rfl, fun j t ht => by
     rw [Tryz.params6] at ht
     have h3 : t = 9 := by
      match j with
      | 0 => simp at ht; exact ht.symm
      | n + 1 => simp at ht
     subst h3
     exact (show Tryz.prog.wantsStandIn 9 = false by kernel_rfl)⟩)
  (by kernel_rfl)
#print axioms sheetBackUpto_card
end Go.Proofs.YthaaafdiilahjaaGreatDoor
