/-
  SheetLines: for every input the law returns true, and each argument reads as before; the package variables that are listed are as the program's text lays them.
-/
import Derived.Test.YthaaafdiilahjaaGreatDoorBTR1
set_option linter.unusedVariables false
set_option linter.unusedSimpArgs false
set_option linter.unnecessarySimpa false
namespace Go.Proofs.YthaaafdiilahjaaGreatDoor
open Go Go.Vai
theorem sheetLines_holds : Rows.SheetLinesSaid :=
 OpenClaim.holds_of_wide 4 Tryz.f4 rfl rfl rfl rfl rfl rfl rfl ⟨rfl, rfl, rfl, rfl, rfl⟩ rfl rfl rfl rfl rfl (by kernel_rfl) Tryz.func4 (by kernel_rfl)
  (of_decide_eq_true (by kernel_rfl)) (by unfold Func.isWrapper; rw [if_neg (of_decide_eq_false (by kernel_rfl))]; exact ⟨rfl, rfl⟩)
  (fun os started H enc _ => lifted_sheetLines os started H enc)
theorem sheetLines_card : Rows.SheetLinesCardSaid :=
 Claim7.holds_tied_plain_at .later [] [.data, .data, .data, .data, .sentinel, .sentinel, .pinned, .pinned] true (true, "c42574e5350f8c2ba4b2d13cdc9537a8b09b3ba18c6263550e3ae4af02c1c6dd") true
  sheetLines_holds (fun _ h => by cases h) (by kernel_rfl) (fun _ h => by cases h) sheetLines_row_tie rfl ⟨rfl, rfl⟩ (by kernel_rfl) rfl
  (fun f fn hf hfn => by
    obtain rfl : f = 4 := Option.some.inj ((show Tryz.prog.funcNamed "sterilizer/sterilizerlaw09.SheetLines" = some 4 by kernel_rfl).symm.trans hf) |>.symm
    obtain rfl : fn = Tryz.f4 := (Option.some.inj (Tryz.func4.symm.trans hfn)).symm
    exact ⟨by kernel_rfl, fun j t ht => by
     rw [Tryz.params4] at ht
     have h3 : t = 26 ∨ t = 23 ∨ t = 9 := by
      match j with
      | 0 => simp at ht; exact .inl ht.symm
      | 1 => simp at ht; exact .inr (.inl ht.symm)
      | 2 => simp at ht; exact .inr (.inr (ht.symm))
      | n + 3 => simp at ht
     rcases h3 with rfl | rfl | rfl
     ·exact (show Tryz.prog.wantsStandIn 26 = false by kernel_rfl)
     ·exact (show Tryz.prog.wantsStandIn 23 = false by kernel_rfl)
     ·exact (show Tryz.prog.wantsStandIn 9 = false by kernel_rfl)⟩)
  (by kernel_rfl)
#print axioms sheetLines_card
end Go.Proofs.YthaaafdiilahjaaGreatDoor
