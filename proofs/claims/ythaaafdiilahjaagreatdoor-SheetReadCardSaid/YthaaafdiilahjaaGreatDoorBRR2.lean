/-
  SheetRead: for every input the law returns true, and each argument reads as before; the package variables that are listed are as the program's text lays them.
-/
import Derived.Test.YthaaafdiilahjaaGreatDoorBRR1
set_option linter.unusedVariables false
set_option linter.unusedSimpArgs false
set_option linter.unnecessarySimpa false
namespace Go.Proofs.YthaaafdiilahjaaGreatDoor
open Go Go.Vai
theorem sheetRead_holds : Rows.SheetReadSaid :=
 OpenClaim.holds_of_wide 5 Tryz.f5 rfl rfl rfl rfl rfl rfl rfl ⟨rfl, rfl, rfl, rfl, rfl⟩ rfl rfl rfl rfl rfl (by kernel_rfl) Tryz.func5 (by kernel_rfl)
  (of_decide_eq_true (by kernel_rfl)) (by unfold Func.isWrapper; rw [if_neg (of_decide_eq_false (by kernel_rfl))]; exact ⟨rfl, rfl⟩)
  (fun os started H enc _ => lifted_sheetRead os started H enc)
theorem sheetRead_card : Rows.SheetReadCardSaid :=
 Claim7.holds_tied_plain_at .later [] [.data, .data, .data, .data, .sentinel, .sentinel, .pinned, .pinned] true (true, "c42574e5350f8c2ba4b2d13cdc9537a8b09b3ba18c6263550e3ae4af02c1c6dd") true
  sheetRead_holds (fun _ h => by cases h) (by kernel_rfl) (fun _ h => by cases h) sheetRead_row_tie rfl ⟨rfl, rfl⟩ (by kernel_rfl) rfl
  (fun f fn hf hfn => by
    obtain rfl : f = 5 := Option.some.inj ((show Tryz.prog.funcNamed "sterilizer/sterilizerlaw09.SheetRead" = some 5 by kernel_rfl).symm.trans hf) |>.symm
    obtain rfl : fn = Tryz.f5 := (Option.some.inj (Tryz.func5.symm.trans hfn)).symm
    exact ⟨by kernel_rfl, fun j t ht => by
     rw [Tryz.params5] at ht
     have h3 : t = 9 ∨ t = 3 := by
      match j with
      | 0 => simp at ht; exact .inl ht.symm
      | 1 => simp at ht; exact .inr (ht.symm)
      | n + 2 => simp at ht
     rcases h3 with rfl | rfl
     ·exact (show Tryz.prog.wantsStandIn 9 = false by kernel_rfl)
     ·exact (show Tryz.prog.wantsStandIn 3 = false by kernel_rfl)⟩)
  (by kernel_rfl)
#print axioms sheetRead_card
end Go.Proofs.YthaaafdiilahjaaGreatDoor
