/-
  MeasureSpends: for every input the law returns true, and each argument reads as before; the package variables that are listed are as the program's text lays them.
-/
import Derived.Test.YthejhdkdfjinbaaDoorM6
set_option linter.unusedVariables false
set_option linter.unusedSimpArgs false
set_option linter.unnecessarySimpa false
namespace Go.Proofs.YthejhdkdfjinbaaDoor
open Go Go.Vai
theorem measureSpends_holds : Rows.MeasureSpendsSaid :=
  OpenClaim.holds_of_wide 3 Tryd.f3 rfl rfl rfl rfl rfl rfl rfl ⟨rfl, rfl, rfl, rfl, rfl⟩ rfl rfl rfl rfl rfl (by kernel_rfl) Tryd.func3 (by kernel_rfl)
    (of_decide_eq_true (by kernel_rfl)) (by unfold Func.isWrapper; rw [if_neg (of_decide_eq_false (by kernel_rfl))]; exact ⟨rfl, rfl⟩)
    (fun os started H enc _ => lifted_measureSpends os started H enc)
theorem measureSpends_card : Rows.MeasureSpendsCardSaid :=
  Claim7.holds_tied_plain_at .later [] [.data, .data, .data, .sentinel, .sentinel, .data] true (true, "ec7a382f2661eb964221165cafb39b5f6f1ffb3f9a96a8332bed62927db47ac0") true
    measureSpends_holds (fun _ h => by cases h) (by kernel_rfl) (fun _ h => by cases h) measureSpends_row_tie rfl ⟨rfl, rfl⟩ (by kernel_rfl) rfl
    (fun f fn hf hfn => by
      obtain rfl : f = 3 := Option.some.inj ((show Tryd.prog.funcNamed "sterilizer/sterilizerlaw01.MeasureSpends" = some 3 by kernel_rfl).symm.trans hf) |>.symm
      obtain rfl : fn = Tryd.f3 := (Option.some.inj (Tryd.func3.symm.trans hfn)).symm
      exact ⟨by kernel_rfl, fun j t ht => by
        rw [Tryd.params3] at ht
        have h3 : t = 3 := by
          match j with
          | 0 => simp at ht; exact ht.symm
          | 1 => simp at ht; exact ht.symm
          | 2 => simp at ht; exact ht.symm
          | 3 => simp at ht; exact ht.symm
          | 4 => simp at ht; exact ht.symm
          | n + 5 => simp at ht
        subst h3
        exact (show Tryd.prog.wantsStandIn 3 = false by kernel_rfl)⟩)
    (by kernel_rfl)
#print axioms measureSpends_card
end Go.Proofs.YthejhdkdfjinbaaDoor
