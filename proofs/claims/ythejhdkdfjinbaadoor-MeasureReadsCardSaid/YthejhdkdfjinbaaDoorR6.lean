/-
  MeasureReads: for every input the law returns true, and each argument reads as before; the package variables that are listed are as the program's text lays them.
-/
import Derived.Test.YthejhdkdfjinbaaDoorR5
set_option linter.unusedVariables false
set_option linter.unusedSimpArgs false
set_option linter.unnecessarySimpa false
namespace Go.Proofs.YthejhdkdfjinbaaDoor
open Go Go.Vai
theorem measureReads_holds : Rows.MeasureReadsSaid :=
  OpenClaim.holds_of_wide 8 Tryd.f8 rfl rfl rfl rfl rfl rfl rfl ⟨rfl, rfl, rfl, rfl, rfl⟩ rfl rfl rfl rfl rfl (by kernel_rfl) Tryd.func8 (by kernel_rfl)
    (of_decide_eq_true (by kernel_rfl)) (by unfold Func.isWrapper; rw [if_neg (of_decide_eq_false (by kernel_rfl))]; exact ⟨rfl, rfl⟩)
    (fun os started H enc _ => lifted_measureReads os started H enc)
theorem measureReads_card : Rows.MeasureReadsCardSaid :=
  Claim7.holds_tied_plain_at .later [] [.data, .data, .data, .sentinel, .sentinel, .data] true (true, "ec7a382f2661eb964221165cafb39b5f6f1ffb3f9a96a8332bed62927db47ac0") true
    measureReads_holds (fun _ h => by cases h) (by kernel_rfl) (fun _ h => by cases h) measureReads_row_tie rfl ⟨rfl, rfl⟩ (by kernel_rfl) rfl
    (fun f fn hf hfn => by
      obtain rfl : f = 8 := Option.some.inj ((show Tryd.prog.funcNamed "sterilizer/sterilizerlaw01.MeasureReads" = some 8 by kernel_rfl).symm.trans hf) |>.symm
      obtain rfl : fn = Tryd.f8 := (Option.some.inj (Tryd.func8.symm.trans hfn)).symm
      exact ⟨by kernel_rfl, fun j t ht => by
        rw [Tryd.params8] at ht
        have h3 : t = 9 ∨ t = 3 := by
          match j with
          | 0 => simp at ht; exact .inl ht.symm
          | 1 => simp at ht; exact .inr (ht.symm)
          | n + 2 => simp at ht
        rcases h3 with rfl | rfl
        · exact (show Tryd.prog.wantsStandIn 9 = false by kernel_rfl)
        · exact (show Tryd.prog.wantsStandIn 3 = false by kernel_rfl)⟩)
    (by kernel_rfl)
#print axioms measureReads_card
end Go.Proofs.YthejhdkdfjinbaaDoor
