/-
  SheetLooks: for every input the law returns true, and each argument reads as before; the package variables that are listed are as the program's text lays them.
-/
import Derived.Test.YtljbbcpahapmnaaGreatDoorCRL1
set_option linter.unusedVariables false
set_option linter.unusedSimpArgs false
set_option linter.unnecessarySimpa false
namespace Go.Proofs.YtljbbcpahapmnaaGreatDoor
open Go Go.Vai
theorem sheetLooks_inPlace:(Rows.sheetLooksRow.inPlace == Tryz.pinned.checked.prog.inPlace 5)=true:=by kernel_rfl
theorem sheetLooks_unfollowed:(Rows.sheetLooksRow.unfollowed == Tryz.pinned.checked.prog.unfollowed 5)=true:=by kernel_rfl
theorem sheetLooks_recurses:(Rows.sheetLooksRow.recurses == Tryz.pinned.checked.prog.recurses 5)=true:=by kernel_rfl
theorem sheetLooks_named:(Rows.sheetLooksRow.named == Tryz.pinned.checked.prog.varsNamed 5)=true:=by kernel_rfl
theorem sheetLooks_joined:joinedFacts Tryz.pinned.checked.prog 5 Tryz.f5 Rows.sheetLooksSpec Rows.sheetLooksRow=true:=by
 simp only [joinedFacts,Bool.and_eq_true]
 exact ⟨⟨⟨⟨⟨⟨⟨⟨⟨⟨⟨⟨⟨⟨⟨⟨⟨⟨⟨⟨⟨⟨⟨⟨⟨⟨⟨⟨⟨⟨⟨(by kernel_rfl),(by kernel_rfl)⟩,(by kernel_rfl)⟩,(by kernel_rfl)⟩,(by kernel_rfl)⟩,(by kernel_rfl)⟩,(by kernel_rfl)⟩,(by kernel_rfl)⟩,(by kernel_rfl)⟩,sheetLooks_inPlace⟩,sheetLooks_unfollowed⟩,sheetLooks_recurses⟩,sheetLooks_named⟩,(by kernel_rfl)⟩,(by kernel_rfl)⟩,(by kernel_rfl)⟩,(by kernel_rfl)⟩,(by kernel_rfl)⟩,(by kernel_rfl)⟩,(by kernel_rfl)⟩,(by kernel_rfl)⟩,(by kernel_rfl)⟩,(by kernel_rfl)⟩,(by kernel_rfl)⟩,(by kernel_rfl)⟩,(by kernel_rfl)⟩,(by kernel_rfl)⟩,(by kernel_rfl)⟩,(by kernel_rfl)⟩,(by kernel_rfl)⟩,(by kernel_rfl)⟩,(by kernel_rfl)⟩
theorem sheetLooks_holds:Rows.SheetLooksSaid :=
 OpenClaim.holds_of_wide 5 Tryz.f5 rfl rfl rfl rfl rfl rfl rfl ⟨rfl,rfl,rfl,rfl,rfl⟩ rfl rfl rfl rfl rfl (by kernel_rfl) Tryz.func5 sheetLooks_joined
  (of_decide_eq_true (by kernel_rfl)) (by unfold Func.isWrapper; rw [if_neg (of_decide_eq_false (by kernel_rfl))]; exact ⟨rfl,rfl⟩)
  (fun os started H enc _ => lifted_sheetLooks os started H enc)
theorem sheetLooks_card:Rows.SheetLooksCardSaid :=
 Claim7.holds_tied_plain_at .later [] [.data, .data, .data, .data, .sentinel, .sentinel, .pinned, .pinned] true (true, "37e6501df949fc86b4c46b011beb810d1fdd9a174932ef3a2dd43c202d9ff7d0") true
  sheetLooks_holds (fun _ h => by cases h) (by kernel_rfl) (fun _ h => by cases h) sheetLooks_row_tie rfl ⟨rfl,rfl⟩ (by kernel_rfl) rfl
  (fun f fn hf hfn => by
    obtain rfl : f = 5 := Option.some.inj ((show Tryz.prog.funcNamed "sterilizer/sterilizerlaw09.SheetLooks" = some 5 by kernel_rfl).symm.trans hf) |>.symm
    obtain rfl:fn=Tryz.f5:=(Option.some.inj (Tryz.func5.symm.trans hfn)).symm
    exact ⟨by kernel_rfl,fun j t ht => by
     rw [Tryz.params5] at ht
     have h3:t=26:=by
      match j with
      | 0 => simp at ht; exact ht.symm
      | n + 1 => simp at ht
     subst h3
     exact (show Tryz.prog.wantsStandIn 26=false by kernel_rfl)⟩)
  (by kernel_rfl)
#print axioms sheetLooks_card
end Go.Proofs.YtljbbcpahapmnaaGreatDoor
