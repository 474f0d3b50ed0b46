/-
  The row of a law.
-/
import Derived.Test.YtnfjgkjapcaobaaGreatDoorMT
import Derived.Test.YtnfjgkjapcaobaaGreatDoorKF
set_option linter.unusedVariables false
set_option linter.unusedSimpArgs false
set_option linter.unnecessarySimpa false
namespace Go.Vai
open Go.RowKit Go.ChangeShapes Go.WideShapes Go.Proofs Go.Proofs.YtnfjgkjapcaobaaGreatDoor
def tsSheetPrint : List Tx := [.ref 0]
theorem hrun_sheetPrint {m : Int} {e3 e4 : Value} : ∀ xss : List (List FV), xss.length = tsSheetPrint.length → (∀ (i : Nat) (T : Tx) (xs : List FV), tsSheetPrint[i]? = some T → xss[i]? = some xs → HasX Gx T xs) → ∃ bl, (W m e3 e4).run 4 (List.zipWith argAX tsSheetPrint xss) [] = some (.fz (.sc (.bool true)), bl) := by
 intro xss hl h
 match xss, hl with
 | [x0], _ =>
  obtain ⟨a0, rfl, h0⟩ := hasX_node (h 0 _ x0 rfl rfl)
  exact ⟨[], law_print a0 h0⟩
set_option maxRecDepth 100000 in
theorem lifted_sheetPrint (os : Os) (started : os.Started) (H : Type) (enc : TypeId × Value → H) :
 ReturnsInHanded {} Tryz.checked os 4 .any (fun w args => (Rows.sheetPrintSpec.pre enc Tryz.prog Tryz.f4 [] false w args ∧ laidMetH Tryz.prog laidL w) ∧ sizedMet enc Tryz.prog Tryz.f4 (OpenSpec.ofChange Rows.sheetPrintSpec) false w args)
  (Rows.sheetPrintSpec.post enc Tryz.prog Tryz.f4 false true false false) := by
 refine returns_laid (C := Tryz.checked) (X := fun w _ => laidMetH Tryz.prog laidL w) (fun _ _ _ hh h => h.of_heap hh) Tryz_own started (by kernel_rfl) Tryz.func4
  (witness_ref (enc := enc) (C := Tryz.checked) (os := os) (X := fun w _ => laidMetH Tryz.prog laidL w) false (laidW os) #[.agg #[.int .i64 0, .int .i64 0, .string ⟨#[]⟩, .int .i64 0, .int .i64 0, .int .i64 0, .int .i64 0, .slice none 0 0]] 8 rfl (by kernel_rfl) (by kernel_rfl) (by kernel_rfl) (by kernel_rfl) (by kernel_rfl) (laidW_met os _)) ?_
 intro W0 base args ds gs before hval hW hwt hL hsh
 obtain ⟨m, e3, e4, i3, i4, hg⟩ := gr_of_laid hL hsh
 exact contract_x Gx_ok (W m e3 e4) mixed tokz (Ez_sound m e3 e4 i3 i4) Tryz_laidOut (by decide) Tryz.func4 (by kernel_rfl) rfl (Ts := tsSheetPrint) (by kernel_rfl) (by
  intro i T t h1 h2
  rw [Tryz.params4] at h2
  match i with
  | 0 => simp [tsSheetPrint] at h1 h2; subst h1; subst h2; exact ok_node
  | n + 1 => simp [tsSheetPrint] at h1)
  (by
    intro t ht
    rw [Tryz.params4] at ht
    simp at ht
    subst ht
    exact ⟨by kernel_rfl, of_decide_eq_true (by kernel_rfl)⟩)
  rfl (tb := 4) (by kernel_rfl) (by kernel_rfl) (by
   intro ds hd
   match ds, hd with
   | [d0], _ => rfl)
  hrun_sheetPrint hg hval hW hwt
end Go.Vai
