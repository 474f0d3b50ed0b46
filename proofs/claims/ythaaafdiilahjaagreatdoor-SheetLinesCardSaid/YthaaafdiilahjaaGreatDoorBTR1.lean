/-
  The row of a law.
-/
import Derived.Test.YthaaafdiilahjaaGreatDoorBS1
import Derived.Test.YthaaafdiilahjaaGreatDoorBM9
import Derived.Test.YthaaafdiilahjaaGreatDoorBKX
set_option linter.unusedVariables false
set_option linter.unusedSimpArgs false
set_option linter.unnecessarySimpa false
namespace Go.Vai
open Go.RowKit Go.ChangeShapes Go.WideShapes Go.Proofs Go.Proofs.YthaaafdiilahjaaGreatDoor
def tsSheetLines : List Tx := [.st shF, .sl (.i .i64) 1, .s]
theorem hrun_sheetLines {m : Int} {e3 e4 : Value} : ∀ xss : List (List FV), xss.length = tsSheetLines.length → (∀ (i : Nat) (T : Tx) (xs : List FV), tsSheetLines[i]? = some T → xss[i]? = some xs → HasX Gx T xs) → ∃ bl, (W m e3 e4).run 4 (List.zipWith argAX tsSheetLines xss) [] = some (.fz (.sc (.bool true)), bl) := by
 intro xss hl h
 match xss, hl with
 | [x0, x1, x2], _ =>
  obtain ⟨a0, rfl, h0⟩ := hasX_sheet (h 0 _ x0 rfl rfl)
  obtain ⟨a1, rfl, h1⟩ := hasX_row eIn _ (fun xs h => hasX_int h) (h 1 _ x1 rfl rfl)
  obtain ⟨a2, rfl, h2⟩ := hasX_str (h 2 _ x2 rfl rfl)
  exact ⟨[], law_lines a0 a1 a2 h0.1 h0.2.1 h0.2.2.1 (fun c hc => (h0.2.2.2.1 c hc).2.2) h0.2.2.2.2.2 h1.1 h1.2 h2⟩
set_option maxRecDepth 100000 in
theorem lifted_sheetLines (os : Os) (started : os.Started) (H : Type) (enc : TypeId × Value → H) :
 ReturnsInHanded {} Tryz.checked os 4 .any (fun w args => (Rows.sheetLinesSpec.pre enc Tryz.prog Tryz.f4 [] false w args ∧ laidMetH Tryz.prog laidL w) ∧ sizedMet enc Tryz.prog Tryz.f4 (OpenSpec.ofChange Rows.sheetLinesSpec) false w args)
  (Rows.sheetLinesSpec.post enc Tryz.prog Tryz.f4 false true false false) := by
 refine returns_laid (C := Tryz.checked) (X := fun w _ => laidMetH Tryz.prog laidL w) (fun _ _ _ hh h => h.of_heap hh) Tryz_own started (by kernel_rfl) Tryz.func4
  (witness_ref (enc := enc) (C := Tryz.checked) (os := os) (X := fun w _ => laidMetH Tryz.prog laidL w) false (laidW os) #[.agg #[.slice none 0 0, .slice none 0 0, .slice none 0 0], .slice none 0 0, .string ⟨#[]⟩] 8 rfl (by kernel_rfl) (by kernel_rfl) (by kernel_rfl) (by kernel_rfl) (by kernel_rfl) (laidW_met os _)) ?_
 intro W0 base args ds gs before hval hW hwt hL hsh
 obtain ⟨m, e3, e4, i3, i4, hg⟩ := gr_of_laid hL hsh
 exact contract_x Gx_ok (W m e3 e4) mixed tokz (Ez_sound m e3 e4 i3 i4) Tryz_laidOut (by decide) Tryz.func4 (by kernel_rfl) rfl (Ts := tsSheetLines) (by kernel_rfl) (by
  intro i T t h1 h2
  rw [Tryz.params4] at h2
  match i with
  | 0 => simp [tsSheetLines] at h1 h2; subst h1; subst h2; exact ok_sheet
  | 1 => simp [tsSheetLines] at h1 h2; subst h1; subst h2; exact .sl _ _ _ 3 (by kernel_rfl) (by kernel_rfl) (by decide) (of_decide_eq_true (by kernel_rfl)) (.i _ _ (by kernel_rfl))
  | 2 => simp [tsSheetLines] at h1 h2; subst h1; subst h2; exact .s _ (by kernel_rfl)
  | n + 3 => simp [tsSheetLines] at h1)
  (by
    intro t ht
    rw [Tryz.params4] at ht
    simp at ht
    rcases ht with rfl | rfl | rfl <;> exact ⟨by kernel_rfl, of_decide_eq_true (by kernel_rfl)⟩)
  rfl (tb := 4) (by kernel_rfl) (by kernel_rfl) (by
   intro ds hd
   match ds, hd with
   | [d0, d1, d2], _ => rfl)
  hrun_sheetLines hg hval hW hwt
end Go.Vai
