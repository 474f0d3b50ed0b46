/-
  The row of a law.
-/
import Derived.Test.YthaaafdiilahjaaGreatDoorBR8
import Derived.Test.YthaaafdiilahjaaGreatDoorBM9
import Derived.Test.YthaaafdiilahjaaGreatDoorBKX
set_option linter.unusedVariables false
set_option linter.unusedSimpArgs false
set_option linter.unnecessarySimpa false
namespace Go.Vai
open Go.RowKit Go.ChangeShapes Go.WideShapes Go.Proofs Go.Proofs.YthaaafdiilahjaaGreatDoor
def tsSheetRead : List Tx := [.s, .i .i64]
theorem hrun_sheetRead {m : Int} {e3 e4 : Value} : ∀ xss : List (List FV), xss.length = tsSheetRead.length → (∀ (i : Nat) (T : Tx) (xs : List FV), tsSheetRead[i]? = some T → xss[i]? = some xs → HasX Gx T xs) → ∃ bl, (W m e3 e4).run 5 (List.zipWith argAX tsSheetRead xss) [] = some (.fz (.sc (.bool true)), bl) := by
 intro xss hl h
 match xss, hl with
 | [x0, x1], _ =>
  obtain ⟨a0, rfl, h0⟩ := hasX_str (h 0 _ x0 rfl rfl)
  obtain ⟨a1, rfl, h1⟩ := hasX_int (h 1 _ x1 rfl rfl)
  exact ⟨[], law_read a0 a1 h0 h1⟩
set_option maxRecDepth 100000 in
theorem lifted_sheetRead (os : Os) (started : os.Started) (H : Type) (enc : TypeId × Value → H) :
 ReturnsInHanded {} Tryz.checked os 5 .any (fun w args => (Rows.sheetReadSpec.pre enc Tryz.prog Tryz.f5 [] false w args ∧ laidMetH Tryz.prog laidL w) ∧ sizedMet enc Tryz.prog Tryz.f5 (OpenSpec.ofChange Rows.sheetReadSpec) false w args)
  (Rows.sheetReadSpec.post enc Tryz.prog Tryz.f5 false true false false) := by
 refine returns_laid (C := Tryz.checked) (X := fun w _ => laidMetH Tryz.prog laidL w) (fun _ _ _ hh h => h.of_heap hh) Tryz_own started (by kernel_rfl) Tryz.func5
  (witness_ref (enc := enc) (C := Tryz.checked) (os := os) (X := fun w _ => laidMetH Tryz.prog laidL w) false (laidW os) #[.string ⟨#[]⟩, .int .i64 0] 8 rfl (by kernel_rfl) (by kernel_rfl) (by kernel_rfl) (by kernel_rfl) (by kernel_rfl) (laidW_met os _)) ?_
 intro W0 base args ds gs before hval hW hwt hL hsh
 obtain ⟨m, e3, e4, i3, i4, hg⟩ := gr_of_laid hL hsh
 exact contract_x Gx_ok (W m e3 e4) mixed tokz (Ez_sound m e3 e4 i3 i4) Tryz_laidOut (by decide) Tryz.func5 (by kernel_rfl) rfl (Ts := tsSheetRead) (by kernel_rfl) (by
  intro i T t h1 h2
  rw [Tryz.params5] at h2
  match i with
  | 0 => simp [tsSheetRead] at h1 h2; subst h1; subst h2; exact .s _ (by kernel_rfl)
  | 1 => simp [tsSheetRead] at h1 h2; subst h1; subst h2; exact .i _ _ (by kernel_rfl)
  | n + 2 => simp [tsSheetRead] at h1)
  (by
    intro t ht
    rw [Tryz.params5] at ht
    simp at ht
    rcases ht with rfl | rfl <;> exact ⟨by kernel_rfl, of_decide_eq_true (by kernel_rfl)⟩)
  rfl (tb := 4) (by kernel_rfl) (by kernel_rfl) (by
   intro ds hd
   match ds, hd with
   | [d0, d1], _ => rfl)
  hrun_sheetRead hg hval hW hwt
end Go.Vai
