/-
  The row of a law.
-/
import Derived.Test.YthejhdkdfjinbaaDoorB3
import Derived.Test.YthejhdkdfjinbaaDoorM5
set_option linter.unusedVariables false
set_option linter.unusedSimpArgs false
set_option linter.unnecessarySimpa false
namespace Go.Vai
open Go.RowKit Go.ChangeShapes Go.WideShapes Go.Proofs Go.Proofs.YthejhdkdfjinbaaDoor
def tsMeasureBack : List Ty := [.s, .s]
theorem hrun_measureBack {e3 e4 : Value} : ∀ xss : List (List FV), xss.length = tsMeasureBack.length → (∀ (i : Nat) (T : Ty) (xs : List FV), tsMeasureBack[i]? = some T → xss[i]? = some xs → HasT T xs) → ∃ bl, (W e3 e4).run 9 (List.zipWith argAV tsMeasureBack xss) [] = some (.fz (.sc (.bool true)), bl) := by
  intro xss hl h
  match xss, hl with
  | [x0, x1], _ =>
    obtain ⟨a0, rfl, h0⟩ := hasT_str (h 0 _ x0 rfl rfl)
    obtain ⟨a1, rfl, h1⟩ := hasT_str (h 1 _ x1 rfl rfl)
    exact ⟨[], law_back a0 a1⟩
set_option maxRecDepth 100000 in
theorem lifted_measureBack (os : Os) (started : os.Started) (H : Type) (enc : TypeId × Value → H) :
    ReturnsInHanded {} Tryd.checked os 9 .any (fun w args => (Rows.measureBackSpec.pre enc Tryd.prog Tryd.f9 [] false w args ∧ laidMetH Tryd.prog laidL w) ∧ sizedMet enc Tryd.prog Tryd.f9 (OpenSpec.ofChange Rows.measureBackSpec) false w args)
      (Rows.measureBackSpec.post enc Tryd.prog Tryd.f9 false true false false) := by
  refine returnsInHanded_of_change_and (C := Tryd.checked) (X := fun w _ => laidMetH Tryd.prog laidL w) (fun _ _ _ hh h => h.of_heap hh) Tryd_own started (by kernel_rfl) Tryd.func9
    (ChangeSpec.witness_at (enc := enc) (C := Tryd.checked) (os := os) (X := fun w _ => laidMetH Tryd.prog laidL w) false (laidW os) #[.string ⟨#[]⟩, .string ⟨#[]⟩] 8 rfl (by kernel_rfl) (by kernel_rfl) (by kernel_rfl) (by kernel_rfl) (by kernel_rfl) (laidW_met os _)) ?_
  intro w0 base args ds gs before hval hW _ hwt hL _
  obtain ⟨e3, e4, i3, i4, hg⟩ := gr_of_laid hL
  exact contract_true (W e3 e4) mixed tokm (Em_sound e3 e4 i3 i4) Tryd_laidOut Tryd.func9 (by kernel_rfl) rfl (Ts := tsMeasureBack) (by kernel_rfl) (by
      intro i T t h1 h2
      rw [Tryd.params9] at h2
      match i with
      | 0 => simp [tsMeasureBack] at h1 h2; subst h1; subst h2; exact ok_str
      | 1 => simp [tsMeasureBack] at h1 h2; subst h1; subst h2; exact ok_str
      | n + 2 => simp [tsMeasureBack] at h1)
    (by
      intro t ht
      rw [Tryd.params9] at ht
      simp at ht
      subst ht
      exact ⟨by kernel_rfl, of_decide_eq_true (by kernel_rfl)⟩)
    rfl (tb := 4) (by kernel_rfl) (by kernel_rfl) (by
      intro ds hd
      match ds, hd with
      | [d0, d1], _ => rfl)
    hrun_measureBack hg hval hW hwt
end Go.Vai
