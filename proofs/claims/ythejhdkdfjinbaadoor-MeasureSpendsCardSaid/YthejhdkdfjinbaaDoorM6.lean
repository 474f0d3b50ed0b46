/-
  The row of a law.
-/
import Derived.Test.YthejhdkdfjinbaaDoorM5
import Derived.Test.YthejhdkdfjinbaaDoorM5
set_option linter.unusedVariables false
set_option linter.unusedSimpArgs false
set_option linter.unnecessarySimpa false
namespace Go.Vai
open Go.RowKit Go.ChangeShapes Go.WideShapes Go.Proofs Go.Proofs.YthejhdkdfjinbaaDoor
def tsMeasureSpends : List Ty := [.i .i64, .i .i64, .i .i64, .i .i64, .i .i64]
theorem hrun_measureSpends {e3 e4 : Value} : ∀ xss : List (List FV), xss.length = tsMeasureSpends.length → (∀ (i : Nat) (T : Ty) (xs : List FV), tsMeasureSpends[i]? = some T → xss[i]? = some xs → HasT T xs) → ∃ bl, (W e3 e4).run 3 (List.zipWith argAV tsMeasureSpends xss) [] = some (.fz (.sc (.bool true)), bl) := by
  intro xss hl h
  match xss, hl with
  | [x0, x1, x2, x3, x4], _ =>
    obtain ⟨a0, rfl, h0⟩ := hasT_int (h 0 _ x0 rfl rfl)
    obtain ⟨a1, rfl, h1⟩ := hasT_int (h 1 _ x1 rfl rfl)
    obtain ⟨a2, rfl, h2⟩ := hasT_int (h 2 _ x2 rfl rfl)
    obtain ⟨a3, rfl, h3⟩ := hasT_int (h 3 _ x3 rfl rfl)
    obtain ⟨a4, rfl, h4⟩ := hasT_int (h 4 _ x4 rfl rfl)
    exact ⟨[], law_spends a0 a1 a2 a3 a4 h0 h1 h2 h3 h4⟩
set_option maxRecDepth 100000 in
theorem lifted_measureSpends (os : Os) (started : os.Started) (H : Type) (enc : TypeId × Value → H) :
    ReturnsInHanded {} Tryd.checked os 3 .any (fun w args => (Rows.measureSpendsSpec.pre enc Tryd.prog Tryd.f3 [] false w args ∧ laidMetH Tryd.prog laidL w) ∧ sizedMet enc Tryd.prog Tryd.f3 (OpenSpec.ofChange Rows.measureSpendsSpec) false w args)
      (Rows.measureSpendsSpec.post enc Tryd.prog Tryd.f3 false true false false) := by
  refine returnsInHanded_of_change_and (C := Tryd.checked) (X := fun w _ => laidMetH Tryd.prog laidL w) (fun _ _ _ hh h => h.of_heap hh) Tryd_own started (by kernel_rfl) Tryd.func3
    (ChangeSpec.witness_at (enc := enc) (C := Tryd.checked) (os := os) (X := fun w _ => laidMetH Tryd.prog laidL w) false (laidW os) #[.int .i64 0, .int .i64 0, .int .i64 0, .int .i64 0, .int .i64 0] 8 rfl (by kernel_rfl) (by kernel_rfl) (by kernel_rfl) (by kernel_rfl) (by kernel_rfl) (laidW_met os _)) ?_
  intro w0 base args ds gs before hval hW _ hwt hL _
  obtain ⟨e3, e4, i3, i4, hg⟩ := gr_of_laid hL
  exact contract_true (W e3 e4) mixed tokm (Em_sound e3 e4 i3 i4) Tryd_laidOut Tryd.func3 (by kernel_rfl) rfl (Ts := tsMeasureSpends) (by kernel_rfl) (by
      intro i T t h1 h2
      rw [Tryd.params3] at h2
      match i with
      | 0 => simp [tsMeasureSpends] at h1 h2; subst h1; subst h2; exact ok_int
      | 1 => simp [tsMeasureSpends] at h1 h2; subst h1; subst h2; exact ok_int
      | 2 => simp [tsMeasureSpends] at h1 h2; subst h1; subst h2; exact ok_int
      | 3 => simp [tsMeasureSpends] at h1 h2; subst h1; subst h2; exact ok_int
      | 4 => simp [tsMeasureSpends] at h1 h2; subst h1; subst h2; exact ok_int
      | n + 5 => simp [tsMeasureSpends] at h1)
    (by
      intro t ht
      rw [Tryd.params3] at ht
      simp at ht
      subst ht
      exact ⟨by kernel_rfl, of_decide_eq_true (by kernel_rfl)⟩)
    rfl (tb := 4) (by kernel_rfl) (by kernel_rfl) (by
      intro ds hd
      match ds, hd with
      | [d0, d1, d2, d3, d4], _ => rfl)
    hrun_measureSpends hg hval hW hwt
end Go.Vai
