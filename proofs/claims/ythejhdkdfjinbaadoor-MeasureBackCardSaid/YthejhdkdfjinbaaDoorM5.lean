/-
  Arguments by their types.
-/
import Derived.Test.YthejhdkdfjinbaaDoorM4
set_option linter.unusedVariables false
set_option linter.unusedSimpArgs false
set_option linter.unnecessarySimpa false
namespace Go.Vai
open Go.Deep Go.RowKit Go.ChangeShapes Go.WideShapes Go.Proofs Go.Proofs.YthejhdkdfjinbaaDoor
/-! Arguments by their types. -/
theorem hasT_kind {k : IntKind} {xs : List FV} (h : HasT (.i k) xs) : ∃ n : Int, xs = [.sc (.int k n)] ∧ (Lit.int k n).wf = true := by
  cases h with
  | i k n h => exact ⟨n, rfl, h⟩
theorem hasT_int {xs : List FV} (h : HasT (.i .i64) xs) : ∃ n : Int, xs = [.sc (.int .i64 n)] ∧ inI n := by
  obtain ⟨n, rfl, hw⟩ := hasT_kind h
  have h2 : (decide ((-9223372036854775808 : Int) ≤ n) && decide (n ≤ 9223372036854775807)) = true := hw
  simp only [Bool.and_eq_true, decide_eq_true_eq] at h2
  exact ⟨n, rfl, h2⟩
theorem hasT_str {xs : List FV} (h : HasT .s xs) : ∃ l : List UInt8, xs = [.sc (.string (mkB l))] ∧ l.length ≤ 140737488351232 := by
  cases h with
  | s q h => exact ⟨q.data.toList, by rw [mkB_data], by rw [Array.length_toList]; exact h⟩
theorem hasT_u8 {xs : List FV} (h : HasT (.i .u8) xs) : ∃ n : UInt8, xs = [.sc (.int .u8 n.toNat)] := by
  obtain ⟨n, rfl, hw⟩ := hasT_kind h
  have h' : 0 ≤ n ∧ n < 256 := by
    have h2 : (decide ((0 : Int) ≤ n) && decide (n ≤ 255)) = true := hw
    simp only [Bool.and_eq_true, decide_eq_true_eq] at h2
    omega
  exact ⟨UInt8.ofNat n.toNat, by
    have : (UInt8.ofNat n.toNat).toNat = n.toNat := by simp; omega
    rw [this]; congr 3; omega⟩
theorem hasT_u32 {xs : List FV} (h : HasT (.i .u32) xs) : ∃ n : Int, xs = [.sc (.int .u32 n)] ∧ 0 ≤ n ∧ n < 4294967296 := by
  obtain ⟨n, rfl, hw⟩ := hasT_kind h
  have h2 : (decide ((0 : Int) ≤ n) && decide (n ≤ 4294967295)) = true := hw
  simp only [Bool.and_eq_true, decide_eq_true_eq] at h2
  exact ⟨n, rfl, h2.1, by omega⟩
theorem ok_int : TyOk Tryd.prog (.i .i64) 3 := .i _ _ (by kernel_rfl)
theorem ok_str : TyOk Tryd.prog .s 9 := .s _ (by kernel_rfl)
theorem ok_u8 : TyOk Tryd.prog (.i .u8) 5 := .i _ _ (by kernel_rfl)
theorem ok_u32 : TyOk Tryd.prog (.i .u32) 30 := .i _ _ (by kernel_rfl)
end Go.Vai
