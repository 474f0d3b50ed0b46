/-
  What functions of layer 9 and of its reference compute: equations of the abstract run, and plain laws of them.
-/
import Derived.Test.YtnfjgkjapcaobaaGreatDoorM9
set_option linter.unusedVariables false
set_option linter.unusedSimpArgs false
set_option linter.unnecessarySimpa false
namespace Go.Vai
open Go.RowKit Go.ChangeShapes Go.WideShapes Go.Deep Go.Proofs Go.Proofs.YtnfjgkjapcaobaaGreatDoor
def plF : List (Nat × Tx) := [(1, .i .i64), (1, .i .i64)]
def nodeF : List (Nat × Tx) := [(1, .i .i64), (1, .i .i64), (1, .s), (2, .st plF), (2, .st plF), (1, .sl (.ref 0) 8)]
def Gx : TG := [(.st nodeF, 27)]
theorem ok_pl : TxOk Tryz.prog Gx (.st plF) 24 := by
 refine .st plF 24 _ Tryz.underlying24 (by kernel_rfl) (by kernel_rfl) ?_ ?_
 ·intro i f g h1 h2
  match i with
  | 0 => simp [plF] at h1 h2; subst h1; subst h2; exact ⟨rfl, by kernel_rfl⟩
  | 1 => simp [plF] at h1 h2; subst h1; subst h2; exact ⟨rfl, by kernel_rfl⟩
  | n + 2 => simp [plF] at h1
 ·intro i f g h1 h2
  match i with
  | 0 => simp [plF] at h1 h2; subst h1; subst h2; exact .i _ _ (by kernel_rfl)
  | 1 => simp [plF] at h1 h2; subst h1; subst h2; exact .i _ _ (by kernel_rfl)
  | n + 2 => simp [plF] at h1
theorem ok_nodeS : TxOk Tryz.prog Gx (.st nodeF) 27 := by
 refine .st nodeF 27 _ Tryz.underlying27 (by kernel_rfl) (by kernel_rfl) ?_ ?_
 ·intro i f g h1 h2
  match i with
  | 0 => simp [nodeF] at h1 h2; subst h1; subst h2; exact ⟨rfl, by kernel_rfl⟩
  | 1 => simp [nodeF] at h1 h2; subst h1; subst h2; exact ⟨rfl, by kernel_rfl⟩
  | 2 => simp [nodeF] at h1 h2; subst h1; subst h2; exact ⟨rfl, by kernel_rfl⟩
  | 3 => simp [nodeF] at h1 h2; subst h1; subst h2; exact ⟨rfl, by kernel_rfl⟩
  | 4 => simp [nodeF] at h1 h2; subst h1; subst h2; exact ⟨rfl, by kernel_rfl⟩
  | 5 => simp [nodeF] at h1 h2; subst h1; subst h2; exact ⟨rfl, by kernel_rfl⟩
  | n + 6 => simp [nodeF] at h1
 ·intro i f g h1 h2
  match i with
  | 0 => simp [nodeF] at h1 h2; subst h1; subst h2; exact .i _ _ (by kernel_rfl)
  | 1 => simp [nodeF] at h1 h2; subst h1; subst h2; exact .i _ _ (by kernel_rfl)
  | 2 => simp [nodeF] at h1 h2; subst h1; subst h2; exact .s _ (by kernel_rfl)
  | 3 => simp [nodeF] at h1 h2; subst h1; subst h2; exact ok_pl
  | 4 => simp [nodeF] at h1 h2; subst h1; subst h2; exact ok_pl
  | 5 => simp [nodeF] at h1 h2; subst h1; subst h2; exact .sl _ _ _ 27 (by kernel_rfl) (by kernel_rfl) (by decide) (of_decide_eq_true (by kernel_rfl)) (.ref 0 _ _ rfl)
  | n + 6 => simp [nodeF] at h1
theorem Gx_ok : ∀ (j : Nat) (T : Tx) (t : TypeId), Gx[j]? = some (T, t) → TxOk Tryz.prog Gx T t ∧ ∃ fs, T = .st fs := by
 intro j T t h
 match j with
 | 0 =>
  simp [Gx] at h
  obtain ⟨rfl, rfl⟩ := h
  exact ⟨ok_nodeS, nodeF, rfl⟩
 | n + 1 => simp [Gx] at h
theorem hasX_str {Γ : TG} {xs : List FV} (h : HasX Γ .s xs) : ∃ l : List UInt8, xs = [.sc (.string (mkB l))] ∧ l.length ≤ 140737488351232 := by
 cases h with
 | s q h => exact ⟨q.data.toList, by rw [mkB_data], by rw [Array.length_toList]; exact h⟩
end Go.Vai
