/-
  What functions of layer 9 and of its reference compute: equations of the abstract run, and plain laws of them.
-/
import Derived.Test.YtnfjgkjapcaobaaGreatDoorM1
set_option linter.unusedVariables false
set_option linter.unusedSimpArgs false
set_option linter.unnecessarySimpa false
set_option linter.unusedSectionVars false
namespace Go.Vai
theorem szNd_w : ∀ (s : Nat) (n : Nd), wNd n ≤ s → szNd n ≤ wNd n
 | 0, .mk k n t a b c d l, h => by unfold wNd at h; omega
 | s + 1, .mk k n t a b c d l, h => by
  unfold wNd at h ⊢
  unfold szNd
  have hs : ∀ l' : List Nd, (∀ x ∈ l', x ∈ l) → szNd.szNds l' ≤ wNd.wNds l' := by
   intro l'
   induction l' with
   | nil => intro _; simp [szNd.szNds]
   | cons x r ih =>
    intro hx
    have h1 := szNd_w s x (by have := wNd_mem l x (hx x (by simp)); omega)
    have h2 := ih (fun y hy => hx y (by simp [hy]))
    simp only [szNd.szNds, wNd.wNds]
    omega
  have := hs l (fun _ h => h)
  omega
end Go.Vai
