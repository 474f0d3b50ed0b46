/-
  What functions of layer 9 and of its reference compute: equations of the abstract run, and plain laws of them.
-/
import Derived.Test.YthaaafdiilahjaaGreatDoorBR5
set_option linter.unusedVariables false
set_option linter.unusedSimpArgs false
set_option linter.unnecessarySimpa false
set_option linter.unusedSectionVars false
namespace Go.Vai
variable {m : Int} {e3 e4 : Value}
end Go.Vai
namespace Go.Vai
variable {m : Int} {e3 e4 : Value}
theorem mem_sumT {l : List (List UInt8)} {t : List UInt8} (ht : t ∈ l) : t.length ≤ sumT l := by
 obtain ⟨i, hi⟩ := List.mem_iff_getElem?.1 ht
 have h1 := sumT_take l i t hi
 have h2 := sumT_le l (i + 1)
 omega
theorem sz_texts (s : Sh) (n : Nat) (h : szSh s ≤ n) : (∀ c ∈ s.cells, c.2.2.length ≤ n) ∧ (∀ t ∈ s.mac, t.length ≤ n) ∧ s.cells.length ≤ n ∧ s.wid.length ≤ n ∧ s.mac.length ≤ n := by
 have hsz : szSh s = s.cells.length + s.wid.length + s.mac.length + sumT (s.cells.map (·.2.2)) + sumT s.mac := rfl
 refine ⟨fun c hc => ?_, fun t ht => ?_, by omega, by omega, by omega⟩
 ·have := mem_sumT (l := s.cells.map (·.2.2)) (List.mem_map.2 ⟨c, hc, rfl⟩)
  omega
 ·have := mem_sumT ht
  omega
theorem same_ok (s : Sh) (n : Nat) (h : szSh s ≤ n) (hn : n ≤ 1000000000000) : (W m e3 e4).run 14 [shA s, shA s] [] = some (bo true, []) := by
 obtain ⟨_, _, h1, h2, h3⟩ := sz_texts s n h
 have := run_sameSheet (m := m) (e3 := e3) (e4 := e4) s s ⟨by omega, by omega, by omega⟩
 simpa using this
end Go.Vai
