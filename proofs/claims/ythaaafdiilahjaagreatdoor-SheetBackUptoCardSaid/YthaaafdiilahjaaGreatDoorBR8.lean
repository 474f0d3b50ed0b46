/-
  What functions of layer 9 and of its reference compute: equations of the abstract run, and plain laws of them.
-/
import Derived.Test.YthaaafdiilahjaaGreatDoorBR5
set_option linter.unusedVariables false
set_option linter.unusedSimpArgs false
set_option linter.unnecessarySimpa false
set_option linter.unusedSectionVars false
namespace Go.Vai
variable {m : Int} {e3 e4 : Value}
end Go.Vai
namespace Go.Vai
variable {m : Int} {e3 e4 : Value}
def szC (l : List Cel) : Nat := (l.map fun c => c.2.2.length + 1).sum
def szT (l : List (List UInt8)) : Nat := (l.map fun t => t.length + 1).sum
def mu (s : RS) : Nat := szC (s.tab.map (·.2)) + szT s.mac
theorem szC_filter (p : Cel → Bool) : ∀ l : List Cel, szC (l.filter p) ≤ szC l
 | [] => Nat.le_refl _
 | c :: r => by
  have := szC_filter p r
  unfold szC at *
  rw [List.filter_cons]
  split <;> simp only [List.map_cons, List.sum_cons] <;> omega
theorem szC_app (a b : List Cel) : szC (a ++ b) = szC a + szC b := by simp [szC]
theorem szC_tab (l : List Cel) (x : Cel) : szC (tabC l x) ≤ szC l + x.2.2.length + 1 := by
 have := szC_filter (fun d => !celEq d x) l
 unfold tabC
 split
 ·omega
 ·rw [szC_app]
  have : szC [x] = x.2.2.length + 1 := by simp [szC]
  omega
theorem lineK_len (l : List UInt8) : (∀ x, lineK l = .cel x → x.2.2.length ≤ l.length) ∧ ∀ t, lineK l = .mac t → t.length ≤ l.length := by
 unfold lineK
 cases hc : celK l with
 | some c =>
  refine ⟨fun x h => ?_, fun t h => by cases h⟩
  injection h with h
  subst h
  unfold celK at hc
  split at hc
  ·obtain ⟨p, _, rfl⟩ := Option.map_eq_some_iff.1 hc
   simp
  ·cases hc
 | none =>
  refine ⟨fun x h => ?_, fun t h => ?_⟩
  ·simp only at h
   split at h
   ·cases h
   ·split at h
    ·unfold widK at h
     split at h
     ·split at h <;> cases h
     ·cases h
    ·cases h
  ·simp only at h
   split at h
   ·injection h with h; subst h; simp
   ·split at h
    ·unfold widK at h
     split at h
     ·split at h <;> cases h
     ·cases h
    ·cases h
theorem step_mu (s : RS) (l : List UInt8) : mu (stepE s (lineK l)) ≤ mu s + l.length + 1 := by
 have hl := lineK_len l
 unfold mu
 cases hk : lineK l with
 | cel x =>
  have := hl.1 x hk
  simp only [stepE]
  rw [putE_tab]
  have := szC_tab (s.tab.map (·.2)) x
  omega
 | mac t =>
  have := hl.2 t hk
  simp only [stepE]
  have : szT (s.mac ++ [t]) = szT s.mac + (t.length + 1) := by simp [szT]
  omega
 | wid i n => simp only [stepE]; omega
 | non => simp only [stepE]; omega
theorem fold_mu : ∀ (L : List (List UInt8)) (s : RS), mu (foldE s L) ≤ mu s + szT L
 | [], s => by simp [foldE, szT]
 | l :: r, s => by
  have h1 := step_mu s l
  have h2 := fold_mu r (stepE s (lineK l))
  have : szT (l :: r) = l.length + 1 + szT r := by simp [szT]
  show mu (foldE (stepE s (lineK l)) r) ≤ _
  omega
theorem split_sz : ∀ l, szT (splitG l) = l.length + 1
 | [] => by simp [splitG, szT]
 | b :: r => by
  have ih := split_sz r
  rw [splitG_cons]
  split
  ·simp only [szT, List.map_cons, List.sum_cons, List.length_nil, List.length_cons] at ih ⊢
   omega
  ·cases hs : splitG r with
   | nil => exact absurd hs (splitG_ne r)
   | cons h t =>
    rw [hs] at ih
    simp only [szT, List.map_cons, List.sum_cons, List.length_cons] at ih ⊢
    omega
theorem szC_ins (c : Cel) : ∀ l : List Cel, szC (insC c l) = szC (c :: l)
 | [] => rfl
 | d :: r => by
  have := szC_ins c r
  rw [insC_cons]
  split
  ·rfl
  ·simp only [szC, List.map_cons, List.sum_cons] at this ⊢
   omega
theorem szC_sort : ∀ l : List Cel, szC (sortC l) = szC l
 | [] => rfl
 | c :: r => by
  rw [sortC, szC_ins]
  have := szC_sort r
  simp only [szC, List.map_cons, List.sum_cons] at this ⊢
  omega
theorem szC_eq : ∀ l : List Cel, szC l = l.length + sumT (l.map (·.2.2))
 | [] => rfl
 | c :: r => by
  have := szC_eq r
  simp only [szC, sumT, List.map_cons, List.sum_cons, List.length_cons] at this ⊢
  omega
theorem szT_eq : ∀ l : List (List UInt8), szT l = l.length + sumT l
 | [] => rfl
 | c :: r => by
  have := szT_eq r
  simp only [szT, sumT, List.map_cons, List.sum_cons, List.length_cons] at this ⊢
  omega
theorem read_sz (b : List UInt8) : szSh (readS b) ≤ b.length + 27 := by
 have h1 := fold_mu (splitG (b.drop 8)) rs0
 rw [split_sz, List.length_drop] at h1
 have h0 : mu rs0 = 0 := rfl
 have h2 := (fold_ok (splitG (b.drop 8)) rs0 rs0_ok).1.1
 unfold readS szSh tabS
 unfold mu at h1 h0
 simp only
 have h3 := szC_sort ((foldE rs0 (splitG (b.drop 8))).tab.map (·.2))
 rw [szC_eq] at h3
 rw [szT_eq] at h1
 omega
theorem mem_sumT {l : List (List UInt8)} {t : List UInt8} (ht : t ∈ l) : t.length ≤ sumT l := by
 obtain ⟨i, hi⟩ := List.mem_iff_getElem?.1 ht
 have h1 := sumT_take l i t hi
 have h2 := sumT_le l (i + 1)
 omega
theorem sz_texts (s : Sh) (n : Nat) (h : szSh s ≤ n) : (∀ c ∈ s.cells, c.2.2.length ≤ n) ∧ (∀ t ∈ s.mac, t.length ≤ n) ∧ s.cells.length ≤ n ∧ s.wid.length ≤ n ∧ s.mac.length ≤ n := by
 have hsz : szSh s = s.cells.length + s.wid.length + s.mac.length + sumT (s.cells.map (·.2.2)) + sumT s.mac := rfl
 refine ⟨fun c hc => ?_, fun t ht => ?_, by omega, by omega, by omega⟩
 ·have := mem_sumT (l := s.cells.map (·.2.2)) (List.mem_map.2 ⟨c, hc, rfl⟩)
  omega
 ·have := mem_sumT ht
  omega
def strictB (b : List UInt8) : Bool := hdrG.isPrefixOf b && decide (writeG (readS b) = b)
def strictS (b : List UInt8) : Sh := if strictB b then readS b else sh0
theorem run_strict (b : List UInt8) (hb : b.length ≤ 100000000) : (W m e3 e4).run 17 [bs b] [] = some (.tup [shA (strictS b), bo (strictB b)], []) := by
 have h1 := run_Read (m := m) (e3 := e3) (e4 := e4) b b.length (by omega) (by unfold inI; omega)
 have hz := read_sz b
 obtain ⟨t1, t2, _⟩ := sz_texts _ _ hz
 have h2 := run_write (m := m) (e3 := e3) (e4 := e4) (readS b) (by omega) (fun c hc => by have := t1 c hc; omega) (fun t ht => by have := t2 t ht; omega)
 unfold strictS strictB
 unfold readR at h1
 clear t1 t2
 by_cases hp : hdrG.isPrefixOf b = true
 ·rw [if_pos hp, if_pos (by omega)] at h1
  rw [hp]
  generalize readS b = s at *
  generalize writeG s = w at *
  obtain ⟨sc, sw, sm⟩ := s
  by_cases he : w = b
  ·subst he
   simp only [decide_true, Bool.and_true, if_pos]
   simp only [shA_mk, rwS] at h1 h2 ⊢
   refine run_wp (by rw [W_T]; exact rfl) ?_
   simp -dsimp -implicitDefEqProofs (maxSteps := 1000000) (disch := omega) [ST, h1, h2]
  ·simp only [he, decide_false, Bool.and_false, Bool.false_eq_true, if_false]
   simp only [shA_mk, rwS, sh0, List.map_nil] at h1 h2 ⊢
   refine run_wp (by rw [W_T]; exact rfl) ?_
   simp -dsimp -implicitDefEqProofs (maxSteps := 1000000) (disch := omega) [ST, h1, h2, he]
 ·rw [if_neg hp] at h1
  rw [Bool.eq_false_iff.2 hp]
  simp only [Bool.false_and, Bool.false_eq_true, if_false]
  simp only [shA_mk, rwS, sh0, List.map_nil] at h1 h2 ⊢
  refine run_wp (by rw [W_T]; exact rfl) ?_
  simp -dsimp -implicitDefEqProofs (maxSteps := 1000000) (disch := omega) [ST, h1]
theorem same_ok (s : Sh) (n : Nat) (h : szSh s ≤ n) (hn : n ≤ 1000000000000) : (W m e3 e4).run 14 [shA s, shA s] [] = some (bo true, []) := by
 obtain ⟨_, _, h1, h2, h3⟩ := sz_texts s n h
 have := run_sameSheet (m := m) (e3 := e3) (e4 := e4) s s ⟨by omega, by omega, by omega⟩
 simpa using this
end Go.Vai
