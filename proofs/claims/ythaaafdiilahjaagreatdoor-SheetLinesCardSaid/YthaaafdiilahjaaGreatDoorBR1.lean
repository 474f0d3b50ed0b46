/-
  What functions of layer 9 and of its reference compute: equations of the abstract run, and plain laws of them.
-/
import Derived.Lib.IndexLaws
import Derived.Test.YthaaafdiilahjaaGreatDoorBN9
set_option linter.unusedVariables false
set_option linter.unusedSimpArgs false
set_option linter.unnecessarySimpa false
set_option linter.unusedSectionVars false
namespace Go.Vai
def celLs (a b : Cel) : Bool := decide (a.1 < b.1) || (decide (a.1 = b.1) && decide (a.2.1 < b.2.1))
def celEq (a b : Cel) : Bool := decide (a.1 = b.1) && decide (a.2.1 = b.2.1)
def srtC (l : List Cel) : Prop := l.Pairwise fun a b => celLs a b = true
theorem celLs_iff {a b : Cel} : celLs a b = true ↔ a.1 < b.1 ∨ (a.1 = b.1 ∧ a.2.1 < b.2.1) := by simp [celLs]
theorem celEq_iff {a b : Cel} : celEq a b = true ↔ a.1 = b.1 ∧ a.2.1 = b.2.1 := by simp [celEq]
theorem celLe_it {a b : Cel} : celLe a b = true ↔ a.1 < b.1 ∨ (a.1 = b.1 ∧ a.2.1 ≤ b.2.1) := by simp [celLe]
theorem insC_le {c : Cel} {l : List Cel} (h : ∀ d ∈ l, celLe c d = true) : insC c l = c :: l := by
 cases l with
 | nil => rfl
 | cons e r => unfold insC; rw [if_pos (h e (by simp))]
def nodC (l : List Cel) : Prop := l.Pairwise fun a b => celEq a b = false
theorem celEq_comm (a b : Cel) : celEq a b = celEq b a := by
 rw [Bool.eq_iff_iff, celEq_iff, celEq_iff]
 constructor <;> (rintro ⟨h1, h2⟩; exact ⟨h1.symm, h2.symm⟩)
theorem insC_comm {a b : Cel} (hab : celEq a b = false) : ∀ {l : List Cel}, insC a (insC b l) = insC b (insC a l)
 | [] => by
  rw [Bool.eq_false_iff, Ne, celEq_iff] at hab
  simp only [insC]
  by_cases h : celLe a b = true
  ·have : ¬ celLe b a = true := by rw [celLe_it] at h ⊢; omega
   rw [if_pos h, if_neg this]
  ·have : celLe b a = true := by rw [celLe_it] at h ⊢; omega
   rw [if_neg h, if_pos this]
 | e :: r => by
  have hab' := hab
  rw [Bool.eq_false_iff, Ne, celEq_iff] at hab'
  by_cases h1 : celLe a e = true <;> by_cases h2 : celLe b e = true
  ·by_cases h : celLe a b = true
   ·have : ¬ celLe b a = true := by rw [celLe_it] at h ⊢; omega
    simp [insC, h1, h2, h, this]
   ·have : celLe b a = true := by rw [celLe_it] at h ⊢; omega
    simp [insC, h1, h2, h, this]
  ·have h : celLe a b = true := by rw [celLe_it] at h1 h2 ⊢; omega
   have h' : ¬ celLe b a = true := by rw [celLe_it] at h1 h2 ⊢; omega
   simp [insC, h1, h2, h, h']
  ·have h : celLe b a = true := by rw [celLe_it] at h1 h2 ⊢; omega
   have h' : ¬ celLe a b = true := by rw [celLe_it] at h1 h2 ⊢; omega
   simp [insC, h1, h2, h, h']
  ·simp [insC, h1, h2, insC_comm hab (l := r)]
theorem nod_filter {p : Cel → Bool} {l : List Cel} (h : nodC l) : nodC (l.filter p) := List.Pairwise.filter p h
theorem nod_snoc {c : Cel} {l : List Cel} (h : nodC l) (hc : ∀ d ∈ l, celEq d c = false) : nodC (l ++ [c]) := by
 unfold nodC at *
 rw [List.pairwise_append]
 refine ⟨h, by simp, fun a ha b hb => ?_⟩
 simp at hb
 subst hb
 exact hc a ha
def tabC (l : List Cel) (c : Cel) : List Cel := if c.2.2 = [] then l.filter (fun d => !celEq d c) else l.filter (fun d => !celEq d c) ++ [c]
theorem nod_tab {l : List Cel} (h : nodC l) (c : Cel) : nodC (tabC l c) := by
 unfold tabC
 split
 ·exact nod_filter h
 ·exact nod_snoc (nod_filter h) fun d hd => by simpa using (List.mem_filter.1 hd).2
end Go.Vai
namespace Go.Vai
variable {m : Int} {e3 e4 : Value}
theorem dec_head1 (u : Nat) (h0 : 1 ≤ u) : ∀ c r, Lib.decDigits u = c :: r → 49 ≤ c.toNat ∧ c.toNat ≤ 57 := by
 induction u using Nat.strongRecOn with
 | ind u ih =>
  intro c r h
  rw [Lib.decDigits] at h
  split at h
  ·rename_i h1
   injection h with h h2
   rw [← h]
   simp
   omega
  ·rename_i h1
   cases hd : Lib.decDigits (u / 10) with
   | nil => exact absurd hd (dec_ne _)
   | cons c2 r2 =>
    rw [hd] at h
    injection h with h h2
    rw [← h]
    exact ih _ (by omega) (by omega) c2 r2 hd
theorem parse_head {d : UInt8} {r : List UInt8} (h : (parseG (d :: r)).2 = true) (hp : 1 ≤ (parseG (d :: r)).1) : 49 ≤ d.toNat ∧ d.toNat ≤ 57 := by
 rcases parseG_cases (d :: r) with ⟨v, h1, h2, h3⟩ | ⟨h1, h2⟩
 ·rw [h1] at hp
  unfold Lib.itoa at h2
  rw [if_neg (by simp at hp; omega)] at h2
  exact dec_head1 v.toNat (by simp at hp; omega) d r h2
 ·rw [h1] at h; cases h
theorem placeG_I : ∀ l, placeG l = if (placeI l).2 = true then some (placeI l).1 else none
 | [] => rfl
 | [c] => by rw [placeG, if_neg (by simp)]; rfl
 | c :: d :: r => by
  rw [placeG, placeI]
  by_cases h : r.length ≤ 1 ∧ 0 < colG c ∧ 49 ≤ d.toNat ∧ d.toNat ≤ 57
  ·rw [if_pos h]
   by_cases h2 : (parseG (d :: r)).2 = true ∧ plB (parseG (d :: r)).1 (colG c) = true
   ·rw [if_pos ⟨by simp only [List.length_cons]; omega, h.2.1, h2⟩, if_pos (by simp [h2.1, h2.2])]
   ·rw [if_neg (fun hh => h2 hh.2.2), if_neg (by simpa using h2)]
  ·rw [if_neg h, if_neg, if_neg (by simp)]
   rintro ⟨h1, h2, h3, h4⟩
   have := parse_head h3 (plB_iff h4).1.1
   simp only [List.length_cons] at h1
   exact h ⟨by omega, h2, this⟩
def cutP (c : UInt8) : List UInt8 → Nat
 | [] => 0
 | b :: r => if b = c then 0 else cutP c r + 1
theorem cutP_le (c : UInt8) : ∀ l, cutP c l ≤ l.length
 | [] => by simp [cutP]
 | b :: r => by unfold cutP; split <;> simp [cutP_le c r]
theorem cutP_mem (c : UInt8) : ∀ l, c ∈ l ↔ cutP c l < l.length
 | [] => by simp [cutP]
 | b :: r => by
  unfold cutP
  by_cases h : b = c
  ·simp [h]
  ·have h' : ¬ c = b := fun e => h e.symm
   rw [if_neg h, List.mem_cons, or_iff_right h', cutP_mem c r]
   simp
theorem cutP_get (c : UInt8) : ∀ (l : List UInt8) (i : Nat), i < cutP c l → l[i]? ≠ some c
 | [], i, h => by simp [cutP] at h
 | b :: r, i, h => by
  unfold cutP at h
  split at h
  ·omega
  ·rename_i hb
   cases i with
   | zero => simpa using hb
   | succ i => simpa using cutP_get c r i (by omega)
theorem cutP_at (c : UInt8) : ∀ (l : List UInt8), cutP c l < l.length → l[cutP c l]? = some c
 | [], h => by simp [cutP] at h
 | b :: r, h => by
  unfold cutP at h ⊢
  split at h
  ·rename_i hb; rw [if_pos hb]; simp [hb]
  ·rename_i hb; rw [if_neg hb]; simpa using cutP_at c r (by simpa using h)
theorem cutP_eq (c : UInt8) (l : List UInt8) (i : Nat) (h1 : ∀ k, k < i → l[k]? ≠ some c) (h2 : l[i]? = some c ∨ i = l.length) : cutP c l = i := by
 have h3 := cutP_le c l
 rcases Nat.lt_trichotomy (cutP c l) i with h | h | h
 ·have hi : i ≤ l.length := by
   rcases h2 with h2 | h2
   ·exact Nat.le_of_lt (List.getElem?_eq_some_iff.1 h2).1
   ·omega
  exact absurd (cutP_at c l (by omega)) (h1 _ h)
 ·exact h
 ·rcases h2 with h2 | h2
  ·exact absurd h2 (cutP_get c l i h)
  ·omega
theorem idx_cut (l : List UInt8) (c : UInt8) : Lib.indexByte l c = if c ∈ l then (cutP c l : Int) else -1 := by
 have hg := Lib.indexByte_ge l c
 have hm := idx_ge l c
 split
 ·rename_i h
  obtain ⟨k, hk⟩ : ∃ k : Nat, Lib.indexByte l c = k := ⟨(Lib.indexByte l c).toNat, by have := hm.2 h; omega⟩
  obtain ⟨h1, h2⟩ := Lib.indexByte_some hk
  rw [hk, cutP_eq c l k h2 (.inl h1)]
 ·rename_i h
  have : ¬ 0 ≤ Lib.indexByte l c := fun h2 => h (hm.1 h2)
  omega
theorem run_idx (c : UInt8) (l : List UInt8) (hl : l.length ≤ 1000000000000) : (W m e3 e4).run 130 [bs l, bs [c]] [] = some (i64 (if c ∈ l then (cutP c l : Int) else -1), []) := by
 have hE : (W m e3 e4).run 166 [bs l, by8 c] [] = some (i64 (Lib.indexByte l c), []) := by
  refine run_E rfl ?_
  simp only [Ez, E0, mkB_list]
  have : ((c.toNat : Int).toNat).toUInt8 = c := by simp
  rw [this]
 rw [idx_cut] at hE
 refine run_wp (by rw [W_T]; exact rfl) ?_
 by_cases h : [c] = l
 ·subst h
  simp -dsimp -implicitDefEqProofs (maxSteps := 1000000) (disch := omega) [ST, cutP]
 ·generalize (if c ∈ l then (cutP c l : Int) else -1) = z at *
  simp -dsimp -implicitDefEqProofs (maxSteps := 1000000) (disch := omega) [ST, h, hE]
theorem run_sIndex (c : UInt8) (l : List UInt8) (hl : l.length ≤ 1000000000000) : (W m e3 e4).run 97 [bs l, bs [c]] [] = some (i64 (if c ∈ l then (cutP c l : Int) else -1), []) := by
 have h := run_idx (m := m) (e3 := e3) (e4 := e4) c l hl
 generalize (if c ∈ l then (cutP c l : Int) else -1) = z at *
 refine run_wp (by rw [W_T]; exact rfl) ?_
 simp -dsimp -implicitDefEqProofs (maxSteps := 1000000) (disch := omega) [ST, h]
def cutR (c : UInt8) (l : List UInt8) : AV := if c ∈ l then .tup [bs (l.take (cutP c l)), bs (l.drop (cutP c l + 1)), bo true] else .tup [bs l, bs [], bo false]
theorem run_cut0 (c : UInt8) (l : List UInt8) (hl : l.length ≤ 1000000000000) : (W m e3 e4).run 105 [bs l, bs [c]] [] = some (cutR c l, []) := by
 have h := run_idx (m := m) (e3 := e3) (e4 := e4) c l hl
 unfold cutR
 by_cases hc : c ∈ l
 ·have h1 := (cutP_mem c l).1 hc
  rw [if_pos hc] at h ⊢
  generalize cutP c l = k at *
  refine run_wp (by rw [W_T]; exact rfl) ?_
  simp -dsimp -implicitDefEqProofs (maxSteps := 1000000) (disch := omega) [ST, h, show k ≤ l.length by omega, show k + 1 ≤ l.length by omega, List.take_of_length_le]
 ·rw [if_neg hc] at h ⊢
  refine run_wp (by rw [W_T]; exact rfl) ?_
  simp -dsimp -implicitDefEqProofs (maxSteps := 1000000) (disch := omega) [ST, h]
theorem run_cut (c : UInt8) (l : List UInt8) (hl : l.length ≤ 1000000000000) : (W m e3 e4).run 70 [bs l, bs [c]] [] = some (cutR c l, []) := by
 have h := run_cut0 (m := m) (e3 := e3) (e4 := e4) c l hl
 unfold cutR at h ⊢
 refine run_wp (by rw [W_T]; exact rfl) ?_
 by_cases hc : c ∈ l
 ·rw [if_pos hc] at h ⊢
  simp -dsimp -implicitDefEqProofs (maxSteps := 1000000) (disch := omega) [ST, h]
 ·rw [if_neg hc] at h ⊢
  simp -dsimp -implicitDefEqProofs (maxSteps := 1000000) (disch := omega) [ST, h]
def cpxR (l p : List UInt8) : AV := if p.isPrefixOf l = true then .tup [bs (l.drop p.length), bo true] else .tup [bs l, bo false]
theorem run_cutPrefix (l p : List UInt8) (hl : l.length ≤ 1000000000000) (hp : p.length ≤ 1000000000000) : (W m e3 e4).run 43 [bs l, bs p] [] = some (cpxR l p, []) := by
 have h := run_hasp (m := m) (e3 := e3) (e4 := e4) l p hl hp
 unfold cpxR
 by_cases hc : p.isPrefixOf l = true
 ·rw [hc] at h
  have h1 : p.length ≤ l.length := (List.isPrefixOf_iff_prefix.1 hc).length_le
  have h0 : (W m e3 e4).run 67 [bs l, bs p] [] = some (.tup [bs (l.drop p.length), bo true], []) := by
   refine run_wp (by rw [W_T]; exact rfl) ?_
   simp -dsimp -implicitDefEqProofs (maxSteps := 1000000) (disch := omega) [ST, h, h1, List.take_of_length_le]
  rw [if_pos hc]
  refine run_wp (by rw [W_T]; exact rfl) ?_
  simp -dsimp -implicitDefEqProofs (maxSteps := 1000000) (disch := omega) [ST, h0]
 ·rw [Bool.eq_false_iff.2 hc] at h
  have h0 : (W m e3 e4).run 67 [bs l, bs p] [] = some (.tup [bs l, bo false], []) := by
   refine run_wp (by rw [W_T]; exact rfl) ?_
   simp -dsimp -implicitDefEqProofs (maxSteps := 1000000) (disch := omega) [ST, h]
  rw [if_neg hc]
  refine run_wp (by rw [W_T]; exact rfl) ?_
  simp -dsimp -implicitDefEqProofs (maxSteps := 1000000) (disch := omega) [ST, h0]
end Go.Vai
namespace Go.Vai
variable {m : Int} {e3 e4 : Value}
inductive LK where
 | cel (c : Cel)
 | mac (t : List UInt8)
 | wid (i : Nat) (n : Int)
 | non
def macP : List UInt8 := [109, 97, 99, 114, 111, 32]
def widP : List UInt8 := [119, 105, 100, 116, 104, 32]
def widK : List UInt8 → LK
 | a :: b :: c :: r => if b = 32 ∧ 0 < colG a ∧ (parseG (c :: r)).2 = true then .wid (colG a - 1) (max 1 (min (parseG (c :: r)).1 20)) else .non
 | _ => .non
def celK (l : List UInt8) : Option Cel := if 61 ∈ l then (placeG (l.take (cutP 61 l))).map fun p => (p.1, p.2, l.drop (cutP 61 l + 1)) else none
def lineK (l : List UInt8) : LK := match celK l with
 | some c => .cel c
 | none => if macP.isPrefixOf l = true then .mac (l.drop 6) else if widP.isPrefixOf l = true then widK (l.drop 6) else .non
structure RS where
 wid : List Int
 mac : List (List UInt8)
 tab : List (Nat × Cel)
 cnt : Nat
def putE (L : List (Nat × Cel)) (c : Nat) (x : Cel) : List (Nat × Cel) := if x.2.2 = [] then L.filter (fun p => !celEq p.2 x) else L.filter (fun p => !celEq p.2 x) ++ [(c, x)]
def stepE (s : RS) : LK → RS
 | .cel x => ⟨s.wid, s.mac, putE s.tab s.cnt x, if x.2.2 = [] then s.cnt else s.cnt + 1⟩
 | .mac t => ⟨s.wid, s.mac ++ [t], s.tab, s.cnt⟩
 | .wid i n => ⟨s.wid.set i n, s.mac, s.tab, s.cnt⟩
 | .non => s
def eEnt (p : Nat × Cel) : Nat × Value × FV := (p.1, .agg ⟨[.int .i64 p.2.1, .int .i64 p.2.2.1]⟩, .sc (.string (mkB p.2.2.2)))
def rsB (s : RS) : List (Option Blk) := [some (.box [.emp, .osl 1 1 0 s.wid.length, .osl 2 1 0 s.mac.length]), some (.arr 1 (s.wid.map eIn)), some (.arr 1 (s.mac.map eTx)), some (.map (s.tab.map eEnt) s.cnt)]
def rdO (s : RS) : LK → List (Option Blk)
 | .mac t => [some (.box [.emp, .osl 1 1 0 s.wid.length, .osl 4 1 0 (s.mac ++ [t]).length]), some (.arr 1 (s.wid.map eIn)), none, some (.map (s.tab.map eEnt) s.cnt), some (.arr 1 ((s.mac ++ [t]).map eTx))]
 | k => rsB (stepE s k)
theorem find_no (x : Cel) : ∀ (L : List (Nat × Cel)) (j : Nat), (∀ p ∈ L, celEq p.2 x = false) → findM 3 (.agg ⟨[.int .i64 x.1, .int .i64 x.2.1]⟩) (L.map eEnt) j = some none
 | [], _, _ => rfl
 | p :: r, j, h => by
  have h1 := h p (by simp)
  rw [Bool.eq_false_iff, Ne, celEq_iff] at h1
  have h2 : (decide (x.1 = p.2.1) && decide (x.2.1 = p.2.2.1)) = false := by
   rw [Bool.eq_false_iff, Ne]; simp only [Bool.and_eq_true, decide_eq_true_eq]; omega
  simp only [List.map_cons, findM, eEnt, eqK, h2]
  exact find_no x r (j + 1) fun q hq => h q (by simp [hq])
theorem find_tab (x : Cel) : ∀ (L : List (Nat × Cel)) (j : Nat), nodC (L.map (·.2)) →
 (∃ i y, findM 3 (.agg ⟨[.int .i64 x.1, .int .i64 x.2.1]⟩) (L.map eEnt) j = some (some (j + i, y)) ∧ (L.map eEnt).eraseIdx i = (L.filter fun p => !celEq p.2 x).map eEnt) ∨
 (findM 3 (.agg ⟨[.int .i64 x.1, .int .i64 x.2.1]⟩) (L.map eEnt) j = some none ∧ (L.filter fun p => !celEq p.2 x) = L)
 | [], _, _ => .inr ⟨rfl, rfl⟩
 | p :: r, j, h => by
  unfold nodC at h
  rw [List.map_cons, List.pairwise_cons] at h
  by_cases h1 : celEq p.2 x = true
  ·have h1' := celEq_iff.1 h1
   have h2 : (decide (x.1 = p.2.1) && decide (x.2.1 = p.2.2.1)) = true := by
    simp only [Bool.and_eq_true, decide_eq_true_eq]; omega
   refine .inl ⟨0, .sc (.string (mkB p.2.2.2)), by simp only [List.map_cons, findM, eEnt, eqK, h2]; rfl, ?_⟩
   rw [List.filter_cons_of_neg (by simp [h1]), List.map_cons, List.eraseIdx_cons_zero]
   congr 1
   symm
   refine List.filter_eq_self.2 fun q hq => ?_
   have h3 := h.1 q.2 (List.mem_map.2 ⟨q, hq, rfl⟩)
   rw [Bool.eq_false_iff, Ne, celEq_iff] at h3
   have : ¬ celEq q.2 x = true := by rw [celEq_iff]; omega
   simpa using this
  ·have h2 : (decide (x.1 = p.2.1) && decide (x.2.1 = p.2.2.1)) = false := by
    rw [celEq_iff] at h1
    rw [Bool.eq_false_iff, Ne]; simp only [Bool.and_eq_true, decide_eq_true_eq]; omega
   rcases find_tab x r (j + 1) h.2 with ⟨i, y, g1, g2⟩ | ⟨g1, g2⟩
   ·refine .inl ⟨i + 1, y, ?_, ?_⟩
    ·simp only [List.map_cons, findM, eEnt, eqK, h2]
     rw [show j + (i + 1) = j + 1 + i by omega]
     exact g1
    ·rw [List.filter_cons_of_pos (by simpa using h1), List.map_cons, List.map_cons, List.eraseIdx_cons_succ, g2]
   ·refine .inr ⟨?_, ?_⟩
    ·simp only [List.map_cons, findM, eEnt, eqK, h2]
     exact g1
    ·rw [List.filter_cons_of_pos (by simpa using h1), g2]
theorem colG_lt (c : UInt8) : colG c ≤ 26 := by unfold colG; split <;> omega
theorem run_read (s : RS) (l : List UInt8) (hl : l.length ≤ 1000000000000) (hw : s.wid.length = 26) (hm : s.mac.length ≤ 1000000000000) (hn : nodC (s.tab.map (·.2))) : (W m e3 e4).run 46 [.bp 0 0, .mp 3, bs l] (rsB s) = some (.tup [], rdO s (lineK l)) := by
 obtain ⟨wd, mc, tb, ct⟩ := s
 simp only at hw hm hn
 have hcut := run_cut (m := m) (e3 := e3) (e4 := e4) 61 l hl
 have hcm := run_cutPrefix (m := m) (e3 := e3) (e4 := e4) l [109, 97, 99, 114, 111, 32] hl (by decide)
 have hcw := run_cutPrefix (m := m) (e3 := e3) (e4 := e4) l [119, 105, 100, 116, 104, 32] hl (by decide)
 unfold cpxR at hcm hcw
 have hlen := cutP_le 61 l
 unfold lineK
 cases hc : celK l with
 | some x =>
  unfold celK at hc
  by_cases h61 : (61 : UInt8) ∈ l
  ·rw [if_pos h61] at hc
   obtain ⟨p, hp, rfl⟩ := Option.map_eq_some_iff.1 hc
   have hpl := run_placeOf (m := m) (e3 := e3) (e4 := e4) (l.take (cutP 61 l)) (by rw [List.length_take]; omega)
   rw [placeG_I] at hp
   split at hp
   ·rename_i h2
    injection hp with hp
    rw [h2, hp] at hpl
    unfold cutR at hcut
    rw [if_pos h61] at hcut
    obtain ⟨a, b⟩ := p
    generalize l.take (cutP 61 l) = ta at *
    generalize l.drop (cutP 61 l + 1) = td at *
    have hf := find_tab (a, b, td) tb 0 hn
    have hno := find_no (a, b, td) (tb.filter fun p => !celEq p.2 (a, b, td)) 0 (fun p hp => by simpa using (List.mem_filter.1 hp).2)
    simp only [Nat.zero_add] at hf hno
    refine run_wp (by rw [W_T]; exact rfl) ?_
    by_cases htd : td = []
    ·subst htd
     rcases hf with ⟨i, y, g1, g2⟩ | ⟨g1, g2⟩
     ·simp -dsimp -implicitDefEqProofs (maxSteps := 1000000) (disch := omega) [ST, rsB, hcut, hpl, g1, g2, rdO, stepE, putE]
     ·simp -dsimp -implicitDefEqProofs (maxSteps := 1000000) (disch := omega) [ST, rsB, hcut, hpl, g1, g2, rdO, stepE, putE]
    ·rcases hf with ⟨i, y, g1, g2⟩ | ⟨g1, g2⟩
     ·simp -dsimp -implicitDefEqProofs (maxSteps := 1000000) (disch := omega) [ST, rsB, hcut, hpl, g1, g2, rdO, stepE, putE, htd, hno, eEnt]
     ·rw [g2] at hno
      simp -dsimp -implicitDefEqProofs (maxSteps := 1000000) (disch := omega) [ST, rsB, hcut, hpl, g1, g2, rdO, stepE, putE, htd, hno, eEnt]
   ·cases hp
  ·rw [if_neg h61] at hc; cases hc
 | none =>
  simp only
  unfold celK at hc
  unfold cutR at hcut
  by_cases h61 : (61 : UInt8) ∈ l
  ·rw [if_pos h61] at hc hcut
   have hp : placeG (l.take (cutP 61 l)) = none := by
    cases h : placeG (l.take (cutP 61 l)) with
    | none => rfl
    | some p => rw [h] at hc; cases hc
   have hpl := run_placeOf (m := m) (e3 := e3) (e4 := e4) (l.take (cutP 61 l)) (by rw [List.length_take]; omega)
   rw [placeG_I] at hp
   have hp2 : (placeI (l.take (cutP 61 l))).2 = false := by
    cases h : (placeI (l.take (cutP 61 l))).2 with
    | false => rfl
    | true => rw [h] at hp; cases hp
   rw [hp2] at hpl
   generalize (placeI (l.take (cutP 61 l))).1 = pp at *
   obtain ⟨a, b⟩ := pp
   clear hp hp2 hc hlen
   generalize l.take (cutP 61 l) = ta at *
   generalize l.drop (cutP 61 l + 1) = td at *
   by_cases hm1 : macP.isPrefixOf l = true
   ·rw [if_pos (show [109, 97, 99, 114, 111, 32].isPrefixOf l = true from hm1)] at hcm
    rw [if_pos hm1]
    simp only [show ([109, 97, 99, 114, 111, 32] : List UInt8).length = 6 from rfl] at hcm
    generalize l.drop 6 = w at *
    refine run_wp (by rw [W_T]; exact rfl) ?_
    simp -dsimp -implicitDefEqProofs (maxSteps := 1000000) (disch := omega) [ST, rsB, hcut, hpl, hcm, rdO, stepE, eTx]
   ·rw [if_neg (show ¬ [109, 97, 99, 114, 111, 32].isPrefixOf l = true from hm1)] at hcm
    rw [if_neg hm1]
    by_cases hw1 : widP.isPrefixOf l = true
    ·rw [if_pos (show [119, 105, 100, 116, 104, 32].isPrefixOf l = true from hw1)] at hcw
     rw [if_pos hw1]
     simp only [show ([119, 105, 100, 116, 104, 32] : List UInt8).length = 6 from rfl] at hcw
     have hwl : (l.drop 6).length ≤ 1000000000000 := by rw [List.length_drop]; omega
     generalize l.drop 6 = w at *
     match w, hwl, hcw with
     | [], _, hcw =>
      refine run_wp (by rw [W_T]; exact rfl) ?_
      simp -dsimp -implicitDefEqProofs (maxSteps := 1000000) (disch := omega) [ST, rsB, hcut, hpl, hcm, hcw, rdO, stepE, widK]
     | [a], _, hcw =>
      refine run_wp (by rw [W_T]; exact rfl) ?_
      simp -dsimp -implicitDefEqProofs (maxSteps := 1000000) (disch := omega) [ST, rsB, hcut, hpl, hcm, hcw, rdO, stepE, widK]
     | [a, b], _, hcw =>
      refine run_wp (by rw [W_T]; exact rfl) ?_
      simp -dsimp -implicitDefEqProofs (maxSteps := 1000000) (disch := omega) [ST, rsB, hcut, hpl, hcm, hcw, rdO, stepE, widK]
     | a :: b :: c :: r, hwl, hcw =>
      obtain ⟨w, hW⟩ : ∃ w, w = a :: b :: c :: r := ⟨_, rfl⟩
      have hwlen : w.length = r.length + 3 := by rw [hW]; simp
      have hco := run_column (m := m) (e3 := e3) (e4 := e4) a
      have hpa := run_parse (m := m) (e3 := e3) (e4 := e4) (c :: r) (by simp at hwl; simp; omega)
      have k0 : ∀ h : 0 < w.length, w[0] = a := fun h => by simp [hW]
      have k1 : ∀ h : 1 < w.length, w[1] = b := fun h => by simp [hW]
      have gt : w.drop 2 = c :: r := by rw [hW]; rfl
      rw [← hW] at hcw
      have hb := b.toNat_lt
      have hcl := colG_lt a
      rw [show widK (a :: b :: c :: r) = if b = 32 ∧ 0 < colG a ∧ (parseG (c :: r)).2 = true then .wid (colG a - 1) (max 1 (min (parseG (c :: r)).1 20)) else .non from rfl]
      clear hW
      generalize hP : parseG (c :: r) = P at *
      obtain ⟨n, ok⟩ := P
      simp only at hpa ⊢
      generalize c :: r = cr at *
      refine run_wp (by rw [W_T]; exact rfl) ?_
      by_cases h1 : b = 32
      ·subst h1
       by_cases h2 : 0 < colG a
       ·generalize colG a = ca at *
        cases ok with
        | true =>
         rw [if_pos ⟨rfl, h2, rfl⟩]
         simp -dsimp -implicitDefEqProofs (maxSteps := 1000000) (disch := omega) [ST, rsB, hcut, hpl, hcm, hcw, rdO, stepE, hwlen, k0, k1, gt, hco, hpa, h2, show ca ≠ 0 by omega, List.take_of_length_le, eIn]
        | false =>
         rw [if_neg (by simp)]
         simp -dsimp -implicitDefEqProofs (maxSteps := 1000000) (disch := omega) [ST, rsB, hcut, hpl, hcm, hcw, rdO, stepE, hwlen, k0, k1, gt, hco, hpa, h2, show ca ≠ 0 by omega, List.take_of_length_le]
       ·have h0 : colG a = 0 := by omega
        rw [h0] at hco
        rw [if_neg (fun h => h2 h.2.1)]
        simp -dsimp -implicitDefEqProofs (maxSteps := 1000000) (disch := omega) [ST, rsB, hcut, hpl, hcm, hcw, rdO, stepE, hwlen, k0, k1, gt, hco]
      ·have h1n : ¬ b.toNat = 32 := fun h => h1 (by apply UInt8.toNat_inj.1; exact h)
       rw [if_neg (fun h => h1 h.1)]
       simp -dsimp -implicitDefEqProofs (maxSteps := 1000000) (disch := omega) [ST, rsB, hcut, hpl, hcm, hcw, rdO, stepE, hwlen, k0, k1, h1n]
    ·rw [if_neg (show ¬ [119, 105, 100, 116, 104, 32].isPrefixOf l = true from hw1)] at hcw
     rw [if_neg hw1]
     refine run_wp (by rw [W_T]; exact rfl) ?_
     simp -dsimp -implicitDefEqProofs (maxSteps := 1000000) (disch := omega) [ST, rsB, hcut, hpl, hcm, hcw, rdO, stepE]
  ·rw [if_neg h61] at hcut
   clear hc hlen
   by_cases hm1 : macP.isPrefixOf l = true
   ·rw [if_pos (show [109, 97, 99, 114, 111, 32].isPrefixOf l = true from hm1)] at hcm
    rw [if_pos hm1]
    simp only [show ([109, 97, 99, 114, 111, 32] : List UInt8).length = 6 from rfl] at hcm
    generalize l.drop 6 = w at *
    refine run_wp (by rw [W_T]; exact rfl) ?_
    simp -dsimp -implicitDefEqProofs (maxSteps := 1000000) (disch := omega) [ST, rsB, hcut, hcm, rdO, stepE, eTx]
   ·rw [if_neg (show ¬ [109, 97, 99, 114, 111, 32].isPrefixOf l = true from hm1)] at hcm
    rw [if_neg hm1]
    by_cases hw1 : widP.isPrefixOf l = true
    ·rw [if_pos (show [119, 105, 100, 116, 104, 32].isPrefixOf l = true from hw1)] at hcw
     rw [if_pos hw1]
     simp only [show ([119, 105, 100, 116, 104, 32] : List UInt8).length = 6 from rfl] at hcw
     have hwl : (l.drop 6).length ≤ 1000000000000 := by rw [List.length_drop]; omega
     generalize l.drop 6 = w at *
     match w, hwl, hcw with
     | [], _, hcw =>
      refine run_wp (by rw [W_T]; exact rfl) ?_
      simp -dsimp -implicitDefEqProofs (maxSteps := 1000000) (disch := omega) [ST, rsB, hcut, hcm, hcw, rdO, stepE, widK]
     | [a], _, hcw =>
      refine run_wp (by rw [W_T]; exact rfl) ?_
      simp -dsimp -implicitDefEqProofs (maxSteps := 1000000) (disch := omega) [ST, rsB, hcut, hcm, hcw, rdO, stepE, widK]
     | [a, b], _, hcw =>
      refine run_wp (by rw [W_T]; exact rfl) ?_
      simp -dsimp -implicitDefEqProofs (maxSteps := 1000000) (disch := omega) [ST, rsB, hcut, hcm, hcw, rdO, stepE, widK]
     | a :: b :: c :: r, hwl, hcw =>
      obtain ⟨w, hW⟩ : ∃ w, w = a :: b :: c :: r := ⟨_, rfl⟩
      have hwlen : w.length = r.length + 3 := by rw [hW]; simp
      have hco := run_column (m := m) (e3 := e3) (e4 := e4) a
      have hpa := run_parse (m := m) (e3 := e3) (e4 := e4) (c :: r) (by simp at hwl; simp; omega)
      have k0 : ∀ h : 0 < w.length, w[0] = a := fun h => by simp [hW]
      have k1 : ∀ h : 1 < w.length, w[1] = b := fun h => by simp [hW]
      have gt : w.drop 2 = c :: r := by rw [hW]; rfl
      rw [← hW] at hcw
      have hb := b.toNat_lt
      have hcl := colG_lt a
      rw [show widK (a :: b :: c :: r) = if b = 32 ∧ 0 < colG a ∧ (parseG (c :: r)).2 = true then .wid (colG a - 1) (max 1 (min (parseG (c :: r)).1 20)) else .non from rfl]
      clear hW
      generalize hP : parseG (c :: r) = P at *
      obtain ⟨n, ok⟩ := P
      simp only at hpa ⊢
      generalize c :: r = cr at *
      refine run_wp (by rw [W_T]; exact rfl) ?_
      by_cases h1 : b = 32
      ·subst h1
       by_cases h2 : 0 < colG a
       ·generalize colG a = ca at *
        cases ok with
        | true =>
         rw [if_pos ⟨rfl, h2, rfl⟩]
         simp -dsimp -implicitDefEqProofs (maxSteps := 1000000) (disch := omega) [ST, rsB, hcut, hcm, hcw, rdO, stepE, hwlen, k0, k1, gt, hco, hpa, h2, show ca ≠ 0 by omega, List.take_of_length_le, eIn]
        | false =>
         rw [if_neg (by simp)]
         simp -dsimp -implicitDefEqProofs (maxSteps := 1000000) (disch := omega) [ST, rsB, hcut, hcm, hcw, rdO, stepE, hwlen, k0, k1, gt, hco, hpa, h2, show ca ≠ 0 by omega, List.take_of_length_le]
       ·have h0 : colG a = 0 := by omega
        rw [h0] at hco
        rw [if_neg (fun h => h2 h.2.1)]
        simp -dsimp -implicitDefEqProofs (maxSteps := 1000000) (disch := omega) [ST, rsB, hcut, hcm, hcw, rdO, stepE, hwlen, k0, k1, gt, hco]
      ·have h1n : ¬ b.toNat = 32 := fun h => h1 (by apply UInt8.toNat_inj.1; exact h)
       rw [if_neg (fun h => h1 h.1)]
       simp -dsimp -implicitDefEqProofs (maxSteps := 1000000) (disch := omega) [ST, rsB, hcut, hcm, hcw, rdO, stepE, hwlen, k0, k1, h1n]
    ·rw [if_neg (show ¬ [119, 105, 100, 116, 104, 32].isPrefixOf l = true from hw1)] at hcw
     rw [if_neg hw1]
     refine run_wp (by rw [W_T]; exact rfl) ?_
     simp -dsimp -implicitDefEqProofs (maxSteps := 1000000) (disch := omega) [ST, rsB, hcut, hcm, hcw, rdO, stepE]
end Go.Vai
