/-
  What functions of layer 9 and of its reference compute: equations of the abstract run, and plain laws of them.
-/
import Derived.Test.YthaaafdiilahjaaGreatDoorBR5
set_option linter.unusedVariables false
set_option linter.unusedSimpArgs false
set_option linter.unnecessarySimpa false
set_option linter.unusedSectionVars false
namespace Go.Vai
variable {m : Int} {e3 e4 : Value}
def foldR (s : Sh) (L : List (List UInt8)) : Sh := L.foldl (fun s l => stepR s (lineK l)) s
def sh26 : Sh := ⟨[], List.replicate 26 6, []⟩
theorem fold_sim : ∀ (L : List (List UInt8)) (s : RS), rsOk s → foldR ⟨tabS s, s.wid, s.mac⟩ L = ⟨tabS (foldE s L), (foldE s L).wid, (foldE s L).mac⟩
 | [], s, _ => rfl
 | l :: r, s, h => by
  have h1 := step_ok h (lineK l)
  have h2 := fold_sim r (stepE s (lineK l)) h1
  have e : stepR ⟨tabS s, s.wid, s.mac⟩ (lineK l) = ⟨tabS (stepE s (lineK l)), (stepE s (lineK l)).wid, (stepE s (lineK l)).mac⟩ := by
   cases lineK l with
   | cel x =>
    simp only [stepR, stepE, tabS]
    rw [putE_tab, sortC_tab h.2, putR_eq (srt_sortC h.2)]
   | mac t => rfl
   | wid i n => rfl
   | non => rfl
  show foldR (stepR ⟨tabS s, s.wid, s.mac⟩ (lineK l)) r = _
  rw [e, h2]; rfl
theorem read_sim (b : List UInt8) : foldR sh26 (splitG (b.drop 8)) = readS b := fold_sim _ rs0 rs0_ok.1
theorem foldR_cut (s : Sh) (r : List UInt8) : foldR s (splitG r) = foldR (stepR s (lineK (r.take (cutP 10 r)))) (splitG (r.drop (cutP 10 r + 1))) := by
 rw [splitG_cut]
 split
 ·rfl
 ·rename_i h
  have he : cutP 10 r = r.length := by
   have h1 := cutP_le 10 r
   have := mt (cutP_mem 10 r).2 h
   omega
  rw [he, List.take_length, List.drop_of_length_le (by omega)]
  rfl
theorem putR_len (c : Cel) : ∀ l : List Cel, (putR l c).length ≤ l.length + 1
 | [] => by rw [putR]; split <;> simp
 | d :: r => by
  rw [putR]
  have := putR_len c r
  split
  ·simp; omega
  ·split
   ·split <;> (simp; try omega)
   ·split <;> simp
theorem stepR_len (s : Sh) (k : LK) : (stepR s k).cells.length ≤ s.cells.length + 1 ∧ (stepR s k).mac.length ≤ s.mac.length + 1 ∧ (stepR s k).wid.length = s.wid.length := by
 cases k with
 | cel x => exact ⟨putR_len _ _, by simp [stepR], rfl⟩
 | mac t => exact ⟨by simp [stepR], by simp [stepR], rfl⟩
 | wid i n => exact ⟨by simp [stepR], by simp [stepR], by simp [stepR]⟩
 | non => exact ⟨by simp [stepR], by simp [stepR], rfl⟩
def S16a (b : List UInt8) (rest : Int) (i : Nat) : St := { sl := [(0, bs b), (4, .bp 0 0), (7, i64 rest), (9, .bp 1 0), (10, i64 i)], hp := [(0, some (.box [.emp, .emp, .emp])), (1, some (.box [.emp, .osl 2 1 0 i, .emp])), (2, some (.arr 1 ((List.replicate i (6 : Int)).map eIn)))], nx := 3 }
def S16 (b : List UInt8) (rest : Int) (a : Nat × Sh) : St := { sl := [(0, bs b), (4, .bp 0 0), (7, i64 rest), (9, .bp 1 0), (11, i64 a.1)], hp := [(0, some (.box [.emp, .emp, .emp])), (1, some (.box [.osl 2 3 0 a.2.cells.length, .osl 3 1 0 a.2.wid.length, .osl 4 1 0 a.2.mac.length])), (2, some (.arr 3 (a.2.cells.map eCel))), (3, some (.arr 1 (a.2.wid.map eIn))), (4, some (.arr 1 (a.2.mac.map eTx)))], nx := 5 }
set_option maxHeartbeats 2000000 in
theorem run_rRead (b : List UInt8) (left : Int) (hb : b.length ≤ 100000000) (hl : inI left) : (W m e3 e4).run 16 [bs b, i64 left] [] = some (readR b left, []) := by
 have hst := run_starts (m := m) (e3 := e3) (e4 := e4) b [115, 104, 101, 101, 116, 32, 49, 10] (by omega) (by decide)
 have hsp := run_spend (m := m) (e3 := e3) (e4 := e4) left b.length hl (by omega)
 unfold readR
 by_cases h1 : hdrG.isPrefixOf b = true
 ·rw [show [115, 104, 101, 101, 116, 32, 49, 10].isPrefixOf b = true from h1] at hst
  rw [if_pos h1]
  have h8 : 8 ≤ b.length := (List.isPrefixOf_iff_prefix.1 h1).length_le
  by_cases h2 : (b.length : Int) ≤ max left 0
  ·rw [if_pos h2] at hsp ⊢
   rw [← read_sim]
   obtain ⟨rest, hrest⟩ : ∃ rest, max left 0 - (b.length : Int) = rest := ⟨_, rfl⟩
   rw [hrest] at hsp ⊢
   obtain ⟨tot, htot⟩ : ∃ tot, foldR sh26 (splitG (b.drop 8)) = tot := ⟨_, rfl⟩
   rw [htot]
   simp only [shA_mk, rwS]
   refine run_wp (by rw [W_T]; exact rfl) ?_
   simp -dsimp -implicitDefEqProofs (maxSteps := 1000000) (disch := omega) [ST, hst, hsp]
   refine wp_inv (S16a b rest) (fun i => i ≤ 26) (fun i => 26 - i) 0 (by omega) (by simp -dsimp -implicitDefEqProofs (maxSteps := 1000000) (disch := omega) [ST, S16a]) ?_
   intro i hi
   by_cases h : i < 26
   ·simp -dsimp -implicitDefEqProofs (maxSteps := 1000000) (disch := omega) [ST, S16a, h, eIn]
    refine again (i + 1) (by omega) (by omega) (by simp -dsimp -implicitDefEqProofs (maxSteps := 1000000) (disch := omega) [ST, S16a, eIn, List.replicate_succ'])
   ·obtain rfl : i = 26 := by omega
    simp -dsimp -implicitDefEqProofs (maxSteps := 1000000) (disch := omega) [ST, S16a]
    refine wp_inv (S16 b rest) (fun a => a.2.cells.length ≤ a.1 ∧ a.2.mac.length ≤ a.1 ∧ a.1 ≤ b.length + 1 ∧ a.2.wid.length = 26 ∧ foldR a.2 (splitG (b.drop a.1)) = tot) (fun a => b.length + 1 - a.1) (8, sh26) ⟨by simp [sh26], by simp [sh26], by simp only; omega, by simp [sh26], htot⟩ (by simp -dsimp -implicitDefEqProofs (maxSteps := 1000000) (disch := omega) [ST, S16, sh26]) ?_
    rintro ⟨fr, s⟩ ⟨g1, g2, g3, g4, g5⟩
    simp only at g1 g2 g3 g4 g5
    by_cases hf : fr < b.length
    ·have hfi := run_find (m := m) (e3 := e3) (e4 := e4) 10 (b.drop fr) (by rw [List.length_drop]; omega)
     have hfi' : (W m e3 e4).run 50 [bs (b.drop fr), .fz (.sc (.int .u8 10))] [] = some (i64 (cutP 10 (b.drop fr)), []) := hfi
     have hle := cutP_le 10 (b.drop fr)
     rw [List.length_drop] at hle
     rw [foldR_cut, List.drop_drop] at g5
     have hln := run_line (m := m) (e3 := e3) (e4 := e4) s ((b.drop fr).take (cutP 10 (b.drop fr))) (by rw [List.length_take, List.length_drop]; omega) (by omega) g4 (by omega)
     have hsl := stepR_len s (lineK ((b.drop fr).take (cutP 10 (b.drop fr))))
     generalize cutP 10 (b.drop fr) = k at *
     obtain ⟨kk, hkk⟩ : ∃ kk, lineK ((b.drop fr).take k) = kk := ⟨_, rfl⟩
     rw [hkk] at hln g5 hsl
     have htk : (b.take (fr + k)).drop fr = (b.drop fr).take k := by rw [List.drop_take]; congr 1; omega
     have hfk : ((fr : Int) + (k : Int)).toNat = fr + k := by omega
     cases kk with
     | cel x =>
      simp only [lnB, lnO, stepR] at hln hsl g5
      simp -dsimp -implicitDefEqProofs (maxSteps := 1000000) (disch := omega) [ST, S16, hf, hfi', hln, htk, hfk, show fr ≤ b.length by omega, show fr + k ≤ b.length by omega, List.take_of_length_le]
      refine again (fr + (k + 1), stepR s (.cel x)) ⟨by simp only [stepR]; omega, by simp only [stepR]; omega, by simp only; omega, by simp only [stepR]; omega, by simp only [stepR]; exact g5⟩ (by simp only; omega) (by simp -dsimp -implicitDefEqProofs (maxSteps := 1000000) (disch := omega) [ST, S16, stepR])
     | mac t =>
      simp only [lnB, lnO, stepR] at hln hsl g5
      simp -dsimp -implicitDefEqProofs (maxSteps := 1000000) (disch := omega) [ST, S16, hf, hfi', hln, htk, hfk, show fr ≤ b.length by omega, show fr + k ≤ b.length by omega, List.take_of_length_le]
      refine again (fr + (k + 1), stepR s (.mac t)) ⟨by simp only [stepR]; omega, by simp only [stepR]; omega, by simp only; omega, by simp only [stepR]; omega, by simp only [stepR]; exact g5⟩ (by simp only; omega) (by simp -dsimp -implicitDefEqProofs (maxSteps := 1000000) (disch := omega) [ST, S16, stepR])
     | wid i n =>
      simp only [lnB, lnO, stepR] at hln hsl g5
      simp -dsimp -implicitDefEqProofs (maxSteps := 1000000) (disch := omega) [ST, S16, hf, hfi', hln, htk, hfk, show fr ≤ b.length by omega, show fr + k ≤ b.length by omega, List.take_of_length_le]
      refine again (fr + (k + 1), stepR s (.wid i n)) ⟨by simp only [stepR]; omega, by simp only [stepR]; omega, by simp only; omega, by simp only [stepR]; omega, by simp only [stepR]; exact g5⟩ (by simp only; omega) (by simp -dsimp -implicitDefEqProofs (maxSteps := 1000000) (disch := omega) [ST, S16, stepR])
     | non =>
      simp only [lnB, lnO, stepR] at hln hsl g5
      simp -dsimp -implicitDefEqProofs (maxSteps := 1000000) (disch := omega) [ST, S16, hf, hfi', hln, htk, hfk, show fr ≤ b.length by omega, show fr + k ≤ b.length by omega, List.take_of_length_le]
      refine again (fr + (k + 1), stepR s (.non)) ⟨by simp only [stepR]; omega, by simp only [stepR]; omega, by simp only; omega, by simp only [stepR]; omega, by simp only [stepR]; exact g5⟩ (by simp only; omega) (by simp -dsimp -implicitDefEqProofs (maxSteps := 1000000) (disch := omega) [ST, S16, stepR])
    ·have hd : b.drop fr = [] := List.drop_of_length_le (by omega)
     rw [hd] at g5
     have hs : foldR s (splitG []) = s := rfl
     rw [hs] at g5
     subst g5
     simp -dsimp -implicitDefEqProofs (maxSteps := 1000000) (disch := omega) [ST, S16, hf]
  ·rw [if_neg h2] at hsp ⊢
   simp only [shA_mk, rwS, sh0, List.map_nil]
   refine run_wp (by rw [W_T]; exact rfl) ?_
   simp -dsimp -implicitDefEqProofs (maxSteps := 1000000) (disch := omega) [ST, hst, hsp]
 ·rw [Bool.eq_false_iff.2 (show ¬ [115, 104, 101, 101, 116, 32, 49, 10].isPrefixOf b = true from h1)] at hst
  rw [if_neg h1]
  simp only [shA_mk, rwS, sh0, List.map_nil]
  refine run_wp (by rw [W_T]; exact rfl) ?_
  simp -dsimp -implicitDefEqProofs (maxSteps := 1000000) (disch := omega) [ST, hst]
end Go.Vai
namespace Go.Vai
variable {m : Int} {e3 e4 : Value}
def szC (l : List Cel) : Nat := (l.map fun c => c.2.2.length + 1).sum
def szT (l : List (List UInt8)) : Nat := (l.map fun t => t.length + 1).sum
def mu (s : RS) : Nat := szC (s.tab.map (·.2)) + szT s.mac
theorem szC_filter (p : Cel → Bool) : ∀ l : List Cel, szC (l.filter p) ≤ szC l
 | [] => Nat.le_refl _
 | c :: r => by
  have := szC_filter p r
  unfold szC at *
  rw [List.filter_cons]
  split <;> simp only [List.map_cons, List.sum_cons] <;> omega
theorem szC_app (a b : List Cel) : szC (a ++ b) = szC a + szC b := by simp [szC]
theorem szC_tab (l : List Cel) (x : Cel) : szC (tabC l x) ≤ szC l + x.2.2.length + 1 := by
 have := szC_filter (fun d => !celEq d x) l
 unfold tabC
 split
 ·omega
 ·rw [szC_app]
  have : szC [x] = x.2.2.length + 1 := by simp [szC]
  omega
theorem lineK_len (l : List UInt8) : (∀ x, lineK l = .cel x → x.2.2.length ≤ l.length) ∧ ∀ t, lineK l = .mac t → t.length ≤ l.length := by
 unfold lineK
 cases hc : celK l with
 | some c =>
  refine ⟨fun x h => ?_, fun t h => by cases h⟩
  injection h with h
  subst h
  unfold celK at hc
  split at hc
  ·obtain ⟨p, _, rfl⟩ := Option.map_eq_some_iff.1 hc
   simp
  ·cases hc
 | none =>
  refine ⟨fun x h => ?_, fun t h => ?_⟩
  ·simp only at h
   split at h
   ·cases h
   ·split at h
    ·unfold widK at h
     split at h
     ·split at h <;> cases h
     ·cases h
    ·cases h
  ·simp only at h
   split at h
   ·injection h with h; subst h; simp
   ·split at h
    ·unfold widK at h
     split at h
     ·split at h <;> cases h
     ·cases h
    ·cases h
theorem step_mu (s : RS) (l : List UInt8) : mu (stepE s (lineK l)) ≤ mu s + l.length + 1 := by
 have hl := lineK_len l
 unfold mu
 cases hk : lineK l with
 | cel x =>
  have := hl.1 x hk
  simp only [stepE]
  rw [putE_tab]
  have := szC_tab (s.tab.map (·.2)) x
  omega
 | mac t =>
  have := hl.2 t hk
  simp only [stepE]
  have : szT (s.mac ++ [t]) = szT s.mac + (t.length + 1) := by simp [szT]
  omega
 | wid i n => simp only [stepE]; omega
 | non => simp only [stepE]; omega
theorem fold_mu : ∀ (L : List (List UInt8)) (s : RS), mu (foldE s L) ≤ mu s + szT L
 | [], s => by simp [foldE, szT]
 | l :: r, s => by
  have h1 := step_mu s l
  have h2 := fold_mu r (stepE s (lineK l))
  have : szT (l :: r) = l.length + 1 + szT r := by simp [szT]
  show mu (foldE (stepE s (lineK l)) r) ≤ _
  omega
theorem split_sz : ∀ l, szT (splitG l) = l.length + 1
 | [] => by simp [splitG, szT]
 | b :: r => by
  have ih := split_sz r
  rw [splitG_cons]
  split
  ·simp only [szT, List.map_cons, List.sum_cons, List.length_nil, List.length_cons] at ih ⊢
   omega
  ·cases hs : splitG r with
   | nil => exact absurd hs (splitG_ne r)
   | cons h t =>
    rw [hs] at ih
    simp only [szT, List.map_cons, List.sum_cons, List.length_cons] at ih ⊢
    omega
theorem szC_ins (c : Cel) : ∀ l : List Cel, szC (insC c l) = szC (c :: l)
 | [] => rfl
 | d :: r => by
  have := szC_ins c r
  rw [insC_cons]
  split
  ·rfl
  ·simp only [szC, List.map_cons, List.sum_cons] at this ⊢
   omega
theorem szC_sort : ∀ l : List Cel, szC (sortC l) = szC l
 | [] => rfl
 | c :: r => by
  rw [sortC, szC_ins]
  have := szC_sort r
  simp only [szC, List.map_cons, List.sum_cons] at this ⊢
  omega
theorem szC_eq : ∀ l : List Cel, szC l = l.length + sumT (l.map (·.2.2))
 | [] => rfl
 | c :: r => by
  have := szC_eq r
  simp only [szC, sumT, List.map_cons, List.sum_cons, List.length_cons] at this ⊢
  omega
theorem szT_eq : ∀ l : List (List UInt8), szT l = l.length + sumT l
 | [] => rfl
 | c :: r => by
  have := szT_eq r
  simp only [szT, sumT, List.map_cons, List.sum_cons, List.length_cons] at this ⊢
  omega
theorem read_sz (b : List UInt8) : szSh (readS b) ≤ b.length + 27 := by
 have h1 := fold_mu (splitG (b.drop 8)) rs0
 rw [split_sz, List.length_drop] at h1
 have h0 : mu rs0 = 0 := rfl
 have h2 := (fold_ok (splitG (b.drop 8)) rs0 rs0_ok).1.1
 unfold readS szSh tabS
 unfold mu at h1 h0
 simp only
 have h3 := szC_sort ((foldE rs0 (splitG (b.drop 8))).tab.map (·.2))
 rw [szC_eq] at h3
 rw [szT_eq] at h1
 omega
theorem mem_sumT {l : List (List UInt8)} {t : List UInt8} (ht : t ∈ l) : t.length ≤ sumT l := by
 obtain ⟨i, hi⟩ := List.mem_iff_getElem?.1 ht
 have h1 := sumT_take l i t hi
 have h2 := sumT_le l (i + 1)
 omega
theorem sz_texts (s : Sh) (n : Nat) (h : szSh s ≤ n) : (∀ c ∈ s.cells, c.2.2.length ≤ n) ∧ (∀ t ∈ s.mac, t.length ≤ n) ∧ s.cells.length ≤ n ∧ s.wid.length ≤ n ∧ s.mac.length ≤ n := by
 have hsz : szSh s = s.cells.length + s.wid.length + s.mac.length + sumT (s.cells.map (·.2.2)) + sumT s.mac := rfl
 refine ⟨fun c hc => ?_, fun t ht => ?_, by omega, by omega, by omega⟩
 ·have := mem_sumT (l := s.cells.map (·.2.2)) (List.mem_map.2 ⟨c, hc, rfl⟩)
  omega
 ·have := mem_sumT ht
  omega
def strictB (b : List UInt8) : Bool := hdrG.isPrefixOf b && decide (writeG (readS b) = b)
def strictS (b : List UInt8) : Sh := if strictB b then readS b else sh0
theorem run_strict (b : List UInt8) (hb : b.length ≤ 100000000) : (W m e3 e4).run 17 [bs b] [] = some (.tup [shA (strictS b), bo (strictB b)], []) := by
 have h1 := run_Read (m := m) (e3 := e3) (e4 := e4) b b.length (by omega) (by unfold inI; omega)
 have hz := read_sz b
 obtain ⟨t1, t2, _⟩ := sz_texts _ _ hz
 have h2 := run_write (m := m) (e3 := e3) (e4 := e4) (readS b) (by omega) (fun c hc => by have := t1 c hc; omega) (fun t ht => by have := t2 t ht; omega)
 unfold strictS strictB
 unfold readR at h1
 clear t1 t2
 by_cases hp : hdrG.isPrefixOf b = true
 ·rw [if_pos hp, if_pos (by omega)] at h1
  rw [hp]
  generalize readS b = s at *
  generalize writeG s = w at *
  obtain ⟨sc, sw, sm⟩ := s
  by_cases he : w = b
  ·subst he
   simp only [decide_true, Bool.and_true, if_pos]
   simp only [shA_mk, rwS] at h1 h2 ⊢
   refine run_wp (by rw [W_T]; exact rfl) ?_
   simp -dsimp -implicitDefEqProofs (maxSteps := 1000000) (disch := omega) [ST, h1, h2]
  ·simp only [he, decide_false, Bool.and_false, Bool.false_eq_true, if_false]
   simp only [shA_mk, rwS, sh0, List.map_nil] at h1 h2 ⊢
   refine run_wp (by rw [W_T]; exact rfl) ?_
   simp -dsimp -implicitDefEqProofs (maxSteps := 1000000) (disch := omega) [ST, h1, h2, he]
 ·rw [if_neg hp] at h1
  rw [Bool.eq_false_iff.2 hp]
  simp only [Bool.false_and, Bool.false_eq_true, if_false]
  simp only [shA_mk, rwS, sh0, List.map_nil] at h1 h2 ⊢
  refine run_wp (by rw [W_T]; exact rfl) ?_
  simp -dsimp -implicitDefEqProofs (maxSteps := 1000000) (disch := omega) [ST, h1]
theorem run_rstrict (b : List UInt8) (hb : b.length ≤ 100000000) : (W m e3 e4).run 18 [bs b] [] = some (.tup [shA (strictS b), bo (strictB b)], []) := by
 have h1 := run_rRead (m := m) (e3 := e3) (e4 := e4) b b.length (by omega) (by unfold inI; omega)
 have hz := read_sz b
 obtain ⟨t1, t2, _⟩ := sz_texts _ _ hz
 have h2 := run_rwrite (m := m) (e3 := e3) (e4 := e4) (readS b) (by omega) (fun c hc => by have := t1 c hc; omega) (fun t ht => by have := t2 t ht; omega)
 unfold strictS strictB
 unfold readR at h1
 clear t1 t2
 by_cases hp : hdrG.isPrefixOf b = true
 ·rw [if_pos hp, if_pos (by omega)] at h1
  rw [hp]
  generalize readS b = s at *
  generalize writeG s = w at *
  obtain ⟨sc, sw, sm⟩ := s
  by_cases he : w = b
  ·subst he
   simp only [decide_true, Bool.and_true, if_pos]
   simp only [shA_mk, rwS] at h1 h2 ⊢
   refine run_wp (by rw [W_T]; exact rfl) ?_
   simp -dsimp -implicitDefEqProofs (maxSteps := 1000000) (disch := omega) [ST, h1, h2]
  ·simp only [he, decide_false, Bool.and_false, Bool.false_eq_true, if_false]
   simp only [shA_mk, rwS, sh0, List.map_nil] at h1 h2 ⊢
   refine run_wp (by rw [W_T]; exact rfl) ?_
   simp -dsimp -implicitDefEqProofs (maxSteps := 1000000) (disch := omega) [ST, h1, h2, he]
 ·rw [if_neg hp] at h1
  rw [Bool.eq_false_iff.2 hp]
  simp only [Bool.false_and, Bool.false_eq_true, if_false]
  simp only [shA_mk, rwS, sh0, List.map_nil] at h1 h2 ⊢
  refine run_wp (by rw [W_T]; exact rfl) ?_
  simp -dsimp -implicitDefEqProofs (maxSteps := 1000000) (disch := omega) [ST, h1]
theorem same_ok (s : Sh) (n : Nat) (h : szSh s ≤ n) (hn : n ≤ 1000000000000) : (W m e3 e4).run 14 [shA s, shA s] [] = some (bo true, []) := by
 obtain ⟨_, _, h1, h2, h3⟩ := sz_texts s n h
 have := run_sameSheet (m := m) (e3 := e3) (e4 := e4) s s ⟨by omega, by omega, by omega⟩
 simpa using this
theorem law_read (b : List UInt8) (left : Int) (hb : b.length ≤ 140737488351232) (hl : inI left) : (W m e3 e4).run 5 [bs b, i64 left] [] = some (bo true, []) := by
 by_cases h6 : 6000 < b.length
 ·refine run_wp (by rw [W_T]; exact rfl) ?_
  simp -dsimp -implicitDefEqProofs (maxSteps := 1000000) (disch := omega) [ST, run_awake, h6]
 ·have h1 := run_Read (m := m) (e3 := e3) (e4 := e4) b left (by omega) hl
  have h2 := run_rRead (m := m) (e3 := e3) (e4 := e4) b left (by omega) hl
  have h3 := run_strict (m := m) (e3 := e3) (e4 := e4) b (by omega)
  have h4 := run_rstrict (m := m) (e3 := e3) (e4 := e4) b (by omega)
  have s0 : szSh sh0 ≤ 7000 := by decide
  have hr : szSh (readS b) ≤ 7000 := by have := read_sz b; omega
  have h5 : (W m e3 e4).run 14 [shA (strictS b), shA (strictS b)] [] = some (bo true, []) := by
   unfold strictS; split
   ·exact same_ok _ _ hr (by decide)
   ·exact same_ok _ _ s0 (by decide)
  obtain ⟨rs, rl, re, hrr, h7⟩ : ∃ rs rl re, readR b left = .tup [shA rs, i64 rl, i64 re] ∧ (W m e3 e4).run 14 [shA rs, shA rs] [] = some (bo true, []) := by
   unfold readR
   split
   ·split
    ·exact ⟨_, _, _, rfl, same_ok _ _ hr (by decide)⟩
    ·exact ⟨_, _, _, rfl, same_ok _ _ s0 (by decide)⟩
   ·exact ⟨_, _, _, rfl, same_ok _ _ s0 (by decide)⟩
  rw [hrr] at h1 h2
  generalize strictS b = ss at *
  generalize strictB b = sb at *
  obtain ⟨x1, x2, x3⟩ := ss
  obtain ⟨y1, y2, y3⟩ := rs
  simp only [shA_mk, rwS] at h1 h2 h3 h4 h5 h7
  refine run_wp (by rw [W_T]; exact rfl) ?_
  simp -dsimp -implicitDefEqProofs (maxSteps := 1000000) (disch := omega) [ST, run_awake, h6, h1, h2, h3, h4, h5, h7]
end Go.Vai
