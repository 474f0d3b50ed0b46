/-
  What functions of layer 9 and of its reference compute: equations of the abstract run, and plain laws of them.
-/
import Derived.Test.YthaaafdiilahjaaGreatDoorBR8
set_option linter.unusedVariables false
set_option linter.unusedSimpArgs false
set_option linter.unnecessarySimpa false
set_option linter.unusedSectionVars false
namespace Go.Vai
theorem dig_all (u : Nat) : ∀ c ∈ Lib.decDigits u, 48 ≤ c.toNat ∧ c.toNat ≤ 57 := by
 induction u using Nat.strongRecOn with
 | ind u ih =>
  intro c hc
  rw [Lib.decDigits] at hc
  split at hc
  ·rename_i h1
   simp at hc
   subst hc
   simp
   omega
  ·rename_i h1
   rcases List.mem_append.1 hc with hc | hc
   ·exact ih _ (by omega) c hc
   ·simp at hc
    subst hc
    simp
    omega
theorem itoa_pos (n : Int) (h : 0 ≤ n) : Lib.itoa n = Lib.decDigits n.toNat := by
 unfold Lib.itoa
 rw [if_neg (by omega)]
theorem wr_eq {a b : Int} (h : plB a b = true) : wrG a b = UInt8.ofNat (64 + b.toNat) :: Lib.decDigits a.toNat := by
 have hp := plB_iff h
 unfold wrG
 rw [show max 1 (min a 99) = a by omega, show max 1 (min b 26) = b by omega, itoa_pos a (by omega)]
theorem col_of (k : Nat) (h : k < 26) : colG (UInt8.ofNat (65 + k)) = k + 1 := by
 have e : (UInt8.ofNat (65 + k)).toNat = 65 + k := by simp; omega
 unfold colG upI
 rw [e, if_neg (show ¬ (97 ≤ 65 + k ∧ 65 + k ≤ 122) by omega), if_pos (by omega)]
 omega
theorem wr_place {a b : Int} (h : plB a b = true) : placeG (wrG a b) = some (a, b) := by
 have hp := plB_iff h
 rw [wr_eq h]
 have h1 := dec_len 1 a.toNat (by omega)
 have h2 := List.length_pos_iff.2 (dec_ne a.toNat)
 have hc := col_of (b.toNat - 1) (by omega)
 rw [show 65 + (b.toNat - 1) = 64 + b.toNat by omega] at hc
 have hpg := parseG_itoa a (by unfold inI; omega)
 rw [itoa_pos a (by omega)] at hpg
 rw [placeG, hpg, hc, show ((b.toNat - 1 + 1 : Nat) : Int) = b by omega]
 rw [if_pos ⟨by omega, by omega, rfl, h⟩]
theorem wr_no {a b : Int} (h : plB a b = true) (x : UInt8) (hx : x.toNat = 61 ∨ x.toNat = 10) : ¬ x ∈ wrG a b := by
 have hp := plB_iff h
 rw [wr_eq h]
 intro hm
 rcases List.mem_cons.1 hm with hm | hm
 ·have : x.toNat = (UInt8.ofNat (64 + b.toNat)).toNat := by rw [hm]
  simp at this
  omega
 ·have := dig_all _ _ hm
  omega
theorem cutP_app (c : UInt8) : ∀ (x r : List UInt8), ¬ c ∈ x → cutP c (x ++ c :: r) = x.length
 | [], r, _ => by rw [List.nil_append, cutP_cons, if_pos rfl]; rfl
 | b :: x, r, h => by
  have h1 : ¬ b = c := fun e => h (by simp [e])
  rw [List.cons_append, cutP_cons, if_neg h1, cutP_app c x r fun hm => h (by simp [hm])]
  rfl
theorem drop_one (x r : List UInt8) (c : UInt8) : (x ++ c :: r).drop (x.length + 1) = r := by
 rw [show x ++ c :: r = (x ++ [c]) ++ r by simp, List.drop_left' (by simp)]
theorem split_line (x r : List UInt8) (h : ¬ (10 : UInt8) ∈ x) : splitG (x ++ 10 :: r) = x :: splitG r := by
 rw [splitG_cut, if_pos (by simp), cutP_app 10 x r h]
 congr 1
 ·simp
 ·rw [drop_one x r 10]
theorem fold_line (s : RS) (x r : List UInt8) (h : ¬ (10 : UInt8) ∈ x) : foldE s (splitG (x ++ 10 :: r)) = foldE (stepE s (lineK x)) (splitG r) := by
 rw [split_line x r h]; rfl
theorem line_cel {c : Cel} (h : plB c.1 c.2.1 = true) : lineK (wrG c.1 c.2.1 ++ 61 :: c.2.2) = .cel c := by
 have h1 : celK (wrG c.1 c.2.1 ++ 61 :: c.2.2) = some c := by
  unfold celK
  rw [if_pos (by simp), cutP_app 61 _ _ (wr_no h 61 (.inl rfl))]
  rw [List.take_left', wr_place h]
  ·simp only [Option.map_some]
   rw [drop_one]
  ·rfl
 unfold lineK
 rw [h1]
def celsW (l : List Cel) : Prop := ∀ c ∈ l, plB c.1 c.2.1 = true ∧ c.2.2 ≠ [] ∧ ¬ (10 : UInt8) ∈ c.2.2
theorem fold_cells : ∀ (l : List Cel) (s : RS) (r : List UInt8), celsW l → nodC (s.tab.map (·.2) ++ l) →
 ∃ s', foldE s (splitG (l.flatMap cellG ++ r)) = foldE s' (splitG r) ∧ s'.wid = s.wid ∧ s'.mac = s.mac ∧ s'.tab.map (·.2) = s.tab.map (·.2) ++ l
 | [], s, r, _, _ => ⟨s, rfl, rfl, rfl, by simp⟩
 | c :: l, s, r, hw, hn => by
  obtain ⟨h1, h2, h3⟩ := hw c (by simp)
  have hno : ¬ (10 : UInt8) ∈ wrG c.1 c.2.1 ++ 61 :: c.2.2 := by
   intro hm
   rcases List.mem_append.1 hm with hm | hm
   ·exact wr_no h1 10 (.inr rfl) hm
   ·rcases List.mem_cons.1 hm with hm | hm
    ·cases hm
    ·exact h3 hm
  have hfil : s.tab.filter (fun p => !celEq p.2 c) = s.tab := by
   refine List.filter_eq_self.2 fun p hp => ?_
   unfold nodC at hn
   have := (List.pairwise_append.1 hn).2.2 p.2 (List.mem_map.2 ⟨p, hp, rfl⟩) c (by simp)
   simp [this]
  have hst : (stepE s (.cel c)).tab.map (·.2) = s.tab.map (·.2) ++ [c] := by
   simp only [stepE, putE]
   rw [if_neg h2, hfil]
   simp
  obtain ⟨s', g1, g2, g3, g4⟩ := fold_cells l (stepE s (.cel c)) r (fun d hd => hw d (by simp [hd])) (by rw [hst]; simpa using hn)
  refine ⟨s', ?_, g2, g3, ?_⟩
  ·rw [← g1, ← line_cel h1, ← fold_line s _ _ hno]
   simp [cellG]
  ·rw [g4, hst]; simp
theorem line_wid {i : Nat} {w : Int} (hi : i < 26) (h1 : 1 ≤ w) (h2 : w ≤ 20) : lineK ([119, 105, 100, 116, 104, 32, UInt8.ofNat (65 + i), 32] ++ Lib.itoa w) = .wid i w := by
 rw [lineK_wid (by simp [macP]) (by simp [widP])]
 have hd := parseG_itoa w (by unfold inI; omega)
 have hne : Lib.itoa w ≠ [] := by rw [itoa_pos w (by omega)]; exact dec_ne _
 cases hq : Lib.itoa w with
 | nil => exact absurd hq hne
 | cons c r =>
  rw [hq] at hd
  show widK (UInt8.ofNat (65 + i) :: 32 :: c :: r) = _
  rw [widK, hd, col_of i hi, if_pos ⟨rfl, by omega, rfl⟩]
  rw [show max 1 (min w 20) = w by omega]
  rfl
theorem itoa_no (w : Int) (h : 0 ≤ w) : ¬ (10 : UInt8) ∈ Lib.itoa w := by
 rw [itoa_pos w h]
 intro hm
 have := dig_all _ _ hm
 simp at this
theorem fold_wids : ∀ (ws dn : List Int) (s : RS) (r : List UInt8), dn.length + ws.length = 26 → (∀ w ∈ ws, 1 ≤ w ∧ w ≤ 20) → s.wid = dn ++ List.replicate ws.length 6 →
 ∃ s', foldE s (splitG (widsG dn.length ws ++ r)) = foldE s' (splitG r) ∧ s'.wid = dn ++ ws ∧ s'.mac = s.mac ∧ s'.tab = s.tab
 | [], dn, s, r, _, _, hs => ⟨s, rfl, by simpa using hs, rfl, rfl⟩
 | w :: ws, dn, s, r, hl, hw, hs => by
  have h0 := hw w (by simp)
  simp only [List.length_cons] at hl
  by_cases h6 : w = 6
  ·obtain ⟨s', g1, g2, g3, g4⟩ := fold_wids ws (dn ++ [w]) s r (by simp; omega) (fun x hx => hw x (by simp [hx])) (by rw [hs, h6]; simp [List.replicate_succ])
   refine ⟨s', ?_, by simpa using g2, g3, g4⟩
   rw [← g1]
   simp [widsG, widG, h6]
  ·have hst : (stepE s (.wid dn.length w)).wid = (dn ++ [w]) ++ List.replicate ws.length 6 := by
    simp only [stepE]
    rw [hs, List.length_cons, List.replicate_succ, List.set_append_right _ _ (Nat.le_refl _)]
    simp
   obtain ⟨s', g1, g2, g3, g4⟩ := fold_wids ws (dn ++ [w]) (stepE s (.wid dn.length w)) r (by simp; omega) (fun x hx => hw x (by simp [hx])) hst
   refine ⟨s', ?_, by simpa using g2, g3, g4⟩
   have hno : ¬ (10 : UInt8) ∈ [119, 105, 100, 116, 104, 32, UInt8.ofNat (65 + dn.length), 32] ++ Lib.itoa w := by
    intro hm
    rcases List.mem_append.1 hm with hm | hm
    ·have e : ¬ (10 : UInt8) = UInt8.ofNat (65 + dn.length) := fun e => by
      have := congrArg UInt8.toNat e
      simp at this
      omega
     generalize UInt8.ofNat (65 + dn.length) = z at *
     revert hm
     simpa using e
    ·exact itoa_no w (by omega) hm
   rw [← g1, ← line_wid (by omega) h0.1 h0.2, ← fold_line s _ _ hno]
   congr 2
   simp [widsG, widG, h6]
theorem line_mac (t : List UInt8) : lineK ([109, 97, 99, 114, 111, 32] ++ t) = .mac t := by
 rw [lineK_mac (by rw [List.isPrefixOf_iff_prefix]; exact List.prefix_append _ _)]
 rfl
theorem fold_macs : ∀ (ms : List (List UInt8)) (s : RS) (r : List UInt8), (∀ t ∈ ms, ¬ (10 : UInt8) ∈ t) →
 ∃ s', foldE s (splitG (ms.flatMap macG ++ r)) = foldE s' (splitG r) ∧ s'.wid = s.wid ∧ s'.mac = s.mac ++ ms ∧ s'.tab = s.tab
 | [], s, r, _ => ⟨s, rfl, rfl, by simp, rfl⟩
 | t :: ms, s, r, h => by
  have hno : ¬ (10 : UInt8) ∈ [109, 97, 99, 114, 111, 32] ++ t := by
   intro hm
   rcases List.mem_append.1 hm with hm | hm
   ·revert hm; decide
   ·exact h t (by simp) hm
  obtain ⟨s', g1, g2, g3, g4⟩ := fold_macs ms (stepE s (.mac t)) r fun x hx => h x (by simp [hx])
  refine ⟨s', ?_, g2, by rw [g3]; simp [stepE], g4⟩
  rw [← g1, ← line_mac t, ← fold_line s _ _ hno]
  simp [macG]
theorem sort_srt : ∀ {l : List Cel}, srtC l → sortC l = l
 | [], _ => rfl
 | c :: r, h => by
  unfold srtC at h
  rw [List.pairwise_cons] at h
  rw [sortC, sort_srt h.2]
  refine insC_le fun d hd => ?_
  have := h.1 d hd
  rw [celLs_iff] at this
  rw [celLe_it]
  omega
theorem srt_nod {l : List Cel} (h : srtC l) : nodC l := by
 unfold srtC at h
 unfold nodC
 refine h.imp fun {a b} hab => ?_
 rw [celLs_iff] at hab
 rw [Bool.eq_false_iff, Ne, celEq_iff]
 omega
theorem ok_srt : ∀ (l : List Cel) (p : Option Cel), okFrom p l = true → srtC l ∧ celsW l ∧ ∀ q, p = some q → ∀ c ∈ l, celLs q c = true
 | [], p, _ => ⟨List.Pairwise.nil, (fun c hc => by cases hc), fun q _ c hc => by cases hc⟩
 | c :: r, p, h => by
  unfold okFrom at h
  simp only [Bool.and_eq_true, decide_eq_true_eq] at h
  obtain ⟨⟨h1, h2, h3, h4⟩, h5⟩ := h
  obtain ⟨g1, g2, g3⟩ := ok_srt r (some c) h5
  have g4 := g3 c rfl
  refine ⟨List.pairwise_cons.2 ⟨g4, g1⟩, fun d hd => ?_, fun q hq d hd => ?_⟩
  ·rcases List.mem_cons.1 hd with rfl | hd
   ·exact ⟨h1, h2, h3⟩
   ·exact g2 d hd
  ·subst hq
   simp only at h4
   rw [befB_lt] at h4
   rcases List.mem_cons.1 hd with rfl | hd
   ·exact h4
   ·have := g4 d hd
    rw [celLs_iff] at this h4 ⊢
    omega
theorem srt_ok : ∀ (l : List Cel) (p : Option Cel), srtC l → celsW l → (∀ q, p = some q → ∀ c ∈ l, celLs q c = true) → okFrom p l = true
 | [], p, _, _, _ => rfl
 | c :: r, p, h1, h2, h3 => by
  unfold srtC at h1
  rw [List.pairwise_cons] at h1
  obtain ⟨a1, a2, a3⟩ := h2 c (by simp)
  have g := srt_ok r (some c) h1.2 (fun d hd => h2 d (by simp [hd])) fun q hq d hd => by injection hq with hq; subst hq; exact h1.1 d hd
  unfold okFrom
  simp only [Bool.and_eq_true, decide_eq_true_eq]
  refine ⟨⟨a1, a2, a3, ?_⟩, g⟩
  cases p with
  | none => rfl
  | some q => exact h3 q rfl c (by simp)
theorem write_read {s : Sh} (h : rightB s = true) : hdrG.isPrefixOf (writeG s) = true ∧ readS (writeG s) = s := by
 have hw : writeG s = hdrG ++ (s.cells.flatMap cellG ++ (widsG 0 s.wid ++ s.mac.flatMap macG)) := by unfold writeG; rw [if_pos h]
 obtain ⟨hw26, hwr⟩ := rightB_wid h
 unfold rightB at h
 simp only [Bool.and_eq_true, decide_eq_true_eq] at h
 obtain ⟨c1, c2, _⟩ := ok_srt _ _ h.2.2.1
 have hm : ∀ t ∈ s.mac, ¬ (10 : UInt8) ∈ t := by
  have := h.2.2.2
  unfold macB at this
  simpa [List.all_eq_true] using this
 rw [hw]
 refine ⟨by rw [List.isPrefixOf_iff_prefix]; exact List.prefix_append _ _, ?_⟩
 unfold readS
 rw [show (hdrG ++ (s.cells.flatMap cellG ++ (widsG 0 s.wid ++ s.mac.flatMap macG))).drop 8 = s.cells.flatMap cellG ++ (widsG 0 s.wid ++ s.mac.flatMap macG) from rfl]
 obtain ⟨s1, a1, a2, a3, a4⟩ := fold_cells s.cells rs0 (widsG 0 s.wid ++ s.mac.flatMap macG) c2 (by simpa [rs0] using srt_nod c1)
 obtain ⟨s2, b1, b2, b3, b4⟩ := fold_wids s.wid [] s1 (s.mac.flatMap macG) (by simpa using hw26) hwr (by rw [a2, hw26]; rfl)
 obtain ⟨s3, d1, d2, d3, d4⟩ := fold_macs s.mac s2 [] hm
 rw [List.append_nil] at d1
 rw [List.length_nil] at b1
 rw [a1, b1, d1]
 have hfin : foldE s3 (splitG []) = s3 := rfl
 rw [hfin]
 unfold tabS
 rw [d2, b2, d3, b3, a3, d4, b4, a4]
 simp only [rs0, List.map_nil, List.nil_append]
 rw [sort_srt c1]
def rsOk3 (s : RS) : Prop := celsW (s.tab.map (·.2)) ∧ ∀ t ∈ s.mac, ¬ (10 : UInt8) ∈ t
theorem lineK_no {l : List UInt8} (h : ¬ (10 : UInt8) ∈ l) : (∀ x, lineK l = .cel x → ¬ (10 : UInt8) ∈ x.2.2) ∧ ∀ t, lineK l = .mac t → ¬ (10 : UInt8) ∈ t := by
 have hd : ∀ k, ¬ (10 : UInt8) ∈ l.drop k := fun k hm => h (List.mem_of_mem_drop hm)
 unfold lineK
 cases hc : celK l with
 | some c =>
  refine ⟨fun x hx => ?_, fun t hx => by cases hx⟩
  injection hx with hx
  subst hx
  unfold celK at hc
  split at hc
  ·obtain ⟨p, _, rfl⟩ := Option.map_eq_some_iff.1 hc
   exact hd _
  ·cases hc
 | none =>
  refine ⟨fun x hx => ?_, fun t hx => ?_⟩
  ·simp only at hx
   split at hx
   ·cases hx
   ·split at hx
    ·unfold widK at hx
     split at hx
     ·split at hx <;> cases hx
     ·cases hx
    ·cases hx
  ·simp only at hx
   split at hx
   ·injection hx with hx; subst hx; exact hd _
   ·split at hx
    ·unfold widK at hx
     split at hx
     ·split at hx <;> cases hx
     ·cases hx
    ·cases hx
theorem step_ok3 {s : RS} (h : rsOk3 s) {l : List UInt8} (hl : ¬ (10 : UInt8) ∈ l) : rsOk3 (stepE s (lineK l)) := by
 obtain ⟨h1, h2⟩ := h
 have hk := lineK_ok l
 obtain ⟨n1, n2⟩ := lineK_no hl
 cases hq : lineK l with
 | cel x =>
  rw [hq] at hk
  refine ⟨?_, h2⟩
  simp only [stepE]
  rw [putE_tab]
  intro c hc
  unfold tabC at hc
  split at hc
  ·exact h1 c (List.mem_filter.1 hc).1
  ·rename_i hx
   rcases List.mem_append.1 hc with hc | hc
   ·exact h1 c (List.mem_filter.1 hc).1
   ·simp at hc
    subst hc
    exact ⟨hk, hx, n1 _ hq⟩
 | mac t =>
  refine ⟨h1, fun u hu => ?_⟩
  rcases List.mem_append.1 hu with hu | hu
  ·exact h2 u hu
  ·simp at hu
   subst hu
   exact n2 _ hq
 | wid i n => exact ⟨h1, h2⟩
 | non => exact ⟨h1, h2⟩
theorem fold_ok3 : ∀ (L : List (List UInt8)) (s : RS), (∀ l ∈ L, ¬ (10 : UInt8) ∈ l) → rsOk3 s → rsOk3 (foldE s L)
 | [], s, _, h => h
 | l :: r, s, hL, h => fold_ok3 r _ (fun x hx => hL x (by simp [hx])) (step_ok3 h (hL l (by simp)))
theorem split_no : ∀ (b l : List UInt8), l ∈ splitG b → ¬ (10 : UInt8) ∈ l
 | [], l, h => by simp [splitG] at h; subst h; simp
 | c :: r, l, h => by
  have ih := split_no r
  rw [splitG_cons] at h
  split at h
  ·rcases List.mem_cons.1 h with rfl | h
   ·simp
   ·exact ih l h
  ·rename_i hc
   cases hs : splitG r with
   | nil => exact absurd hs (splitG_ne r)
   | cons x t =>
    rw [hs] at h ih
    simp only at h
    rcases List.mem_cons.1 h with rfl | h
    ·intro hm
     rcases List.mem_cons.1 hm with hm | hm
     ·exact hc hm.symm
     ·exact ih x (by simp) hm
    ·exact ih l (by simp [h])
theorem read_right (b : List UInt8) : rightB (readS b) = true := by
 obtain ⟨⟨g1, g2⟩, g3, g4, g5⟩ := fold_ok (splitG (b.drop 8)) rs0 rs0_ok
 obtain ⟨k1, k2⟩ := fold_ok3 (splitG (b.drop 8)) rs0 (split_no _) ⟨fun c hc => by simp [rs0] at hc, fun t ht => by simp [rs0] at ht⟩
 unfold rightB readS
 simp only [Bool.and_eq_true, decide_eq_true_eq]
 refine ⟨g1, ?_, ?_, ?_⟩
 ·unfold widB
  simpa [List.all_eq_true] using g5
 ·refine srt_ok _ none (srt_sortC g2) (fun c hc => k1 c (mem_sortC.1 hc)) fun q hq => by cases hq
 ·unfold macB
  simpa [List.all_eq_true] using k2
end Go.Vai
namespace Go.Vai
variable {m : Int} {e3 e4 : Value}
theorem write_len (s : Sh) (n : Nat) (h : szSh s ≤ n) : (writeG s).length ≤ 762 + 60 * n := by
 have hsz : szSh s = s.cells.length + s.wid.length + s.mac.length + sumT (s.cells.map (·.2.2)) + sumT s.mac := rfl
 unfold writeG
 cases hb : rightB s
 ·simp
 ·obtain ⟨h1, h2⟩ := rightB_wid hb
  have a1 := cells_len s.cells
  have a2 := wids_len s.wid 0 h2
  have a3 := macs_len s.mac
  simp only [if_pos, List.length_append, hdrG, List.length_cons, List.length_nil]
  omega
set_option maxHeartbeats 2000000 in
theorem law_back (b : List UInt8) (hb : b.length ≤ 1048576) : (W m e3 e4).run 6 [bs b] [] = some (bo true, []) := by
 have h1 := run_Read (m := m) (e3 := e3) (e4 := e4) b (b.length + 3) (by omega) (by unfold inI; omega)
 unfold readR at h1
 by_cases hp : hdrG.isPrefixOf b = true
 ·have hz := read_sz b
  have hz' : szSh (readS b) ≤ 1048603 := by omega
  obtain ⟨t1, t2, _⟩ := sz_texts _ _ hz'
  have hrt := read_right b
  obtain ⟨w1, w2⟩ := write_read hrt
  have hwl := write_len (readS b) 1048603 hz'
  have h2 := run_write (m := m) (e3 := e3) (e4 := e4) (readS b) (by omega) (fun c hc => by have := t1 c hc; omega) (fun t ht => by have := t2 t ht; omega)
  have h3 := run_Read (m := m) (e3 := e3) (e4 := e4) (writeG (readS b)) (writeG (readS b)).length (by omega) (by unfold inI; omega)
  have h4 := run_strict (m := m) (e3 := e3) (e4 := e4) (writeG (readS b)) (by omega)
  have h5 := run_strict (m := m) (e3 := e3) (e4 := e4) b (by omega)
  have h6 := run_right (m := m) (e3 := e3) (e4 := e4) (readS b) (by omega) (fun c hc => by have := t1 c hc; omega) (fun t ht => by have := t2 t ht; omega)
  have h7 := same_ok (m := m) (e3 := e3) (e4 := e4) (readS b) 1048603 hz' (by decide)
  rw [hrt] at h6
  have e1 : strictB (writeG (readS b)) = true := by unfold strictB; rw [w1, w2]; simp
  have e2 : strictS (writeG (readS b)) = readS b := by unfold strictS; rw [e1, if_pos rfl, w2]
  have e3' : strictB b = decide (writeG (readS b) = b) := by unfold strictB; rw [hp]; simp
  rw [e1, e2] at h4
  rw [e3'] at h5
  unfold readR at h3
  rw [w1, if_pos rfl, if_pos (by omega), w2] at h3
  rw [if_pos hp, if_pos (by omega)] at h1
  rw [show max ((b.length : Int) + 3) 0 - (b.length : Int) = 3 by omega] at h1
  generalize hss : strictS b = ss at h5
  generalize readS b = s at *
  clear hss
  generalize writeG s = w at *
  generalize hm : max (w.length : Int) 0 - (w.length : Int) = mw at *
  obtain ⟨sc, sw, sm⟩ := s
  obtain ⟨x1, x2, x3⟩ := ss
  clear t1 t2 hz hz' hrt w1 w2 e1 e2 e3'
  simp only [shA_mk, rwS] at h1 h2 h3 h4 h5 h6 h7
  refine run_wp (by rw [W_T]; exact rfl) ?_
  by_cases he : w = b
  ·subst he
   rw [decide_eq_true rfl] at h5
   simp -dsimp -implicitDefEqProofs (maxSteps := 1000000) (disch := omega) [ST, run_awake, h1, h2, h3, h4, h5, h6, h7]
  ·rw [decide_eq_false he] at h5
   simp -dsimp -implicitDefEqProofs (maxSteps := 1000000) (disch := omega) [ST, run_awake, h1, h2, h3, h4, h5, h6, h7, he]
 ·rw [if_neg hp] at h1
  rw [show max ((b.length : Int) + 3) 0 = (b.length : Int) + 3 by omega] at h1
  simp only [shA_mk, rwS, sh0, List.map_nil] at h1
  refine run_wp (by rw [W_T]; exact rfl) ?_
  simp -dsimp -implicitDefEqProofs (maxSteps := 1000000) (disch := omega) [ST, run_awake, h1]
end Go.Vai
