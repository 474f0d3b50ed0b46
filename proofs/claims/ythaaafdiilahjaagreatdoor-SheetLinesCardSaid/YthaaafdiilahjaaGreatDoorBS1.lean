/-
  What functions of layer 9 and of its reference compute: equations of the abstract run, and plain laws of them.
-/
import Derived.Test.YthaaafdiilahjaaGreatDoorBR8
set_option linter.unusedVariables false
set_option linter.unusedSimpArgs false
set_option linter.unnecessarySimpa false
set_option linter.unusedSectionVars false
namespace Go.Vai
theorem dig_all (u : Nat) : ∀ c ∈ Lib.decDigits u, 48 ≤ c.toNat ∧ c.toNat ≤ 57 := by
 induction u using Nat.strongRecOn with
 | ind u ih =>
  intro c hc
  rw [Lib.decDigits] at hc
  split at hc
  ·rename_i h1
   simp at hc
   subst hc
   simp
   omega
  ·rename_i h1
   rcases List.mem_append.1 hc with hc | hc
   ·exact ih _ (by omega) c hc
   ·simp at hc
    subst hc
    simp
    omega
theorem itoa_pos (n : Int) (h : 0 ≤ n) : Lib.itoa n = Lib.decDigits n.toNat := by
 unfold Lib.itoa
 rw [if_neg (by omega)]
theorem wr_eq {a b : Int} (h : plB a b = true) : wrG a b = UInt8.ofNat (64 + b.toNat) :: Lib.decDigits a.toNat := by
 have hp := plB_iff h
 unfold wrG
 rw [show max 1 (min a 99) = a by omega, show max 1 (min b 26) = b by omega, itoa_pos a (by omega)]
theorem col_of (k : Nat) (h : k < 26) : colG (UInt8.ofNat (65 + k)) = k + 1 := by
 have e : (UInt8.ofNat (65 + k)).toNat = 65 + k := by simp; omega
 unfold colG upI
 rw [e, if_neg (show ¬ (97 ≤ 65 + k ∧ 65 + k ≤ 122) by omega), if_pos (by omega)]
 omega
theorem wr_place {a b : Int} (h : plB a b = true) : placeG (wrG a b) = some (a, b) := by
 have hp := plB_iff h
 rw [wr_eq h]
 have h1 := dec_len 1 a.toNat (by omega)
 have h2 := List.length_pos_iff.2 (dec_ne a.toNat)
 have hc := col_of (b.toNat - 1) (by omega)
 rw [show 65 + (b.toNat - 1) = 64 + b.toNat by omega] at hc
 have hpg := parseG_itoa a (by unfold inI; omega)
 rw [itoa_pos a (by omega)] at hpg
 rw [placeG, hpg, hc, show ((b.toNat - 1 + 1 : Nat) : Int) = b by omega]
 rw [if_pos ⟨by omega, by omega, rfl, h⟩]
theorem wr_no {a b : Int} (h : plB a b = true) (x : UInt8) (hx : x.toNat = 61 ∨ x.toNat = 10) : ¬ x ∈ wrG a b := by
 have hp := plB_iff h
 rw [wr_eq h]
 intro hm
 rcases List.mem_cons.1 hm with hm | hm
 ·have : x.toNat = (UInt8.ofNat (64 + b.toNat)).toNat := by rw [hm]
  simp at this
  omega
 ·have := dig_all _ _ hm
  omega
theorem cutP_app (c : UInt8) : ∀ (x r : List UInt8), ¬ c ∈ x → cutP c (x ++ c :: r) = x.length
 | [], r, _ => by rw [List.nil_append, cutP_cons, if_pos rfl]; rfl
 | b :: x, r, h => by
  have h1 : ¬ b = c := fun e => h (by simp [e])
  rw [List.cons_append, cutP_cons, if_neg h1, cutP_app c x r fun hm => h (by simp [hm])]
  rfl
theorem drop_one (x r : List UInt8) (c : UInt8) : (x ++ c :: r).drop (x.length + 1) = r := by
 rw [show x ++ c :: r = (x ++ [c]) ++ r by simp, List.drop_left' (by simp)]
theorem split_line (x r : List UInt8) (h : ¬ (10 : UInt8) ∈ x) : splitG (x ++ 10 :: r) = x :: splitG r := by
 rw [splitG_cut, if_pos (by simp), cutP_app 10 x r h]
 congr 1
 ·simp
 ·rw [drop_one x r 10]
theorem fold_line (s : RS) (x r : List UInt8) (h : ¬ (10 : UInt8) ∈ x) : foldE s (splitG (x ++ 10 :: r)) = foldE (stepE s (lineK x)) (splitG r) := by
 rw [split_line x r h]; rfl
theorem line_cel {c : Cel} (h : plB c.1 c.2.1 = true) : lineK (wrG c.1 c.2.1 ++ 61 :: c.2.2) = .cel c := by
 have h1 : celK (wrG c.1 c.2.1 ++ 61 :: c.2.2) = some c := by
  unfold celK
  rw [if_pos (by simp), cutP_app 61 _ _ (wr_no h 61 (.inl rfl))]
  rw [List.take_left', wr_place h]
  ·simp only [Option.map_some]
   rw [drop_one]
  ·rfl
 unfold lineK
 rw [h1]
def celsW (l : List Cel) : Prop := ∀ c ∈ l, plB c.1 c.2.1 = true ∧ c.2.2 ≠ [] ∧ ¬ (10 : UInt8) ∈ c.2.2
theorem fold_cells : ∀ (l : List Cel) (s : RS) (r : List UInt8), celsW l → nodC (s.tab.map (·.2) ++ l) →
 ∃ s', foldE s (splitG (l.flatMap cellG ++ r)) = foldE s' (splitG r) ∧ s'.wid = s.wid ∧ s'.mac = s.mac ∧ s'.tab.map (·.2) = s.tab.map (·.2) ++ l
 | [], s, r, _, _ => ⟨s, rfl, rfl, rfl, by simp⟩
 | c :: l, s, r, hw, hn => by
  obtain ⟨h1, h2, h3⟩ := hw c (by simp)
  have hno : ¬ (10 : UInt8) ∈ wrG c.1 c.2.1 ++ 61 :: c.2.2 := by
   intro hm
   rcases List.mem_append.1 hm with hm | hm
   ·exact wr_no h1 10 (.inr rfl) hm
   ·rcases List.mem_cons.1 hm with hm | hm
    ·cases hm
    ·exact h3 hm
  have hfil : s.tab.filter (fun p => !celEq p.2 c) = s.tab := by
   refine List.filter_eq_self.2 fun p hp => ?_
   unfold nodC at hn
   have := (List.pairwise_append.1 hn).2.2 p.2 (List.mem_map.2 ⟨p, hp, rfl⟩) c (by simp)
   simp [this]
  have hst : (stepE s (.cel c)).tab.map (·.2) = s.tab.map (·.2) ++ [c] := by
   simp only [stepE, putE]
   rw [if_neg h2, hfil]
   simp
  obtain ⟨s', g1, g2, g3, g4⟩ := fold_cells l (stepE s (.cel c)) r (fun d hd => hw d (by simp [hd])) (by rw [hst]; simpa using hn)
  refine ⟨s', ?_, g2, g3, ?_⟩
  ·rw [← g1, ← line_cel h1, ← fold_line s _ _ hno]
   simp [cellG]
  ·rw [g4, hst]; simp
theorem line_wid {i : Nat} {w : Int} (hi : i < 26) (h1 : 1 ≤ w) (h2 : w ≤ 20) : lineK ([119, 105, 100, 116, 104, 32, UInt8.ofNat (65 + i), 32] ++ Lib.itoa w) = .wid i w := by
 rw [lineK_wid (by simp [macP]) (by simp [widP])]
 have hd := parseG_itoa w (by unfold inI; omega)
 have hne : Lib.itoa w ≠ [] := by rw [itoa_pos w (by omega)]; exact dec_ne _
 cases hq : Lib.itoa w with
 | nil => exact absurd hq hne
 | cons c r =>
  rw [hq] at hd
  show widK (UInt8.ofNat (65 + i) :: 32 :: c :: r) = _
  rw [widK, hd, col_of i hi, if_pos ⟨rfl, by omega, rfl⟩]
  rw [show max 1 (min w 20) = w by omega]
  rfl
theorem itoa_no (w : Int) (h : 0 ≤ w) : ¬ (10 : UInt8) ∈ Lib.itoa w := by
 rw [itoa_pos w h]
 intro hm
 have := dig_all _ _ hm
 simp at this
theorem fold_wids : ∀ (ws dn : List Int) (s : RS) (r : List UInt8), dn.length + ws.length = 26 → (∀ w ∈ ws, 1 ≤ w ∧ w ≤ 20) → s.wid = dn ++ List.replicate ws.length 6 →
 ∃ s', foldE s (splitG (widsG dn.length ws ++ r)) = foldE s' (splitG r) ∧ s'.wid = dn ++ ws ∧ s'.mac = s.mac ∧ s'.tab = s.tab
 | [], dn, s, r, _, _, hs => ⟨s, rfl, by simpa using hs, rfl, rfl⟩
 | w :: ws, dn, s, r, hl, hw, hs => by
  have h0 := hw w (by simp)
  simp only [List.length_cons] at hl
  by_cases h6 : w = 6
  ·obtain ⟨s', g1, g2, g3, g4⟩ := fold_wids ws (dn ++ [w]) s r (by simp; omega) (fun x hx => hw x (by simp [hx])) (by rw [hs, h6]; simp [List.replicate_succ])
   refine ⟨s', ?_, by simpa using g2, g3, g4⟩
   rw [← g1]
   simp [widsG, widG, h6]
  ·have hst : (stepE s (.wid dn.length w)).wid = (dn ++ [w]) ++ List.replicate ws.length 6 := by
    simp only [stepE]
    rw [hs, List.length_cons, List.replicate_succ, List.set_append_right _ _ (Nat.le_refl _)]
    simp
   obtain ⟨s', g1, g2, g3, g4⟩ := fold_wids ws (dn ++ [w]) (stepE s (.wid dn.length w)) r (by simp; omega) (fun x hx => hw x (by simp [hx])) hst
   refine ⟨s', ?_, by simpa using g2, g3, g4⟩
   have hno : ¬ (10 : UInt8) ∈ [119, 105, 100, 116, 104, 32, UInt8.ofNat (65 + dn.length), 32] ++ Lib.itoa w := by
    intro hm
    rcases List.mem_append.1 hm with hm | hm
    ·have e : ¬ (10 : UInt8) = UInt8.ofNat (65 + dn.length) := fun e => by
      have := congrArg UInt8.toNat e
      simp at this
      omega
     generalize UInt8.ofNat (65 + dn.length) = z at *
     revert hm
     simpa using e
    ·exact itoa_no w (by omega) hm
   rw [← g1, ← line_wid (by omega) h0.1 h0.2, ← fold_line s _ _ hno]
   congr 2
   simp [widsG, widG, h6]
theorem line_mac (t : List UInt8) : lineK ([109, 97, 99, 114, 111, 32] ++ t) = .mac t := by
 rw [lineK_mac (by rw [List.isPrefixOf_iff_prefix]; exact List.prefix_append _ _)]
 rfl
theorem fold_macs : ∀ (ms : List (List UInt8)) (s : RS) (r : List UInt8), (∀ t ∈ ms, ¬ (10 : UInt8) ∈ t) →
 ∃ s', foldE s (splitG (ms.flatMap macG ++ r)) = foldE s' (splitG r) ∧ s'.wid = s.wid ∧ s'.mac = s.mac ++ ms ∧ s'.tab = s.tab
 | [], s, r, _ => ⟨s, rfl, rfl, by simp, rfl⟩
 | t :: ms, s, r, h => by
  have hno : ¬ (10 : UInt8) ∈ [109, 97, 99, 114, 111, 32] ++ t := by
   intro hm
   rcases List.mem_append.1 hm with hm | hm
   ·revert hm; decide
   ·exact h t (by simp) hm
  obtain ⟨s', g1, g2, g3, g4⟩ := fold_macs ms (stepE s (.mac t)) r fun x hx => h x (by simp [hx])
  refine ⟨s', ?_, g2, by rw [g3]; simp [stepE], g4⟩
  rw [← g1, ← line_mac t, ← fold_line s _ _ hno]
  simp [macG]
theorem sort_srt : ∀ {l : List Cel}, srtC l → sortC l = l
 | [], _ => rfl
 | c :: r, h => by
  unfold srtC at h
  rw [List.pairwise_cons] at h
  rw [sortC, sort_srt h.2]
  refine insC_le fun d hd => ?_
  have := h.1 d hd
  rw [celLs_iff] at this
  rw [celLe_it]
  omega
theorem srt_nod {l : List Cel} (h : srtC l) : nodC l := by
 unfold srtC at h
 unfold nodC
 refine h.imp fun {a b} hab => ?_
 rw [celLs_iff] at hab
 rw [Bool.eq_false_iff, Ne, celEq_iff]
 omega
theorem ok_srt : ∀ (l : List Cel) (p : Option Cel), okFrom p l = true → srtC l ∧ celsW l ∧ ∀ q, p = some q → ∀ c ∈ l, celLs q c = true
 | [], p, _ => ⟨List.Pairwise.nil, (fun c hc => by cases hc), fun q _ c hc => by cases hc⟩
 | c :: r, p, h => by
  unfold okFrom at h
  simp only [Bool.and_eq_true, decide_eq_true_eq] at h
  obtain ⟨⟨h1, h2, h3, h4⟩, h5⟩ := h
  obtain ⟨g1, g2, g3⟩ := ok_srt r (some c) h5
  have g4 := g3 c rfl
  refine ⟨List.pairwise_cons.2 ⟨g4, g1⟩, fun d hd => ?_, fun q hq d hd => ?_⟩
  ·rcases List.mem_cons.1 hd with rfl | hd
   ·exact ⟨h1, h2, h3⟩
   ·exact g2 d hd
  ·subst hq
   simp only at h4
   rw [befB_lt] at h4
   rcases List.mem_cons.1 hd with rfl | hd
   ·exact h4
   ·have := g4 d hd
    rw [celLs_iff] at this h4 ⊢
    omega
theorem write_read {s : Sh} (h : rightB s = true) : hdrG.isPrefixOf (writeG s) = true ∧ readS (writeG s) = s := by
 have hw : writeG s = hdrG ++ (s.cells.flatMap cellG ++ (widsG 0 s.wid ++ s.mac.flatMap macG)) := by unfold writeG; rw [if_pos h]
 obtain ⟨hw26, hwr⟩ := rightB_wid h
 unfold rightB at h
 simp only [Bool.and_eq_true, decide_eq_true_eq] at h
 obtain ⟨c1, c2, _⟩ := ok_srt _ _ h.2.2.1
 have hm : ∀ t ∈ s.mac, ¬ (10 : UInt8) ∈ t := by
  have := h.2.2.2
  unfold macB at this
  simpa [List.all_eq_true] using this
 rw [hw]
 refine ⟨by rw [List.isPrefixOf_iff_prefix]; exact List.prefix_append _ _, ?_⟩
 unfold readS
 rw [show (hdrG ++ (s.cells.flatMap cellG ++ (widsG 0 s.wid ++ s.mac.flatMap macG))).drop 8 = s.cells.flatMap cellG ++ (widsG 0 s.wid ++ s.mac.flatMap macG) from rfl]
 obtain ⟨s1, a1, a2, a3, a4⟩ := fold_cells s.cells rs0 (widsG 0 s.wid ++ s.mac.flatMap macG) c2 (by simpa [rs0] using srt_nod c1)
 obtain ⟨s2, b1, b2, b3, b4⟩ := fold_wids s.wid [] s1 (s.mac.flatMap macG) (by simpa using hw26) hwr (by rw [a2, hw26]; rfl)
 obtain ⟨s3, d1, d2, d3, d4⟩ := fold_macs s.mac s2 [] hm
 rw [List.append_nil] at d1
 rw [List.length_nil] at b1
 rw [a1, b1, d1]
 have hfin : foldE s3 (splitG []) = s3 := rfl
 rw [hfin]
 unfold tabS
 rw [d2, b2, d3, b3, a3, d4, b4, a4]
 simp only [rs0, List.map_nil, List.nil_append]
 rw [sort_srt c1]
end Go.Vai
namespace Go.Vai
def foldK (s : RS) (ks : List LK) : RS := ks.foldl stepE s
def apartK : LK → LK → Prop
 | .cel x, .cel y => celEq x y = false
 | .wid i _, .wid j _ => i ≠ j
 | .mac _, .mac _ => False
 | _, _ => True
theorem apartK_symm {a b : LK} (h : apartK a b) : apartK b a := by
 cases a <;> cases b <;> simp only [apartK] at h ⊢
 ·rw [celEq_comm]; exact h
 ·exact fun e => h e.symm
def simS (s t : RS) : Prop := s.wid = t.wid ∧ s.mac = t.mac ∧ (s.tab.map (·.2)).Perm (t.tab.map (·.2))
def oneC (x : Cel) : List Cel := if x.2.2 = [] then [] else [x]
theorem tabC_eq (l : List Cel) (x : Cel) : tabC l x = l.filter (fun d => !celEq d x) ++ oneC x := by
 unfold tabC oneC
 split <;> simp
theorem tab_perm {a b : List Cel} (h : a.Perm b) (x : Cel) : (tabC a x).Perm (tabC b x) := by
 rw [tabC_eq, tabC_eq]
 exact (h.filter _).append_right _
theorem oneC_filter {x y : Cel} (h : celEq x y = false) : (oneC x).filter (fun d => !celEq d y) = oneC x := by
 unfold oneC
 split
 ·rfl
 ·simp [h]
theorem tab_swap (l : List Cel) {x y : Cel} (h : celEq x y = false) : (tabC (tabC l x) y).Perm (tabC (tabC l y) x) := by
 rw [tabC_eq (tabC l x), tabC_eq l x, tabC_eq (tabC l y), tabC_eq l y]
 rw [List.filter_append, List.filter_append, oneC_filter h, oneC_filter (by rw [celEq_comm]; exact h)]
 rw [List.filter_filter, List.filter_filter, List.append_assoc, List.append_assoc]
 rw [show (fun a => (!celEq a y) && !celEq a x) = fun a => (!celEq a x) && !celEq a y by funext a; rw [Bool.and_comm]]
 exact List.Perm.append_left _ List.perm_append_comm
theorem sim_step {s t : RS} (h : simS s t) (k : LK) : simS (stepE s k) (stepE t k) := by
 obtain ⟨h1, h2, h3⟩ := h
 cases k with
 | cel x => exact ⟨h1, h2, by simp only [stepE]; rw [putE_tab, putE_tab]; exact tab_perm h3 x⟩
 | mac t => exact ⟨h1, by simp only [stepE]; rw [h2], h3⟩
 | wid i n => exact ⟨by simp only [stepE]; rw [h1], h2, h3⟩
 | non => exact ⟨h1, h2, h3⟩
theorem sim_refl (s : RS) : simS s s := ⟨rfl, rfl, .refl _⟩
theorem sim_trans {a b c : RS} (h : simS a b) (g : simS b c) : simS a c := ⟨h.1.trans g.1, h.2.1.trans g.2.1, h.2.2.trans g.2.2⟩
theorem set_comm2 : ∀ (l : List Int) (i j : Nat) (a b : Int), i ≠ j → (l.set i a).set j b = (l.set j b).set i a
 | [], _, _, _, _, _ => rfl
 | x :: r, 0, 0, _, _, h => absurd rfl h
 | x :: r, 0, j + 1, _, _, _ => rfl
 | x :: r, i + 1, 0, _, _, _ => rfl
 | x :: r, i + 1, j + 1, a, b, h => by
  simp only [List.set_cons_succ]
  rw [set_comm2 r i j a b fun e => h (by rw [e])]
theorem sim_swap (s : RS) {a b : LK} (h : apartK a b) : simS (stepE (stepE s a) b) (stepE (stepE s b) a) := by
 cases a with
 | cel x =>
  cases b with
  | cel y =>
   refine ⟨rfl, rfl, ?_⟩
   simp only [stepE]
   rw [putE_tab, putE_tab, putE_tab, putE_tab]
   exact tab_swap _ h
  | mac t => exact ⟨rfl, rfl, .refl _⟩
  | wid i n => exact ⟨rfl, rfl, .refl _⟩
  | non => exact sim_refl _
 | mac t =>
  cases b with
  | cel y => exact ⟨rfl, rfl, .refl _⟩
  | mac u => exact absurd h id
  | wid i n => exact ⟨rfl, rfl, .refl _⟩
  | non => exact sim_refl _
 | wid i n =>
  cases b with
  | cel y => exact ⟨rfl, rfl, .refl _⟩
  | mac u => exact ⟨rfl, rfl, .refl _⟩
  | wid j k => exact ⟨by simp only [stepE]; exact set_comm2 _ _ _ _ _ h, rfl, .refl _⟩
  | non => exact sim_refl _
 | non => exact sim_refl _
theorem sim_fold : ∀ (ks : List LK) (s t : RS), simS s t → simS (foldK s ks) (foldK t ks)
 | [], s, t, h => h
 | k :: r, s, t, h => sim_fold r _ _ (sim_step h k)
theorem perm_fold {ks ks' : List LK} (h : ks.Perm ks') : ∀ (s : RS), ks.Pairwise apartK → simS (foldK s ks) (foldK s ks') := by
 induction h with
 | nil => exact fun s _ => sim_refl _
 | cons k _ ih =>
  intro s hp
  rw [List.pairwise_cons] at hp
  exact ih (stepE s k) hp.2
 | swap a b l =>
  intro s hp
  rw [List.pairwise_cons] at hp
  exact sim_fold l _ _ (sim_swap s (hp.1 a (by simp)))
 | trans h1 _ ih1 ih2 =>
  intro s hp
  exact sim_trans (ih1 s hp) (ih2 s (h1.pairwise hp fun h => apartK_symm h))
theorem sortC_pm {a b : List Cel} (h : a.Perm b) : nodC a → sortC a = sortC b := by
 induction h with
 | nil => exact fun _ => rfl
 | cons k _ ih =>
  intro hn
  unfold nodC at hn
  rw [List.pairwise_cons] at hn
  rw [sortC, sortC, ih hn.2]
 | swap x y l =>
  intro hn
  unfold nodC at hn
  rw [List.pairwise_cons] at hn
  rw [sortC, sortC, sortC, sortC]
  exact insC_comm (hn.1 x (by simp))
 | trans h1 _ ih1 ih2 =>
  intro hn
  rw [ih1 hn]
  exact ih2 (h1.pairwise hn fun {x y} h => by rw [celEq_comm]; exact h)
def lfL (L : List (List UInt8)) : List UInt8 := L.flatMap fun x => x ++ [10]
theorem fold_lines : ∀ (L : List (List UInt8)) (s : RS), (∀ x ∈ L, ¬ (10 : UInt8) ∈ x) → foldE s (splitG (lfL L)) = foldK s (L.map lineK)
 | [], s, _ => rfl
 | x :: r, s, h => by
  rw [show lfL (x :: r) = x ++ 10 :: lfL r by simp [lfL], fold_line s x _ (h x (by simp))]
  exact fold_lines r (stepE s (lineK x)) fun y hy => h y (by simp [hy])
def widL : Nat → List Int → List (List UInt8)
 | _, [] => []
 | i, w :: r => if w = 6 then widL (i + 1) r else ([119, 105, 100, 116, 104, 32, UInt8.ofNat (65 + i), 32] ++ Lib.itoa w) :: widL (i + 1) r
def linesS (s : Sh) : List (List UInt8) := s.cells.map (fun c => wrG c.1 c.2.1 ++ 61 :: c.2.2) ++ (widL 0 s.wid ++ s.mac.map fun t => [109, 97, 99, 114, 111, 32] ++ t)
theorem lfL_app (a b : List (List UInt8)) : lfL (a ++ b) = lfL a ++ lfL b := by simp [lfL]
theorem lfL_wid : ∀ (l : List Int) (i : Nat), lfL (widL i l) = widsG i l
 | [], _ => rfl
 | w :: r, i => by
  have ih := lfL_wid r (i + 1)
  unfold widL widsG widG
  split
  ·simpa using ih
  ·rw [← ih]
   simp [lfL]
theorem lines_write {s : Sh} (h : rightB s = true) : writeG s = hdrG ++ lfL (linesS s) := by
 unfold writeG
 rw [if_pos h]
 unfold linesS
 rw [lfL_app, lfL_app, lfL_wid]
 congr 1
 congr 1
 ·simp only [lfL, List.flatMap_map]
  congr 1
  funext c
  simp [cellG]
 ·congr 1
  simp only [lfL, List.flatMap_map]
  congr 1
def widKs : Nat → List Int → List LK
 | _, [] => []
 | i, w :: r => if w = 6 then widKs (i + 1) r else .wid i w :: widKs (i + 1) r
def kindsS (s : Sh) : List LK := s.cells.map .cel ++ (widKs 0 s.wid ++ s.mac.map .mac)
theorem wid_kinds : ∀ (l : List Int) (i : Nat), i + l.length ≤ 26 → (∀ w ∈ l, 1 ≤ w ∧ w ≤ 20) → (widL i l).map lineK = widKs i l ∧ (∀ x ∈ widL i l, ¬ (10 : UInt8) ∈ x)
 | [], _, _, _ => ⟨rfl, fun x hx => by cases hx⟩
 | w :: r, i, hl, hw => by
  simp only [List.length_cons] at hl
  have h0 := hw w (by simp)
  obtain ⟨g1, g2⟩ := wid_kinds r (i + 1) (by omega) fun x hx => hw x (by simp [hx])
  unfold widL widKs
  split
  ·exact ⟨g1, g2⟩
  ·refine ⟨?_, fun x hx => ?_⟩
   ·rw [List.map_cons, line_wid (by omega) h0.1 h0.2, g1]
   ·rcases List.mem_cons.1 hx with rfl | hx
    ·intro hm
     rcases List.mem_append.1 hm with hm | hm
     ·have e : ¬ (10 : UInt8) = UInt8.ofNat (65 + i) := fun e => by
       have := congrArg UInt8.toNat e
       simp at this
       omega
      generalize UInt8.ofNat (65 + i) = z at *
      revert hm
      simpa using e
     ·exact itoa_no w (by omega) hm
    ·exact g2 x hx
theorem lines_kinds {s : Sh} (h : rightB s = true) : (linesS s).map lineK = kindsS s ∧ ∀ x ∈ linesS s, ¬ (10 : UInt8) ∈ x := by
 obtain ⟨hw26, hwr⟩ := rightB_wid h
 unfold rightB at h
 simp only [Bool.and_eq_true, decide_eq_true_eq] at h
 obtain ⟨c1, c2, _⟩ := ok_srt _ _ h.2.2.1
 have hm : ∀ t ∈ s.mac, ¬ (10 : UInt8) ∈ t := by
  have := h.2.2.2
  unfold macB at this
  simpa [List.all_eq_true] using this
 obtain ⟨g1, g2⟩ := wid_kinds s.wid 0 (by omega) hwr
 unfold linesS kindsS
 refine ⟨?_, fun x hx => ?_⟩
 ·rw [List.map_append, List.map_append, g1, List.map_map, List.map_map]
  congr 1
  ·refine List.map_congr_left fun c hc => ?_
   exact line_cel (c2 c hc).1
  ·congr 1
   refine List.map_congr_left fun t ht => ?_
   exact line_mac t
 ·rcases List.mem_append.1 hx with hx | hx
  ·obtain ⟨c, hc, rfl⟩ := List.mem_map.1 hx
   obtain ⟨a1, a2, a3⟩ := c2 c hc
   intro hm2
   rcases List.mem_append.1 hm2 with hm2 | hm2
   ·exact wr_no a1 10 (.inr rfl) hm2
   ·rcases List.mem_cons.1 hm2 with hm2 | hm2
    ·cases hm2
    ·exact a3 hm2
  ·rcases List.mem_append.1 hx with hx | hx
   ·exact g2 x hx
   ·obtain ⟨t, ht, rfl⟩ := List.mem_map.1 hx
    intro hm2
    rcases List.mem_append.1 hm2 with hm2 | hm2
    ·revert hm2; decide
    ·exact hm t ht hm2
theorem widKs_mem : ∀ (l : List Int) (i : Nat) (k : LK), k ∈ widKs i l → ∃ j w, k = .wid j w ∧ i ≤ j
 | [], _, k, h => by cases h
 | w :: r, i, k, h => by
  unfold widKs at h
  split at h
  ·obtain ⟨j, x, e, hj⟩ := widKs_mem r (i + 1) k h
   exact ⟨j, x, e, by omega⟩
  ·rcases List.mem_cons.1 h with rfl | h
   ·exact ⟨i, w, rfl, Nat.le_refl _⟩
   ·obtain ⟨j, x, e, hj⟩ := widKs_mem r (i + 1) k h
    exact ⟨j, x, e, by omega⟩
theorem widKs_apart : ∀ (l : List Int) (i : Nat), (widKs i l).Pairwise apartK
 | [], _ => List.Pairwise.nil
 | w :: r, i => by
  unfold widKs
  split
  ·exact widKs_apart r (i + 1)
  ·refine List.pairwise_cons.2 ⟨fun k hk => ?_, widKs_apart r (i + 1)⟩
   obtain ⟨j, x, rfl, hj⟩ := widKs_mem r (i + 1) k hk
   show i ≠ j
   omega
theorem kinds_apart {s : Sh} (h : rightB s = true) (h1 : s.mac.length ≤ 1) : (kindsS s).Pairwise apartK := by
 unfold rightB at h
 simp only [Bool.and_eq_true, decide_eq_true_eq] at h
 obtain ⟨c1, c2, _⟩ := ok_srt _ _ h.2.2.1
 unfold kindsS
 refine List.pairwise_append.2 ⟨?_, List.pairwise_append.2 ⟨widKs_apart _ _, ?_, ?_⟩, ?_⟩
 ·exact List.pairwise_map.2 ((srt_nod c1).imp fun h => h)
 ·match s.mac, h1 with
  | [], _ => exact List.Pairwise.nil
  | [t], _ => simp
 ·intro a ha b hb
  obtain ⟨j, w, rfl, _⟩ := widKs_mem _ _ _ ha
  obtain ⟨t, _, rfl⟩ := List.mem_map.1 hb
  trivial
 ·intro a ha b hb
  obtain ⟨c, _, rfl⟩ := List.mem_map.1 ha
  rcases List.mem_append.1 hb with hb | hb
  ·obtain ⟨j, w, rfl, _⟩ := widKs_mem _ _ _ hb
   trivial
  ·obtain ⟨t, _, rfl⟩ := List.mem_map.1 hb
   trivial
def sayK : LK → Bool
 | .non => false
 | _ => true
theorem lines_any {s : Sh} (h : rightB s = true) (h1 : s.mac.length ≤ 1) (M : List (List UInt8)) (hM : ∀ x ∈ M, ¬ (10 : UInt8) ∈ x) (hp : ((M.map lineK).filter sayK).Perm (kindsS s)) : readS (hdrG ++ lfL M) = s := by
 obtain ⟨w1, w2⟩ := write_read h
 obtain ⟨k1, k2⟩ := lines_kinds h
 have e0 := lines_write h
 have hf : ∀ (ks : List LK) (s : RS), foldK s (ks.filter sayK) = foldK s ks := by
  intro ks
  induction ks with
  | nil => exact fun s => rfl
  | cons k r ih =>
   intro s
   cases k with
   | non => exact ih s
   | cel x => exact ih _
   | mac x => exact ih _
   | wid x y => exact ih _
 have hA : foldE rs0 (splitG ((hdrG ++ lfL M).drop 8)) = foldK rs0 (M.map lineK) := fold_lines M rs0 hM
 have hB : foldE rs0 (splitG ((writeG s).drop 8)) = foldK rs0 (kindsS s) := by
  rw [e0, ← k1]
  exact fold_lines _ rs0 k2
 have hs := perm_fold hp.symm rs0 (kinds_apart h h1)
 rw [hf] at hs
 have hok := (fold_ok (splitG ((writeG s).drop 8)) rs0 rs0_ok).1
 rw [hB] at hok
 have e : readS (hdrG ++ lfL M) = readS (writeG s) := by
  unfold readS tabS
  rw [hA, hB, hs.1, hs.2.1, sortC_pm hs.2.2 hok.2]
 rw [e, w2]
end Go.Vai
namespace Go.Vai
variable {m : Int} {e3 e4 : Value}
theorem write_len (s : Sh) (n : Nat) (h : szSh s ≤ n) : (writeG s).length ≤ 762 + 60 * n := by
 have hsz : szSh s = s.cells.length + s.wid.length + s.mac.length + sumT (s.cells.map (·.2.2)) + sumT s.mac := rfl
 unfold writeG
 cases hb : rightB s
 ·simp
 ·obtain ⟨h1, h2⟩ := rightB_wid hb
  have a1 := cells_len s.cells
  have a2 := wids_len s.wid 0 h2
  have a3 := macs_len s.mac
  simp only [if_pos, List.length_append, hdrG, List.length_cons, List.length_nil]
  omega
end Go.Vai
namespace Go.Vai
variable {m : Int} {e3 e4 : Value}
def brkG : List UInt8 → List UInt8 → List (List UInt8)
 | _, [] => []
 | cur, c :: r => if c = 10 then (cur ++ [10]) :: brkG [] r else brkG (cur ++ [c]) r
theorem brkG_cons (cur : List UInt8) (c : UInt8) (r : List UInt8) : brkG cur (c :: r) = if c = 10 then (cur ++ [10]) :: brkG [] r else brkG (cur ++ [c]) r := by rw [brkG]
theorem brk_line : ∀ (x cur r : List UInt8), ¬ (10 : UInt8) ∈ x → brkG cur (x ++ 10 :: r) = (cur ++ x ++ [10]) :: brkG [] r
 | [], cur, r, _ => by rw [List.nil_append, brkG_cons, if_pos rfl, List.append_nil]
 | c :: x, cur, r, h => by
  have h1 : ¬ c = 10 := fun e => h (by simp [e])
  rw [List.cons_append, brkG_cons, if_neg h1, brk_line x _ r fun hm => h (by simp [hm])]
  simp
theorem brk_lf : ∀ L : List (List UInt8), (∀ x ∈ L, ¬ (10 : UInt8) ∈ x) → brkG [] (lfL L) = L.map fun x => x ++ [10]
 | [], _ => rfl
 | x :: r, h => by
  rw [show lfL (x :: r) = x ++ 10 :: lfL r by simp [lfL], brk_line x [] _ (h x (by simp)), brk_lf r fun y hy => h y (by simp [hy])]
  simp
def otherG (r : List UInt8) : List UInt8 := [35, 32] ++ r.filter fun b => decide (¬ b = 10)
def atG (od : List Int) (k n : Nat) : Nat := match od[k]? with
 | some o => (max (o.tmod n) 0).toNat
 | none => 0
theorem atG_lt (od : List Int) (k n : Nat) (hn : 0 < n) : atG od k n < n := by
 unfold atG
 split
 ·rename_i o _
  have := Int.tmod_lt_of_pos o (show (0 : Int) < n by omega)
  omega
 ·exact hn
def pickG (od : List Int) (o : List UInt8) : Nat → Nat → List (List UInt8) → List UInt8
 | 0, _, _ => []
 | n + 1, k, L => match L[atG od k L.length]? with
  | some x => (o ++ [10] ++ x) ++ pickG od o n (k + 1) (L.eraseIdx (atG od k L.length))
  | none => []
def pickX (od : List Int) : Nat → Nat → List (List UInt8) → List (List UInt8)
 | 0, _, _ => []
 | n + 1, k, L => match L[atG od k L.length]? with
  | some x => x :: pickX od n (k + 1) (L.eraseIdx (atG od k L.length))
  | none => []
theorem erase_perm : ∀ (L : List (List UInt8)) (i : Nat) (x : List UInt8), L[i]? = some x → (x :: L.eraseIdx i).Perm L
 | [], i, x, h => by simp at h
 | y :: r, 0, x, h => by simp at h; subst h; simp
 | y :: r, i + 1, x, h => by
  have ih := erase_perm r i x (by simpa using h)
  rw [List.eraseIdx_cons_succ]
  exact (List.Perm.swap y x _).trans (ih.cons y)
theorem erase_map (f : List UInt8 → List UInt8) : ∀ (L : List (List UInt8)) (i : Nat), (L.map f).eraseIdx i = (L.eraseIdx i).map f
 | [], i => rfl
 | y :: r, 0 => rfl
 | y :: r, i + 1 => by simp [erase_map f r i]
theorem pickX_perm (od : List Int) : ∀ (n k : Nat) (L : List (List UInt8)), L.length = n → (pickX od n k L).Perm L
 | 0, _, L, h => by rw [List.length_eq_zero_iff.1 h]; exact .refl _
 | n + 1, k, L, h => by
  have ha := atG_lt od k L.length (by omega)
  obtain ⟨x, hx⟩ : ∃ x, L[atG od k L.length]? = some x := ⟨_, List.getElem?_eq_getElem ha⟩
  unfold pickX
  rw [hx]
  simp only
  have ih := pickX_perm od n (k + 1) (L.eraseIdx (atG od k L.length)) (by rw [List.length_eraseIdx_of_lt ha]; omega)
  exact (ih.cons x).trans (erase_perm L _ x hx)
theorem pick_lf (od : List Int) (o : List UInt8) : ∀ (n k : Nat) (L : List (List UInt8)), pickG od o n k (L.map fun x => x ++ [10]) = lfL ((pickX od n k L).flatMap fun x => [o, x])
 | 0, _, _ => rfl
 | n + 1, k, L => by
  unfold pickG pickX
  rw [List.length_map, List.getElem?_map]
  cases L[atG od k L.length]? with
  | none => rfl
  | some x =>
   simp only [Option.map_some]
   rw [erase_map, pick_lf od o n (k + 1)]
   simp [lfL]
theorem line_other (r : List UInt8) : lineK (otherG r) = .non := by
 have hc : ∀ t, placeG (35 :: t) = none := fun t => by
  rw [placeG, if_neg (fun h => by have := h.2.1; revert this; decide)]
 have h1 : celK (otherG r) = none := by
  unfold celK
  split
  ·rename_i hm
   have hp : ∃ t, (otherG r).take (cutP 61 (otherG r)) = 35 :: t := by
    unfold otherG
    rw [List.cons_append, cutP_cons, if_neg (by decide), List.take_succ_cons]
    exact ⟨_, rfl⟩
   obtain ⟨t, ht⟩ := hp
   rw [ht, hc]; rfl
  ·rfl
 unfold lineK
 rw [h1]
 rfl
theorem lines_pick {s : Sh} (h : rightB s = true) (h1 : s.mac.length ≤ 1) (od : List Int) (r : List UInt8) :
 readS (hdrG ++ pickG od (otherG r) (linesS s).length 0 ((linesS s).map fun x => x ++ [10])) = s := by
 obtain ⟨k1, k2⟩ := lines_kinds h
 have hp := pickX_perm od (linesS s).length 0 (linesS s) rfl
 rw [pick_lf]
 have ho : ¬ (10 : UInt8) ∈ otherG r := by
  unfold otherG
  intro hm
  rcases List.mem_append.1 hm with hm | hm
  ·revert hm; decide
  ·have := (List.mem_filter.1 hm).2
   simp at this
 refine lines_any h h1 _ (fun x hx => ?_) ?_
 ·obtain ⟨y, hy, hx⟩ := List.mem_flatMap.1 hx
  simp at hx
  rcases hx with rfl | rfl
  ·exact ho
  ·exact k2 _ (hp.mem_iff.1 hy)
 ·have e : ∀ X : List (List UInt8), ((X.flatMap fun x => [otherG r, x]).map lineK).filter sayK = (X.map lineK).filter sayK := by
   intro X
   induction X with
   | nil => rfl
   | cons x t ih =>
    rw [List.flatMap_cons, List.map_append, List.filter_append, ih, List.map_cons, List.map_cons, line_other]
    rw [List.map_cons, ← List.singleton_append (l := t.map lineK), List.filter_append]
    rfl
  rw [e]
  have hq := (hp.map lineK).filter sayK
  rw [k1] at hq
  refine hq.trans ?_
  have : (kindsS s).filter sayK = kindsS s := by
   refine List.filter_eq_self.2 fun k hk => ?_
   unfold kindsS at hk
   rcases List.mem_append.1 hk with hk | hk
   ·obtain ⟨c, _, rfl⟩ := List.mem_map.1 hk; rfl
   ·rcases List.mem_append.1 hk with hk | hk
    ·obtain ⟨j, w, rfl, _⟩ := widKs_mem _ _ _ hk; rfl
    ·obtain ⟨t, _, rfl⟩ := List.mem_map.1 hk; rfl
  rw [this]
def wtL (L : List (List UInt8)) : Nat := (L.map fun x => x.length + 60).sum
theorem wt_erase : ∀ (L : List (List UInt8)) (i : Nat) (x : List UInt8), L[i]? = some x → wtL L = wtL (L.eraseIdx i) + (x.length + 60)
 | [], i, x, h => by simp at h
 | y :: r, 0, x, h => by simp at h; subst h; simp [wtL]; omega
 | y :: r, i + 1, x, h => by
  have ih := wt_erase r i x (by simpa using h)
  rw [List.eraseIdx_cons_succ]
  simp only [wtL, List.map_cons, List.sum_cons] at ih ⊢
  omega
theorem brk_wt : ∀ (l cur : List UInt8), wtL (brkG cur l) ≤ cur.length + 61 * l.length
 | [], cur => by simp [brkG, wtL]
 | c :: r, cur => by
  rw [brkG_cons]
  split
  ·have := brk_wt r []
   simp only [wtL, List.map_cons, List.sum_cons, List.length_append, List.length_cons, List.length_nil] at this ⊢
   omega
  ·have := brk_wt r (cur ++ [c])
   simp only [List.length_append, List.length_cons, List.length_nil] at this ⊢
   omega
theorem pick_wt (od : List Int) (o : List UInt8) (ho : o.length ≤ 52) : ∀ (n k : Nat) (L : List (List UInt8)), (pickG od o n k L).length ≤ wtL L
 | 0, _, _ => by simp [pickG]
 | n + 1, k, L => by
  unfold pickG
  cases hx : L[atG od k L.length]? with
  | none => simp
  | some x =>
   have h1 := wt_erase L _ x hx
   have h2 := pick_wt od o ho n (k + 1) (L.eraseIdx (atG od k L.length))
   simp only [List.length_append, List.length_cons, List.length_nil]
   omega
theorem eraseA (M : List (List UInt8)) (i : Nat) : (M.map eTx).take i ++ (M.map eTx).drop (i + 1) = (M.eraseIdx i).map eTx := by
 rw [List.eraseIdx_eq_take_drop_succ, List.map_append, List.map_take, List.map_drop]
def bxS (s : Sh) : Option Blk := some (.box [rwS (s.cells.map eCel), rwS (s.wid.map eIn), rwS (s.mac.map eTx)])
def S4a (s : Sh) (od : List Int) (r b : List UInt8) (a : Nat × Nat × List (List UInt8)) : St := { sl := [(1, rwS (od.map eIn)), (2, bs r), (3, .bp 0 0), (7, bo true), (8, bs b), (9, .osl 1 1 0 a.2.2.length), (10, i64 a.2.1), (11, i64 a.1)], hp := [(0, bxS s), (1, some (.arr 1 (a.2.2.map eTx)))], nx := 2 }
def S4b (s : Sh) (od : List Int) (r b : List UInt8) (L : List (List UInt8)) (i : Nat) : St := { sl := [(1, rwS (od.map eIn)), (2, bs r), (3, .bp 0 0), (7, bo true), (8, bs b), (9, .osl 1 1 0 L.length), (12, bs (otherG (r.take i))), (13, i64 i)], hp := [(0, bxS s), (1, some (.arr 1 (L.map eTx)))], nx := 2 }
def S4c (s : Sh) (od : List Int) (o : List UInt8) (a : Nat × List (List UInt8) × List UInt8) : St := { sl := [(1, rwS (od.map eIn)), (3, .bp 0 0), (7, bo true), (9, .osl 1 1 0 a.2.1.length), (12, bs o), (14, bs a.2.2), (15, i64 a.1)], hp := [(0, bxS s), (1, some (.arr 1 (a.2.1.map eTx)))], nx := 2 }
set_option maxHeartbeats 2000000 in
theorem law_lines_main (s : Sh) (od : List Int) (r : List UInt8) (hk : szSh s ≤ 1500) (hod : ∀ x ∈ od, inI x) (hol : od.length ≤ 140737488351232) (hr : rightB s = true) (hm1 : s.mac.length ≤ 1) (hr50 : r.length ≤ 50)
 (hf : (W m e3 e4).run 8 [shA s, i64 1500] [] = some (bo true, [])) : (W m e3 e4).run 4 [shA s, rwS (od.map eIn), bs r] [] = some (bo true, []) := by
 obtain ⟨t1, t2, t3, t4, t5⟩ := sz_texts s 1500 hk
 have h1 := run_right (m := m) (e3 := e3) (e4 := e4) s (by omega) (fun c hc => by have := t1 c hc; omega) (fun t ht => by have := t2 t ht; omega)
 have h2 := run_write (m := m) (e3 := e3) (e4 := e4) s (by omega) (fun c hc => by have := t1 c hc; omega) (fun t ht => by have := t2 t ht; omega)
 have h3 := same_ok (m := m) (e3 := e3) (e4 := e4) s 1500 hk (by decide)
 have hwl := write_len s 1500 hk
 have hpk := lines_pick hr hm1 od r
 have hlw := lines_write hr
 obtain ⟨_, k2⟩ := lines_kinds hr
 have hbk := brk_lf (linesS s) k2
 have hd8 : (writeG s).drop 8 = lfL (linesS s) := by rw [hlw]; rfl
 have ht8 : (writeG s).take 8 = hdrG := by rw [hlw]; rfl
 have hlen8 : 8 ≤ (writeG s).length := by rw [hlw]; simp [hdrG]
 rw [← hd8] at hbk
 have hLn : (linesS s).length = ((linesS s).map fun x => x ++ [10]).length := by simp
 rw [hLn] at hpk
 rw [← hbk] at hpk
 have hwt := brk_wt ((writeG s).drop 8) []
 rw [List.length_drop] at hwt
 obtain ⟨tot, htot⟩ : ∃ tot, brkG [] ((writeG s).drop 8) = tot := ⟨_, rfl⟩
 rw [htot] at hpk hwt
 rw [hr] at h1
 clear hbk hLn hd8 hlw k2 t1 t2
 generalize writeG s = b at *
 have hs0 : shA s = .agg [rwS (s.cells.map eCel), rwS (s.wid.map eIn), rwS (s.mac.map eTx)] := rfl
 rw [hs0] at hf h1 h2 h3 ⊢
 simp only [rwS] at hf h1 h2 h3 ⊢
 refine run_wp (by rw [W_T]; exact rfl) ?_
 simp -dsimp -implicitDefEqProofs (maxSteps := 1000000) (disch := omega) [ST, run_awake, hf, h1, h2, show ¬ 1 < s.mac.length by omega, show ¬ 50 < r.length by omega]
 refine wp_inv (S4a s od r b) (fun a => a.2.1 ≤ a.1 ∧ a.1 ≤ b.length ∧ a.2.2.length ≤ a.1 ∧ a.2.2 ++ brkG ((b.take a.1).drop a.2.1) (b.drop a.1) = tot) (fun a => b.length - a.1) (8, 8, []) ⟨by simp, hlen8, by simp, by simp only [List.nil_append]; rw [← htot]; congr 1; simp⟩ (by simp -dsimp -implicitDefEqProofs (maxSteps := 1000000) (disch := omega) [ST, S4a, bxS, rwS]) ?_
 rintro ⟨i, fr, L⟩ ⟨g1, g2, g3, g4⟩
 simp only at g1 g2 g3 g4
 by_cases hi : i < b.length
 ·obtain ⟨c, hc⟩ : ∃ c, b[i] = c := ⟨_, rfl⟩
  have hc2 : b[i]? = some c := by rw [List.getElem?_eq_getElem hi, hc]
  rw [List.drop_eq_getElem_cons hi, hc, brkG_cons] at g4
  have htk : (b.take (i + 1)).drop fr = (b.take i).drop fr ++ [c] := by
   rw [List.take_add_one, hc2, List.drop_append_of_le_length (by rw [List.length_take]; omega)]
   simp
  by_cases h10 : c = 10
  ·subst h10
   rw [if_pos rfl] at g4
   have hcl : ((b.take i).drop fr ++ [10]).length ≤ 1000000 := by simp; omega
   simp -dsimp -implicitDefEqProofs (maxSteps := 1000000) (disch := omega) [ST, S4a, bxS, rwS, hi, hc, htk, show fr ≤ i + 1 by omega, show i + 1 ≤ b.length by omega]
   refine again (i + 1, i + 1, L ++ [(b.take i).drop fr ++ [10]]) ⟨by simp, by simp only; omega, by simp; omega, by simp only; rw [← g4]; simp⟩ (by simp only; omega) (by simp -dsimp -implicitDefEqProofs (maxSteps := 1000000) (disch := omega) [ST, S4a, bxS, rwS, eTx])
  ·rw [if_neg h10] at g4
   have hn : ¬ c.toNat = 10 := fun e => h10 (by apply UInt8.toNat_inj.1; exact e)
   simp -dsimp -implicitDefEqProofs (maxSteps := 1000000) (disch := omega) [ST, S4a, bxS, rwS, hi, hc, hn]
   refine again (i + 1, fr, L) ⟨by simp only; omega, by simp only; omega, by simp only; omega, by simp only; rw [htk]; exact g4⟩ (by simp only; omega) (by simp -dsimp -implicitDefEqProofs (maxSteps := 1000000) (disch := omega) [ST, S4a, bxS, rwS])
 ·obtain rfl : i = b.length := by omega
  rw [List.drop_length, show ∀ cur, brkG cur [] = [] from fun cur => by rw [brkG], List.append_nil] at g4
  subst g4
  simp -dsimp -implicitDefEqProofs (maxSteps := 1000000) (disch := omega) [ST, S4a, bxS, rwS]
  refine wp_inv (S4b s od r b L) (fun i => i ≤ r.length) (fun i => r.length - i) 0 (by omega) (by simp -dsimp -implicitDefEqProofs (maxSteps := 1000000) (disch := omega) [ST, S4b, bxS, rwS, otherG]) ?_
  intro i hi
  have hol2 : (otherG (r.take i)).length ≤ 52 := by
   unfold otherG
   have := List.length_filter_le (fun b => decide (¬ b = (10 : UInt8))) (r.take i)
   rw [List.length_take] at this
   simp only [List.length_append, List.length_cons, List.length_nil]
   omega
  by_cases hi2 : i < r.length
  ·obtain ⟨c, hc⟩ : ∃ c, r[i] = c := ⟨_, rfl⟩
   have hc2 : r[i]? = some c := by rw [List.getElem?_eq_getElem hi2, hc]
   have hch : (r.take (i + 1)).drop i = [c] := by
    rw [List.take_add_one, hc2, List.drop_append_of_le_length (by rw [List.length_take]; omega)]
    simp
   have hot : otherG (r.take (i + 1)) = otherG (r.take i) ++ [c].filter fun b => decide (¬ b = (10 : UInt8)) := by
    unfold otherG
    rw [List.take_add_one, hc2]
    simp
   by_cases h10 : c = 10
   ·subst h10
    simp -dsimp -implicitDefEqProofs (maxSteps := 1000000) (disch := omega) [ST, S4b, bxS, rwS, hi2, hc]
    refine again (i + 1) (by omega) (by omega) (by simp -dsimp -implicitDefEqProofs (maxSteps := 1000000) (disch := omega) [ST, S4b, bxS, rwS, hot])
   ·have hn : ¬ c.toNat = 10 := fun e => h10 (by apply UInt8.toNat_inj.1; exact e)
    simp -dsimp -implicitDefEqProofs (maxSteps := 1000000) (disch := omega) [ST, S4b, bxS, rwS, hi2, hc, hn, hch, show i ≤ i + 1 by omega, show i + 1 ≤ r.length by omega, show (otherG (r.take i)).length + 1 ≤ 9223372036854775807 by omega]
    have hfc : [c].filter (fun b => decide (¬ b = (10 : UInt8))) = [c] := by simp [h10]
    rw [hfc] at hot
    refine again (i + 1) (by omega) (by omega) (by simp -dsimp -implicitDefEqProofs (maxSteps := 1000000) (disch := omega) [ST, S4b, bxS, rwS, hot])
  ·obtain rfl : i = r.length := by omega
   rw [List.take_length] at hol2
   have hpw := pick_wt od (otherG r) (by
    unfold otherG
    have := List.length_filter_le (fun b => decide (¬ b = (10 : UInt8))) r
    simp only [List.length_append, List.length_cons, List.length_nil]
    omega) L.length 0 L
   obtain ⟨fin, hfin⟩ : ∃ fin, hdrG ++ pickG od (otherG r) L.length 0 L = fin := ⟨_, rfl⟩
   have hfl : fin.length ≤ 10000000 := by
    rw [← hfin]; simp only [List.length_append, hdrG, List.length_cons, List.length_nil] at hwt ⊢; omega
   rw [hfin] at hpk
   have hpre : hdrG.isPrefixOf fin = true := by
    rw [List.isPrefixOf_iff_prefix, ← hfin]; exact List.prefix_append _ _
   have h4 := run_Read (m := m) (e3 := e3) (e4 := e4) fin fin.length (by omega) (by unfold inI; omega)
   unfold readR at h4
   rw [hpre, if_pos rfl, if_pos (by omega), hpk, hs0] at h4
   simp only [rwS] at h4
   generalize hof : otherG r = o at *
   simp -dsimp -implicitDefEqProofs (maxSteps := 1000000) (disch := omega) [ST, S4b, bxS, rwS, hof, ht8]
   refine wp_inv (S4c s od o) (fun a => a.2.2 ++ pickG od o a.2.1.length a.1 a.2.1 = fin ∧ a.1 + a.2.1.length = L.length ∧ a.2.2.length + wtL a.2.1 ≤ 8 + wtL L) (fun a => a.2.1.length) (0, L, hdrG) ⟨hfin, by simp, by simp [hdrG]⟩ (by simp -dsimp -implicitDefEqProofs (maxSteps := 1000000) (disch := omega) [ST, S4c, bxS, rwS, hdrG]) ?_
   rintro ⟨k, M, c⟩ ⟨q1, q2, q3⟩
   simp only at q1 q2 q3
   by_cases hM : 0 < M.length
   ·have hat := atG_lt od k M.length hM
    obtain ⟨x, hx⟩ : ∃ x, M[atG od k M.length]? = some x := ⟨_, List.getElem?_eq_getElem hat⟩
    have hwe := wt_erase M _ x hx
    have hle := List.length_eraseIdx_of_lt hat
    have hpg : pickG od o M.length k M = (o ++ [10] ++ x) ++ pickG od o (M.eraseIdx (atG od k M.length)).length (k + 1) (M.eraseIdx (atG od k M.length)) := by
     obtain ⟨n, hn⟩ : ∃ n, M.length = n + 1 := ⟨M.length - 1, by omega⟩
     rw [hle, hn, Nat.add_sub_cancel, pickG, ← hn, hx]
    rw [hpg] at q1
    have hxl : x.length ≤ 1000000000 := by simp only [List.length_nil] at hwt; omega
    have hMl : M.length ≤ 1000000000 := by
     have : ∀ L : List (List UInt8), L.length ≤ wtL L := by
      intro L
      induction L with
      | nil => simp
      | cons y t ih => simp only [wtL, List.map_cons, List.sum_cons, List.length_cons] at ih ⊢; omega
     have := this L
     simp only [List.length_nil] at hwt
     omega
    have hcl : c.length ≤ 1000000000 := by simp only [List.length_nil] at hwt; omega
    by_cases hko : k < od.length
    ·obtain ⟨y, hy⟩ : ∃ y, od[k] = y := ⟨_, rfl⟩
     have hy2 : od[k]? = some y := by rw [List.getElem?_eq_getElem hko, hy]
     have hmx : max (y.tmod (M.length : Int)) 0 = ((atG od k M.length : Nat) : Int) := by
      unfold atG; rw [hy2]; simp only; omega
     generalize atG od k M.length = at' at *
     have hx' : M[at'] = x := (List.getElem?_eq_some_iff.1 hx).2
     have hn0 : ¬ M.length = 0 := by omega
     have hqq : ((M.length : Int) - ((at' : Int) + 1)).toNat = M.length - (at' + 1) := by omega
     have htq : ((M.map eTx).drop (at' + 1)).take (M.length - (at' + 1)) = (M.map eTx).drop (at' + 1) := List.take_of_length_le (by simp)
     have hlq : at' + (M.length - (at' + 1)) = (M.eraseIdx at').length := by omega
     have hea := eraseA M at'
     simp -dsimp -implicitDefEqProofs (maxSteps := 1000000) (disch := omega) [ST, S4c, bxS, rwS, hM, hko, hy, eIn, hn0, hmx, hat, hx', eTx, slc_l, slc_h, hqq, htq, show o.length + 1 ≤ 9223372036854775807 by omega, show o.length + 1 + x.length ≤ 9223372036854775807 by omega, show c.length + (o.length + (x.length + 1)) ≤ 9223372036854775807 by omega, show at' ≤ M.length by omega, show at' + 1 ≤ M.length by omega, show at' + 1 + (M.length - (at' + 1)) ≤ M.length by omega, show (at' + (M.length - (at' + 1))) * 16 ≤ 140737488355328 by omega]
     refine again (k + 1, M.eraseIdx at', c ++ (o ++ [10] ++ x)) ⟨by simp only; rw [← q1]; simp, by simp only; omega, by simp only [List.length_append, List.length_cons, List.length_nil]; omega⟩ (by simp only; omega) (by simp -dsimp -implicitDefEqProofs (maxSteps := 1000000) (disch := omega) [ST, S4c, bxS, rwS, hea, hlq])
    ·have hz : atG od k M.length = 0 := by
      unfold atG
      rw [List.getElem?_eq_none (by omega)]
     rw [hz] at hx hwe hle q1
     have hx' : M[0] = x := (List.getElem?_eq_some_iff.1 hx).2
     have hqq : ((M.length : Int) - 1).toNat = M.length - 1 := by omega
     have htq : ((M.map eTx).drop 1).take (M.length - 1) = (M.map eTx).drop 1 := List.take_of_length_le (by simp)
     have hea : ((M.map eTx).tail).take (M.length - 1) = (M.eraseIdx 0).map eTx := by
      rw [← eraseA M 0]
      simp
      exact List.take_of_length_le (by simp)
     generalize M.eraseIdx 0 = E at *
     simp -dsimp -implicitDefEqProofs (maxSteps := 1000000) (disch := omega) [ST, S4c, bxS, rwS, hM, hko, hx', eTx, slc_l, slc_h, hqq, htq, show o.length + 1 ≤ 9223372036854775807 by omega, show o.length + 1 + x.length ≤ 9223372036854775807 by omega, show c.length + (o.length + (x.length + 1)) ≤ 9223372036854775807 by omega, show 1 ≤ M.length by omega]
     refine again (k + 1, E, c ++ (o ++ [10] ++ x)) ⟨by simp only; rw [← q1]; simp, by simp only; omega, by simp only [List.length_append, List.length_cons, List.length_nil]; omega⟩ (by simp only; omega) (by simp -dsimp -implicitDefEqProofs (maxSteps := 1000000) (disch := omega) [ST, S4c, bxS, rwS, hea, hle])
   ·obtain rfl : M = [] := List.length_eq_zero_iff.1 (by omega)
    rw [show pickG od o ([] : List (List UInt8)).length k [] = [] from rfl, List.append_nil] at q1
    subst q1
    simp -dsimp -implicitDefEqProofs (maxSteps := 1000000) (disch := omega) [ST, S4c, bxS, rwS, h4, h3]
theorem law_lines (s : Sh) (od : List Int) (r : List UInt8) (q1 : s.cells.length ≤ 140737488351232) (q2 : s.wid.length ≤ 140737488351232) (q3 : s.mac.length ≤ 140737488351232) (hT : ∀ c ∈ s.cells, c.2.2.length ≤ 140737488351232) (hM : ∀ t ∈ s.mac, t.length ≤ 140737488351232)
 (hol : od.length ≤ 140737488351232) (hod : ∀ x ∈ od, inI x) (hrl : r.length ≤ 140737488351232) : (W m e3 e4).run 4 [shA s, rwS (od.map eIn), bs r] [] = some (bo true, []) := by
 have hf := run_few (m := m) (e3 := e3) (e4 := e4) s 1500 (by decide) q1 q2 q3 hT hM
 by_cases hk : (szSh s : Int) ≤ 1500
 ·have hf' : fewB s 1500 = true := by unfold fewB; simpa using hk
  rw [hf'] at hf
  have hk' : szSh s ≤ 1500 := by omega
  obtain ⟨t1, t2, t3, t4, t5⟩ := sz_texts s 1500 hk'
  have h1 := run_right (m := m) (e3 := e3) (e4 := e4) s (by omega) (fun c hc => by have := t1 c hc; omega) (fun t ht => by have := t2 t ht; omega)
  cases hr : rightB s with
  | false =>
   rw [hr] at h1
   clear hT hM t1 t2
   have hs0 : shA s = .agg [rwS (s.cells.map eCel), rwS (s.wid.map eIn), rwS (s.mac.map eTx)] := rfl
   rw [hs0] at hf h1 ⊢
   simp only [rwS] at hf h1 ⊢
   refine run_wp (by rw [W_T]; exact rfl) ?_
   simp -dsimp -implicitDefEqProofs (maxSteps := 1000000) (disch := omega) [ST, run_awake, hf, h1]
  | true =>
   by_cases hm1 : s.mac.length ≤ 1
   ·by_cases hr50 : r.length ≤ 50
    ·exact law_lines_main s od r hk' hod hol hr hm1 hr50 hf
    ·rw [hr] at h1
     clear hT hM t1 t2
     have hs0 : shA s = .agg [rwS (s.cells.map eCel), rwS (s.wid.map eIn), rwS (s.mac.map eTx)] := rfl
     rw [hs0] at hf h1 ⊢
     simp only [rwS] at hf h1 ⊢
     refine run_wp (by rw [W_T]; exact rfl) ?_
     simp -dsimp -implicitDefEqProofs (maxSteps := 1000000) (disch := omega) [ST, run_awake, hf, h1, show ¬ 1 < s.mac.length by omega, show 50 < r.length by omega]
   ·rw [hr] at h1
    clear hT hM t1 t2
    have hs0 : shA s = .agg [rwS (s.cells.map eCel), rwS (s.wid.map eIn), rwS (s.mac.map eTx)] := rfl
    rw [hs0] at hf h1 ⊢
    simp only [rwS] at hf h1 ⊢
    refine run_wp (by rw [W_T]; exact rfl) ?_
    simp -dsimp -implicitDefEqProofs (maxSteps := 1000000) (disch := omega) [ST, run_awake, hf, h1, show 1 < s.mac.length by omega]
 ·have hf' : fewB s 1500 = false := by unfold fewB; simpa using hk
  rw [hf'] at hf
  clear hT hM
  have hs0 : shA s = .agg [rwS (s.cells.map eCel), rwS (s.wid.map eIn), rwS (s.mac.map eTx)] := rfl
  rw [hs0] at hf ⊢
  simp only [rwS] at hf ⊢
  refine run_wp (by rw [W_T]; exact rfl) ?_
  simp -dsimp -implicitDefEqProofs (maxSteps := 1000000) (disch := omega) [ST, run_awake, hf]
end Go.Vai
