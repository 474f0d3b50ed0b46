/-
  What functions of layer 9 and of its reference compute: equations of the abstract run, and plain laws of them.
-/
import Derived.Test.YthaaafdiilahjaaGreatDoorBR4
set_option linter.unusedVariables false
set_option linter.unusedSimpArgs false
set_option linter.unnecessarySimpa false
set_option linter.unusedSectionVars false
namespace Go.Vai
variable {m : Int} {e3 e4 : Value}
theorem nodup_lt : ∀ (n : Nat) (L : List Nat), L.Nodup → (∀ x ∈ L, x < n) → L.length ≤ n
 | 0, L, _, h => by
  cases L with
  | nil => simp
  | cons a r => exact absurd (h a (by simp)) (by omega)
 | n + 1, L, hn, h => by
  by_cases hm : n ∈ L
  ·have h1 := nodup_lt n (L.erase n) (hn.erase n) fun x hx => by
    have h2 := (hn.mem_erase_iff).1 hx
    have := h x h2.2
    omega
   rw [List.length_erase_of_mem hm] at h1
   omega
  ·have := nodup_lt n L hn fun x hx => by
    have h2 := h x hx
    have : x ≠ n := fun e => hm (e ▸ hx)
    omega
   omega
theorem cells_few {l : List Cel} (h : nodC l) (hp : ∀ c ∈ l, plB c.1 c.2.1 = true) : l.length ≤ 2574 := by
 have h1 : (l.map fun c => ((c.1 - 1) * 26 + (c.2.1 - 1)).toNat).Nodup := by
  unfold nodC at h
  refine List.pairwise_map.2 (h.imp_of_mem fun {a b} ha hb hab e => ?_)
  have h1 := plB_iff (hp a ha)
  have h2 := plB_iff (hp b hb)
  rw [Bool.eq_false_iff, Ne, celEq_iff] at hab
  omega
 have h2 := nodup_lt 2574 _ h1 fun x hx => by
  obtain ⟨c, hc, rfl⟩ := List.mem_map.1 hx
  have := plB_iff (hp c hc)
  omega
 simpa using h2
theorem cels_tab : ∀ L : List (Nat × Cel), celsOf (L.map eEnt) = some (L.map (·.2))
 | [] => rfl
 | p :: r => by
  simp only [List.map_cons, eEnt, celsOf]
  rw [cels_tab r]
  simp
theorem keys_ok : ∀ {l : List Cel}, nodC l → (∀ c ∈ l, plB c.1 c.2.1 = true) → keysOk l = true
 | [], _, _ => rfl
 | c :: r, h, hp => by
  unfold nodC at h
  rw [List.pairwise_cons] at h
  have h1 := plB_iff (hp c (by simp))
  have h2 := keys_ok h.2 fun d hd => hp d (by simp [hd])
  unfold keysOk
  simp only [Bool.and_eq_true, h2, and_true, decide_eq_true_eq]
  refine ⟨List.all_eq_true.2 fun d hd => ?_, by omega⟩
  have h3 := h.1 d hd
  rw [celEq_comm] at h3
  unfold celEq at h3
  rw [h3]; rfl
theorem born_mono : ∀ (es : List (Nat × Value × FV)) (lo lo' c : Nat), lo' ≤ lo → bornOk es lo c = true → bornOk es lo' c = true
 | [], _, _, _, _, _ => rfl
 | p :: r, lo, lo', c, h, hb => by
  unfold bornOk at hb ⊢
  simp only [Bool.and_eq_true, decide_eq_true_eq] at hb ⊢
  exact ⟨⟨by omega, hb.1.2⟩, hb.2⟩
theorem born_filter (q : Nat × Cel → Bool) : ∀ (L : List (Nat × Cel)) (lo c : Nat), bornOk (L.map eEnt) lo c = true → bornOk ((L.filter q).map eEnt) lo c = true
 | [], _, _, _ => rfl
 | p :: r, lo, c, h => by
  have h0 := h
  rw [List.map_cons] at h
  unfold bornOk at h
  simp only [Bool.and_eq_true, decide_eq_true_eq] at h
  have h1 := born_filter q r _ c h.2
  rw [List.filter_cons]
  split
  ·rw [List.map_cons]
   unfold bornOk
   simp only [Bool.and_eq_true, decide_eq_true_eq]
   exact ⟨h.1, h1⟩
  ·exact born_mono _ _ _ _ (by have := h.1.1; omega) h1
theorem born_snoc (x : Cel) : ∀ (L : List (Nat × Cel)) (lo c : Nat), lo ≤ c → bornOk (L.map eEnt) lo c = true → bornOk ((L ++ [(c, x)]).map eEnt) lo (c + 1) = true
 | [], lo, c, hc, _ => by simp [bornOk, eEnt, hc]
 | p :: r, lo, c, hc, h => by
  rw [List.map_cons] at h
  unfold bornOk at h
  simp only [Bool.and_eq_true, decide_eq_true_eq] at h
  have h1 := born_snoc x r _ c (by omega) h.2
  rw [List.cons_append, List.map_cons]
  unfold bornOk
  simp only [Bool.and_eq_true, decide_eq_true_eq]
  exact ⟨⟨h.1.1, by omega⟩, h1⟩
def kOk : LK → Prop
 | .cel x => plB x.1 x.2.1 = true
 | .wid i n => i < 26 ∧ 1 ≤ n ∧ n ≤ 20
 | _ => True
theorem placeG_ok {l : List UInt8} {p : Int × Int} (h : placeG l = some p) : plB p.1 p.2 = true := by
 cases l with
 | nil => cases h
 | cons c r =>
  rw [placeG] at h
  split at h
  ·rename_i hh
   injection h with h
   subst h
   exact hh.2.2.2
  ·cases h
theorem lineK_ok (l : List UInt8) : kOk (lineK l) := by
 unfold lineK
 cases hc : celK l with
 | some c =>
  unfold celK at hc
  split at hc
  ·obtain ⟨p, hp, rfl⟩ := Option.map_eq_some_iff.1 hc
   exact placeG_ok hp
  ·cases hc
 | none =>
  simp only
  split
  ·trivial
  ·split
   ·unfold widK
    split
    ·split
     ·rename_i a b c r _ hh
      have := colG_lt a
      exact ⟨by omega, by omega, by omega⟩
     ·trivial
    ·trivial
   ·trivial
def rsOk2 (s : RS) : Prop := rsOk s ∧ bornOk (s.tab.map eEnt) 0 s.cnt = true ∧ (∀ p ∈ s.tab, plB p.2.1 p.2.2.1 = true) ∧ ∀ w ∈ s.wid, 1 ≤ w ∧ w ≤ 20
theorem step_ok2 {s : RS} (h : rsOk2 s) {k : LK} (hk : kOk k) : rsOk2 (stepE s k) := by
 obtain ⟨h1, h2, h3, h4⟩ := h
 refine ⟨step_ok h1 k, ?_⟩
 cases k with
 | cel x =>
  simp only [stepE]
  refine ⟨?_, fun p hp => ?_, h4⟩
  ·unfold putE
   split
   ·exact born_filter _ _ _ _ h2
   ·exact born_snoc x _ _ _ (Nat.zero_le _) (born_filter _ _ _ _ h2)
  ·unfold putE at hp
   split at hp
   ·exact h3 p (List.mem_filter.1 hp).1
   ·rcases List.mem_append.1 hp with hp | hp
    ·exact h3 p (List.mem_filter.1 hp).1
    ·simp at hp; subst hp; exact hk
 | mac t => exact ⟨h2, h3, h4⟩
 | wid i n =>
  refine ⟨h2, h3, fun w hw => ?_⟩
  rcases List.mem_or_eq_of_mem_set hw with hw | rfl
  ·exact h4 w hw
  ·exact hk.2
 | non => exact ⟨h2, h3, h4⟩
theorem fold_ok : ∀ (L : List (List UInt8)) (s : RS), rsOk2 s → rsOk2 (foldE s L)
 | [], s, h => h
 | l :: r, s, h => fold_ok r _ (step_ok2 h (lineK_ok l))
def rs0 : RS := ⟨List.replicate 26 6, [], [], 0⟩
theorem rs0_ok : rsOk2 rs0 := ⟨⟨rfl, .nil⟩, rfl, fun p hp => by simp [rs0] at hp, fun w hw => by
 have := List.eq_of_mem_replicate hw
 omega⟩
def tabS (s : RS) : List Cel := sortC (s.tab.map (·.2))
theorem run_tabCells (L : List (Nat × Cel)) (c : Nat) (h1 : nodC (L.map (·.2))) (h2 : bornOk (L.map eEnt) 0 c = true) (h3 : ∀ p ∈ L, plB p.2.1 p.2.2.1 = true) : (W m e3 e4).run 47 [.mp 0] [some (.map (L.map eEnt) c)] = some (.fz (.sl ((sortC (L.map (·.2))).map eCel)), [some (.map (L.map eEnt) c)]) := by
 have h4 : ∀ d ∈ L.map (·.2), plB d.1 d.2.1 = true := by
  intro d hd
  obtain ⟨p, hp, rfl⟩ := List.mem_map.1 hd
  exact h3 p hp
 have h5 := cells_few h1 h4
 refine run_E rfl ?_
 simp only [Ez, cels_tab, Option.bind_some]
 rw [if_pos ⟨keys_ok h1 h4, h2, by omega⟩]
theorem run_splitSeq (l : List UInt8) : (W m e3 e4).run 45 [bs l, bs [10]] [] = some (.fn 103 [.bp 0 0, .bp 1 0, .bp 2 0], [some (.box [bs [10]]), some (.box [bs l]), some (.box [i64 0])]) := by
 have h : (W m e3 e4).run 69 [bs l, bs [10], i64 0] [] = some (.fn 103 [.bp 0 0, .bp 1 0, .bp 2 0], [some (.box [bs [10]]), some (.box [bs l]), some (.box [i64 0])]) := by
  refine run_wp (by rw [W_T]; exact rfl) ?_
  simp -dsimp -implicitDefEqProofs (maxSteps := 1000000) (disch := omega) [ST]
 refine run_wp (by rw [W_T]; exact rfl) ?_
 simp -dsimp -implicitDefEqProofs (maxSteps := 1000000) (disch := omega) [ST, h]
theorem run_repeat : (W m e3 e4).run 44 [.osl 0 1 0 1, i64 26] [some (.arr 1 [[.sc (.int .i64 6)]])] = some (.osl 1 1 0 26, [some (.arr 1 [[.sc (.int .i64 6)]]), some (.arr 1 (rs0.wid.map eIn))]) := (W m e3 e4).run_some.2 ⟨60, by kernel_rfl⟩
def sh0 : Sh := ⟨[], [], []⟩
def readS (b : List UInt8) : Sh := ⟨tabS (foldE rs0 (splitG (b.drop 8))), (foldE rs0 (splitG (b.drop 8))).wid, (foldE rs0 (splitG (b.drop 8))).mac⟩
def readR (b : List UInt8) (left : Int) : AV := if hdrG.isPrefixOf b = true then (if (b.length : Int) ≤ max left 0 then .tup [shA (readS b), i64 (max left 0 - b.length), i64 0] else .tup [shA sh0, i64 0, i64 1]) else .tup [shA sh0, i64 (max left 0), i64 120]
theorem rfn_lines (l : List UInt8) (hdl : l.length ≤ 100000000000) (sl : List (Nat × AV)) (hp : HW) (h33 : lk sl 33 = .fn 103 [.bp 30 0, .bp 31 0, .bp 32 0]) (h9 : lk sl 9 = .bp 22 0) (h10 : lk sl 10 = .bp 26 0)
 (k22 : hk hp 22 = some (.box [.emp, .osl 24 1 0 26, .osl 33 1 0 0])) (k24 : hk hp 24 = some (.arr 1 (rs0.wid.map eIn))) (k33 : hk hp 33 = some (.arr 1 [])) (k26 : hk hp 26 = some (.box [.mp 25])) (k25 : hk hp 25 = some (.map [] 0))
 (k30 : hk hp 30 = some (.box [bs [10]])) (k31 : hk hp 31 = some (.box [bs l])) (k32 : hk hp 32 = some (.box [i64 0])) (k0 : hk hp 0 = some (.box [.emp, .emp, .emp])) :
 ∃ (hp' : HW) (mk nx : Nat), rfnOp (W m e3 e4).G (W m e3 e4).run (.tm 33) 8364047 [9, 10] [103] ⟨sl, hp, 34⟩ = some (.nor, ⟨sl, hp', nx⟩) ∧ 36 ≤ nx + 1 ∧ (mk = 33 ∨ mk = 35) ∧ hk hp' 22 = some (.box [.emp, .osl 24 1 0 (foldE rs0 (splitG l)).wid.length, .osl mk 1 0 (foldE rs0 (splitG l)).mac.length]) ∧
  hk hp' 24 = some (.arr 1 ((foldE rs0 (splitG l)).wid.map eIn)) ∧ hk hp' mk = some (.arr 1 ((foldE rs0 (splitG l)).mac.map eTx)) ∧ hk hp' 26 = some (.box [.mp 25]) ∧ hk hp' 25 = some (.map ((foldE rs0 (splitG l)).tab.map eEnt) (foldE rs0 (splitG l)).cnt) ∧ hk hp' 0 = some (.box [.emp, .emp, .emp]) := by
 have hseq := run_seq (m := m) (e3 := e3) (e4 := e4) rs0 l hdl rs0_ok.1 rfl
 generalize foldE rs0 (splitG l) = sF at *
 generalize lastG l = lz at *
 generalize anyM l = am at *
 rw [sqB] at hseq
 simp only [show rs0.wid.length = 26 from rfl, show rs0.mac = [] from rfl, show rs0.tab = [] from rfl, show rs0.cnt = 0 from rfl, List.map_nil, List.length_nil] at hseq
 cases am
 ·simp only [sqB] at hseq
  refine ⟨_, 33, _, by simp [rfnOp, LX.av, h33, h9, h10, itOk, callV, callOp, clos, hk, k22, k24, k33, k26, k25, k30, k31, k32, hseq]; exact ⟨rfl, rfl⟩, ?_⟩
  simp [hk, k0]
 ·simp only [sqB] at hseq
  refine ⟨_, 35, _, by simp [rfnOp, LX.av, h33, h9, h10, itOk, callV, callOp, clos, hk, k22, k24, k33, k26, k25, k30, k31, k32, hseq]; exact ⟨rfl, rfl⟩, ?_⟩
  simp [hk, k0]
theorem opt_lines (l : List UInt8) (hdl : l.length ≤ 100000000000) {sl : List (Nat × AV)} {hp : HW} {Q : Ex × St → Prop} {w : Wit Q} (h33 : lk sl 33 = .fn 103 [.bp 30 0, .bp 31 0, .bp 32 0]) (h9 : lk sl 9 = .bp 22 0) (h10 : lk sl 10 = .bp 26 0)
 (k22 : hk hp 22 = some (.box [.emp, .osl 24 1 0 26, .osl 33 1 0 0])) (k24 : hk hp 24 = some (.arr 1 (rs0.wid.map eIn))) (k33 : hk hp 33 = some (.arr 1 [])) (k26 : hk hp 26 = some (.box [.mp 25])) (k25 : hk hp 25 = some (.map [] 0))
 (k30 : hk hp 30 = some (.box [bs [10]])) (k31 : hk hp 31 = some (.box [bs l])) (k32 : hk hp 32 = some (.box [i64 0])) (k0 : hk hp 0 = some (.box [.emp, .emp, .emp]))
 (k : ∀ (hp' : HW) (mk nx : Nat), 36 ≤ nx + 1 → (mk = 33 ∨ mk = 35) → hk hp' 22 = some (.box [.emp, .osl 24 1 0 (foldE rs0 (splitG l)).wid.length, .osl mk 1 0 (foldE rs0 (splitG l)).mac.length]) →
   hk hp' 24 = some (.arr 1 ((foldE rs0 (splitG l)).wid.map eIn)) → hk hp' mk = some (.arr 1 ((foldE rs0 (splitG l)).mac.map eTx)) → hk hp' 26 = some (.box [.mp 25]) → hk hp' 25 = some (.map ((foldE rs0 (splitG l)).tab.map eEnt) (foldE rs0 (splitG l)).cnt) → hk hp' 0 = some (.box [.emp, .emp, .emp]) → Q (.nor, ⟨sl, hp', nx⟩)) :
 optP (rfnOp (W m e3 e4).G (W m e3 e4).run (.tm 33) 8364047 [9, 10] [103] ⟨sl, hp, 34⟩) Q w := by
 obtain ⟨hp', mk, nx, g0, g1, g2, g3, g4, g5, g6, g7, g8⟩ := rfn_lines (m := m) (e3 := e3) (e4 := e4) l hdl sl hp h33 h9 h10 k22 k24 k33 k26 k25 k30 k31 k32 k0
 rw [g0]
 exact k hp' mk nx g1 g2 g3 g4 g5 g6 g7 g8
set_option maxHeartbeats 2000000 in
theorem run_Read (b : List UInt8) (left : Int) (hb : b.length ≤ 100000000000) (hl : inI left) : (W m e3 e4).run 15 [bs b, i64 left] [] = some (readR b left, []) := by
 have hcp := run_cutPrefix (m := m) (e3 := e3) (e4 := e4) b [115, 104, 101, 101, 116, 32, 49, 10] (by omega) (by decide)
 unfold cpxR at hcp
 unfold readR
 by_cases h1 : hdrG.isPrefixOf b = true
 ·rw [if_pos (show [115, 104, 101, 101, 116, 32, 49, 10].isPrefixOf b = true from h1)] at hcp
  rw [if_pos h1]
  by_cases h2 : (b.length : Int) ≤ max left 0
  ·rw [if_pos h2]
   have hdl : (b.drop 8).length ≤ 100000000000 := by rw [List.length_drop]; omega
   unfold readS
   have hcp' : (W m e3 e4).run 43 [bs b, bs [115, 104, 101, 101, 116, 32, 49, 10]] [] = some (.tup [bs (b.drop 8), bo true], []) := hcp
   generalize b.drop 8 = l at *
   have hsp := run_splitSeq (m := m) (e3 := e3) (e4 := e4) l
   have hrep := run_repeat (m := m) (e3 := e3) (e4 := e4)
   obtain ⟨⟨g1, g2⟩, g3, g4, g5⟩ := fold_ok (splitG l) rs0 rs0_ok
   have htc := run_tabCells (m := m) (e3 := e3) (e4 := e4) _ _ g2 g3 g4
   unfold tabS
   simp only [shA_mk, rwS]
   have h2' : ¬ max left 0 < (b.length : Int) := by omega
   refine run_wp (by rw [W_T]; exact rfl) ?_
   simp -dsimp -implicitDefEqProofs (maxSteps := 1000000) (disch := omega) [ST, hcp', h2', hrep, hsp]
   refine opt_lines l hdl rfl rfl rfl rfl rfl rfl rfl rfl rfl rfl rfl rfl ?_
   generalize foldE rs0 (splitG l) = sF at *
   intro hp' mk nx q1 q2 q3 q4 q5 q6 q7 q8
   rcases q2 with rfl | rfl
   ·simp -dsimp -implicitDefEqProofs (maxSteps := 1000000) (disch := omega) [ST, q3, q4, q5, q6, q7, q8, htc]
   ·simp -dsimp -implicitDefEqProofs (maxSteps := 1000000) (disch := omega) [ST, q3, q4, q5, q6, q7, q8, htc]
  ·rw [if_neg h2]
   have h2' : max left 0 < (b.length : Int) := by omega
   simp only [shA_mk, rwS, sh0, List.map_nil]
   refine run_wp (by rw [W_T]; exact rfl) ?_
   simp -dsimp -implicitDefEqProofs (maxSteps := 1000000) (disch := omega) [ST, hcp, h2']
 ·rw [if_neg (show ¬ [115, 104, 101, 101, 116, 32, 49, 10].isPrefixOf b = true from h1)] at hcp
  rw [if_neg h1]
  simp only [shA_mk, rwS, sh0, List.map_nil]
  refine run_wp (by rw [W_T]; exact rfl) ?_
  simp -dsimp -implicitDefEqProofs (maxSteps := 1000000) (disch := omega) [ST, hcp]
end Go.Vai
namespace Go.Vai
variable {m : Int} {e3 e4 : Value}
theorem slc_l (av : LX → AV) (sz : Nat) (x lo : LX) : pureOp av (.slc sz x (some lo) none none) = (intOf' (av lo)).bind fun l => match av x with
 | .fz (.sl es) => if okSz sz es = true ∧ 0 ≤ l ∧ l ≤ (es.length : Int) then some (.fz (.sl (es.drop l.toNat))) else none
 | .emp => if l = 0 then some .emp else none
 | .osl b sz' off len => if sz' = sz ∧ 0 ≤ l ∧ l ≤ (len : Int) then some (.osl b sz (off + l.toNat) (len - l).toNat) else none
 | _ => none := by
 cases h : intOf' (av lo) with
 | none => rw [pureOp.eq_def]; simp only [h]; rfl
 | some l =>
  rw [pureOp.eq_def]; simp only [h, Option.bind_some]
  cases av x with
  | fz f => cases f <;> simp
  | emp => simp
  | osl b s o n => simp
  | _ => rfl
theorem slc_h (av : LX → AV) (sz : Nat) (x hi : LX) : pureOp av (.slc sz x none (some hi) none) = (intOf' (av hi)).bind fun h => match av x with
 | .fz (.sl es) => if okSz sz es = true ∧ 0 ≤ h ∧ h ≤ (es.length : Int) then some (.fz (.sl (es.take h.toNat))) else none
 | .emp => if h = 0 then some .emp else none
 | .osl b sz' off len => if sz' = sz ∧ 0 ≤ h ∧ h ≤ (len : Int) then some (.osl b sz off h.toNat) else none
 | _ => none := by
 cases h : intOf' (av hi) with
 | none => rw [pureOp.eq_def]; simp only [h]; rfl
 | some l =>
  rw [pureOp.eq_def]; simp only [h, Option.bind_some, Option.map_some]
  cases av x with
  | fz f => cases f <;> simp
  | emp => simp
  | osl b s o n => simp
  | _ => rfl
theorem pre_not61 {p l : List UInt8} (h : p.isPrefixOf l = true) (hn : ¬ (61 : UInt8) ∈ p) : p.length ≤ cutP 61 l := by
 obtain ⟨t, rfl⟩ := List.isPrefixOf_iff_prefix.1 h
 rcases Nat.lt_or_ge (cutP 61 (p ++ t)) p.length with h1 | h1
 ·have h2 := cutP_at 61 (p ++ t) (by simp; omega)
  rw [List.getElem?_append_left h1] at h2
  exact absurd (List.mem_of_getElem? h2) hn
 ·exact h1
theorem placeG_long : ∀ {l : List UInt8}, 4 ≤ l.length → placeG l = none
 | [], h => by simp at h
 | c :: r, h => by
  simp only [List.length_cons] at h
  rw [placeG, if_neg (fun hh => by omega)]
theorem celK_pre {p l : List UInt8} (h : p.isPrefixOf l = true) (h4 : 4 ≤ p.length) (hn : ¬ (61 : UInt8) ∈ p) : celK l = none := by
 have h1 := pre_not61 h hn
 have h2 := cutP_le 61 l
 unfold celK
 split
 ·rw [placeG_long (by rw [List.length_take]; omega)]; rfl
 ·rfl
theorem lineK_mac {l : List UInt8} (h : macP.isPrefixOf l = true) : lineK l = .mac (l.drop 6) := by
 unfold lineK
 rw [celK_pre h (by decide) (by decide)]
 simp only [h, if_pos]
theorem lineK_wid {l : List UInt8} (h0 : ¬ macP.isPrefixOf l = true) (h : widP.isPrefixOf l = true) : lineK l = widK (l.drop 6) := by
 unfold lineK
 rw [celK_pre h (by decide) (by decide)]
 simp only [h0, h, if_pos, if_neg]
 simp
theorem befB_lt (d c : Cel) : befB d.1 d.2.1 c.1 c.2.1 = celLs d c := rfl
end Go.Vai
namespace Go.Vai
variable {m : Int} {e3 e4 : Value}
end Go.Vai
