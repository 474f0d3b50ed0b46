/-
  What functions of layer 5 and of its reference compute: equations of the abstract run.
-/
import Derived.Test.YtfaomcaimppmeaaDoorIl
import Derived.Test.YtfaomcaimppmeaaDoorIt
import Derived.Test.YtfaomcaimppmeaaDoorHs
set_option linter.unusedVariables false
set_option linter.unusedSimpArgs false
set_option linter.unnecessarySimpa false
set_option linter.unusedSectionVars false
namespace Go.Vai
theorem len_olB : ∀ l : List Ol, l.all olB = true → (l.flatMap olW).length ≤ 1021 * l.length
  | [], _ => by simp
  | o :: l, h => by
    simp only [List.all_cons, Bool.and_eq_true] at h
    have h1 := h.1
    simp only [olB, Bool.and_eq_true, decide_eq_true_eq] at h1
    have := len_olB l h.2
    rw [List.flatMap_cons, List.length_append]
    simp only [olW, num1, List.length_append, List.length_cons, List.length_nil, len_ptW]
    omega
theorem len_glB {many : Nat} : ∀ l : List Gl, l.all (glB many) = true → (l.flatMap glW).length ≤ 65541 * l.length
  | [], _ => by simp
  | g :: l, h => by
    simp only [List.all_cons, Bool.and_eq_true] at h
    have h1 := h.1
    simp only [glB, Bool.and_eq_true, decide_eq_true_eq] at h1
    have h2 := len_olB g.2.1 h1.2.2.2.1
    have := len_glB l h.2
    rw [List.flatMap_cons, List.length_append]
    simp only [glW, num1, num2, List.length_append, List.length_cons, List.length_nil, len_pcW]
    omega
theorem right_small {f : Font} (h : rightB f = true) : okFont f ∧ (bodyW f).length < 800000000 := by
  obtain ⟨h1, h2, h3⟩ := right_parts h
  obtain ⟨q1, q2⟩ := prB_lt f.2 _ h3
  have hk := keys_len (lt_nodup q2) fun p hp => ⟨by have := (q1 p hp).1; omega, (q1 p hp).2.1⟩
  have h4 := len_glB f.1 h2
  refine ⟨⟨by omega, by omega, fun g hg => ?_⟩, ?_⟩
  · have hg2 := List.all_eq_true.1 h2 g hg
    simp only [glB, Bool.and_eq_true, decide_eq_true_eq, List.all_eq_true] at hg2
    refine ⟨⟨by omega, fun o ho => ?_⟩, by omega⟩
    have := hg2.2.2.2.1 o ho
    simp only [olB, Bool.and_eq_true, decide_eq_true_eq] at this
    omega
  · rw [body_len, len_prW]
    omega
def strictG (b : List UInt8) : Font × Bool :=
  if b.length < 7 ∨ b.take 7 ≠ sgn then (([], []), false) else if bodyW (readV b) = b then (readV b, true) else (([], []), false)
theorem run_strict (b : List UInt8) (hb : b.length < 500000000000) : V.run 51 [bs b] [] = some (.tup [aFont (strictG b).1, bo (strictG b).2], []) := by
  have h1 := run_readV b b.length hb (by omega)
  unfold strictG
  by_cases h7 : b.length < 7 ∨ b.take 7 ≠ sgn
  · rw [if_pos h7]
    unfold readG at h1
    rw [if_pos h7] at h1
    simp only at h1
    refine run_wp (by rw [V_T]; exact rfl) ?_
    simp -dsimp -implicitDefEqProofs (maxSteps := 1000000) (disch := omega) [condP_pos, condP_neg, optP_pos, decide_eq_true, decide_eq_false, wrap_i64, Int.natCast_inj, h1]
  · rw [if_neg h7]
    rw [not_or] at h7
    have h8 : b.take 7 = sgn := by
      by_cases h : b.take 7 = sgn
      · exact h
      · exact absurd h h7.2
    rw [readG_of (by omega) h8 (Int.le_refl _)] at h1
    have hr := right_read b (by omega)
    obtain ⟨k1, k2⟩ := right_small hr
    have h2 := run_write V_T (readV b) k1 k2
    simp only [writeG, hr, if_true] at h2
    generalize readV b = f at *
    simp only at h1
    refine run_wp (by rw [V_T]; exact rfl) ?_
    by_cases hw : bodyW f = b
    · rw [if_pos hw]
      rw [hw] at h2
      simp -dsimp -implicitDefEqProofs (maxSteps := 1000000) (disch := omega) [condP_pos, condP_neg, optP_pos, decide_eq_true, decide_eq_false, wrap_i64, Int.natCast_inj, h1, h2]
    · rw [if_neg hw]
      simp -dsimp -implicitDefEqProofs (maxSteps := 1000000) (disch := omega) [condP_pos, condP_neg, optP_pos, decide_eq_true, decide_eq_false, wrap_i64, Int.natCast_inj, h1, h2, hw]
set_option maxHeartbeats 4000000 in
theorem law_back (b : List UInt8) (hb : b.length < 400000000000) : V.run 13 [bs b] [] = some (bo true, []) := by
  have h1 := run_readV b (b.length + 3) (by omega) (by omega)
  refine run_wp (by rw [V_T]; exact rfl) ?_
  by_cases h7 : b.length < 7 ∨ b.take 7 ≠ sgn
  · unfold readG at h1
    rw [if_pos h7] at h1
    have hm : max ((b.length : Int) + 3) 0 = b.length + 3 := by omega
    rw [hm] at h1
    simp only at h1
    simp -dsimp -implicitDefEqProofs (maxSteps := 1000000) (disch := omega) [condP_pos, condP_neg, optP_pos, decide_eq_true, decide_eq_false, wrap_i64, Int.natCast_inj, run_awake, h1]
  · have h3 := run_strict b (by omega)
    unfold strictG at h3
    rw [if_neg h7] at h3
    rw [not_or] at h7
    have h8 : b.take 7 = sgn := by
      by_cases h : b.take 7 = sgn
      · exact h
      · exact absurd h h7.2
    rw [readG_of (by omega) h8 (by omega)] at h1
    have hr := right_read b (by omega)
    obtain ⟨k1, k2⟩ := right_small hr
    have h2 := run_write V_T (readV b) k1 k2
    simp only [writeG, hr, if_true] at h2
    generalize readV b = f at *
    have hL : 7 ≤ (bodyW f).length := by rw [body_len]; omega
    have hS : (bodyW f).take 7 = sgn := by have := body_sgn f []; rwa [List.append_nil] at this
    have h4 := run_readV (bodyW f) (bodyW f).length (by omega) (by omega)
    rw [readG_of hL hS (Int.le_refl _), read_body hr] at h4
    have h5 := run_strict (bodyW f) (by omega)
    unfold strictG at h5
    rw [if_neg (by rw [not_or]; exact ⟨by omega, fun h => h hS⟩), read_body hr, if_pos rfl] at h5
    have h6 := run_right V_T f k1
    rw [hr] at h6
    have h9 := run_sameFont V_T f f k1
    rw [decide_eq_true rfl] at h9
    simp only at h1 h4 h5
    by_cases hw : bodyW f = b
    · rw [if_pos hw] at h3
      simp only at h3
      subst hw
      simp -dsimp -implicitDefEqProofs (maxSteps := 1000000) (disch := omega) [condP_pos, condP_neg, optP_pos, decide_eq_true, decide_eq_false, wrap_i64, Int.natCast_inj, run_awake, h1, h2, h4, h5, h3, h6, h9]
    · rw [if_neg hw] at h3
      simp only at h3
      simp -dsimp -implicitDefEqProofs (maxSteps := 1000000) (disch := omega) [condP_pos, condP_neg, optP_pos, decide_eq_true, decide_eq_false, wrap_i64, Int.natCast_inj, run_awake, h1, h2, h4, h5, h3, h6, h9, hw]
end Go.Vai

set_option linter.unusedVariables false
set_option linter.unusedSimpArgs false
set_option linter.unnecessarySimpa false
set_option linter.unusedSectionVars false
namespace Go.Vai
def insP : List Pt → Pt → List Pt
  | [], p => [p]
  | q :: r, p => if q.1 < p.1 then q :: insP r p else if q.1 = p.1 then p :: r else p :: q :: r
theorem insP_pre (p : Pt) : ∀ (pre rest : List Pt), (∀ q ∈ pre, q.1 < p.1) → insP (pre ++ rest) p = pre ++ insP rest p
  | [], rest, _ => rfl
  | q :: pre, rest, h => by
    simp only [List.cons_append, insP, h q (by simp), if_true, insP_pre p pre rest fun x hx => h x (by simp [hx])]
theorem get_pre {α β : Type} (f : α → β) (l : List α) (a : β) (r : List β) (i : Int) (h : i = l.length) : (l.map f ++ a :: r)[i.toNat]? = some a := by
  subst h; simp
theorem ins_k1 {α β : Type} (f : α → β) (A : List α) (x : β) (R : List β) : List.take (A.length + 1) (A.map f ++ x :: R) = A.map f ++ [x] := by
  have e : A.map f ++ x :: R = (A.map f ++ [x]) ++ R := by simp
  have e2 : A.length + 1 = (A.map f ++ [x]).length := by simp
  rw [e, e2, List.take_left]
theorem ins_k2 {α β : Type} (f : α → β) (A : List α) (R : List β) : List.drop A.length (A.map f ++ R) = R := by
  have e2 : A.length = (A.map f).length := by simp
  rw [e2, List.drop_left]
theorem ins_k4 {α β γ : Type} (f : α → β) (g : γ → β) (A : List α) (B : List γ) (x z : β) : List.drop (A.length + 1 + (B.length + 1)) (A.map f ++ x :: (B.map g ++ [z])) = [] := by
  apply List.drop_of_length_le; simp; omega
theorem ins_t0 {α β γ : Type} (f : α → β) (g : γ → β) (A : List α) (B : List γ) (x : β) : List.take (A.length + (B.length + 1)) (A.map f ++ x :: B.map g) = A.map f ++ x :: B.map g := List.take_of_length_le (by simp)
variable {v : Env} (hv : v.T = Tt)
include hv
def S100 (p : Pt) (a : List Pt × List Pt) : St :=
  { sl := [(0, .osl 1 2 0 (a.1.length + a.2.length)), (3, .bp 2 0), (5, i64 a.1.length)], hp := [(0, none), (1, some (.arr 2 (a.1.map ePt ++ a.2.map ePt))), (2, some (.box [i64 p.1, i64 p.2]))], nx := 3 }
set_option maxHeartbeats 4000000 in
theorem run_100 (l : List Pt) (p : Pt) (hl : l.length < 1000000000000) :
    v.run 100 [.osl 0 2 0 l.length, .agg [i64 p.1, i64 p.2]] [some (.arr 2 (l.map ePt))] = some (.osl 1 2 0 (insP l p).length, [none, some (.arr 2 ((insP l p).map ePt))]) := by
  refine run_wp (by rw [hv]; exact rfl) ?_
  simp -dsimp -implicitDefEqProofs (maxSteps := 1000000) (disch := omega) [condP_pos, condP_neg, optP_pos, decide_eq_true, decide_eq_false, wrap_i64, Int.natCast_inj]
  refine wp_inv (S100 p) (fun a => a.1 ++ a.2 = l ∧ (∀ q ∈ a.1, q.1 < p.1)) (fun a => a.2.length) ([], l) ⟨rfl, by simp⟩ (by simp -dsimp -implicitDefEqProofs (maxSteps := 1000000) (disch := omega) [condP_pos, condP_neg, optP_pos, decide_eq_true, decide_eq_false, wrap_i64, Int.natCast_inj, S100]) ?_
  rintro ⟨pre, rest⟩ ⟨e1, e2⟩
  simp only at e1 e2
  subst e1
  rw [insP_pre p pre rest e2]
  simp at hl
  cases rest with
  | nil =>
    simp only [insP]
    simp at hl
    simp -dsimp -implicitDefEqProofs (maxSteps := 1000000) (disch := omega) [condP_pos, condP_neg, optP_pos, decide_eq_true, decide_eq_false, wrap_i64, Int.natCast_inj, S100, pureOp_slc1, set_map_mid]
    rfl
  | cons q r =>
    simp at hl
    rcases Int.lt_trichotomy q.1 p.1 with hq | hq | hq
    · simp -dsimp -implicitDefEqProofs (maxSteps := 1000000) (disch := omega) [condP_pos, condP_neg, optP_pos, decide_eq_true, decide_eq_false, wrap_i64, Int.natCast_inj, S100, ePt, hq]
      refine again (pre ++ [q], r) ⟨by simp, fun x hx => ?_⟩ (by simp) ?_
      · rcases List.mem_append.1 hx with hx | hx
        · exact e2 x hx
        · simp at hx; subst hx; exact hq
      simp -dsimp -implicitDefEqProofs (maxSteps := 1000000) (disch := omega) [condP_pos, condP_neg, optP_pos, decide_eq_true, decide_eq_false, wrap_i64, Int.natCast_inj, S100, ePt]
      omega
    · have hq1 : ¬ q.1 < p.1 := by omega
      simp only [insP, hq, hq1, if_false, if_true]
      simp -dsimp -implicitDefEqProofs (maxSteps := 1000000) (disch := omega) [condP_pos, condP_neg, optP_pos, decide_eq_true, decide_eq_false, wrap_i64, Int.natCast_inj, S100, ePt, hq, hq1, set_map_mid]
    · have hq1 : ¬ q.1 < p.1 := by omega
      have hq2 : ¬ q.1 = p.1 := by omega
      simp only [insP, hq1, hq2, if_false]
      have t1 : ((pre.length : Int) + ((r.length : Int) + 1) + 1 - ((pre.length : Int) + 1)).toNat = r.length + 1 := by omega
      have t2 : ((pre.length : Int) + ((r.length : Int) + 1) + 1).toNat - pre.length = r.length + 2 := by omega
      have t3 : min (r.length + 1) (r.length + 2) = r.length + 1 := by omega
      simp -dsimp -implicitDefEqProofs (maxSteps := 1000000) (disch := omega) [condP_pos, condP_neg, optP_pos, decide_eq_true, decide_eq_false, wrap_i64, Int.natCast_inj, S100, ePt, hq1, hq2, pureOp_slc1, set_map_mid, t1, t2, t3, ins_t0, ins_k1, ins_k2, ins_k4, take_app_len]
      omega
end Go.Vai

set_option linter.unusedVariables false
set_option linter.unusedSimpArgs false
set_option linter.unnecessarySimpa false
set_option linter.unusedSectionVars false
namespace Go.Vai
def insS (many : Nat) (M : List Pt) (p : Pt) : List Pt := if keepP many p = true then insP M p else M
theorem insP_len (p : Pt) : ∀ M : List Pt, (insP M p).length ≤ M.length + 1
  | [] => by simp [insP]
  | q :: r => by
    have := insP_len p r
    simp only [insP]
    split
    · simp; omega
    · split <;> simp
variable {v : Env} (hv : v.T = Tt)
include hv
def S80a (gs : List Gl) (ps : List Pt) (many : Nat) (a : List Gl × List Gl) : St :=
  { sl := [(0, rw_ (gs.map eGl)), (1, rw_ (ps.map ePt)), (4, .bp 0 0), (5, .bp 1 0), (6, i64 a.1.length)],
    hp := [(0, some (.box [.emp, .emp])), (1, some (.box [.osl 2 3 0 a.1.length, .emp])), (2, some (.arr 3 (a.1.map (eGl ∘ cutG many))))], nx := 3 }
def T80 (gs : List Gl) (ps : List Pt) (many : Nat) (pre : List Gl) (g : Gl) (a : List Pc × List Pc) : St :=
  { sl := [(0, rw_ (gs.map eGl)), (1, rw_ (ps.map ePt)), (4, .bp 0 0), (5, .bp 1 0), (6, i64 pre.length), (7, .bp 3 0), (8, .osl 4 3 0 (nearF many a.1).length), (9, i64 a.1.length)],
    hp := [(0, some (.box [.emp, .emp])), (1, some (.box [.osl 2 3 0 pre.length, .emp])), (2, some (.arr 3 (pre.map (eGl ∘ cutG many)))), (3, some (.box [i64 g.1, rw_ (g.2.1.map eOl), rw_ ((a.1 ++ a.2).map ePc)])), (4, some (.arr 3 ((nearF many a.1).map ePc)))], nx := 5 }
def S80c (gs : List Gl) (many : Nat) (a : List Pt × List Pt × List Pt) : St :=
  { sl := [(0, rw_ (gs.map eGl)), (1, rw_ ((a.1 ++ a.2.1).map ePt)), (4, .bp 0 0), (5, .bp 1 0), (10, i64 a.1.length)],
    hp := [(0, some (.box [.emp, .emp])), (1, some (.box [.osl 2 3 0 gs.length, .osl 3 2 0 a.2.2.length])), (2, some (.arr 3 (gs.map (eGl ∘ cutG many)))), (3, some (.arr 2 (a.2.2.map ePt)))], nx := 4 }
set_option maxHeartbeats 4000000 in
theorem run_80 (gs : List Gl) (ps : List Pt) (hg : gs.length ≤ 1000) (hpc : ∀ g ∈ gs, g.2.2.length ≤ 255) (hp : ps.length < 500000000000) :
    v.run 80 [rw_ (gs.map eGl), rw_ (ps.map ePt)] [] = some (aFont (gs.map (cutG gs.length), ps.foldl (insS gs.length) []), []) := by
  generalize hmany : gs.length = many
  generalize hW : ps.foldl (insS many) [] = W
  refine run_wp (by rw [hv]; exact rfl) ?_
  simp -dsimp -implicitDefEqProofs (maxSteps := 1000000) (disch := omega) [condP_pos, condP_neg, optP_pos, decide_eq_true, decide_eq_false, wrap_i64, Int.natCast_inj]
  refine wp_inv (S80a gs ps many) (fun a => a.1 ++ a.2 = gs) (fun a => a.2.length) ([], gs) rfl (by simp -dsimp -implicitDefEqProofs (maxSteps := 1000000) (disch := omega) [condP_pos, condP_neg, optP_pos, decide_eq_true, decide_eq_false, wrap_i64, Int.natCast_inj, S80a]) ?_
  rintro ⟨pre, rest⟩ e
  simp only at e
  have hlen : pre.length + rest.length = many := by rw [← hmany, ← e]; simp
  cases rest with
  | cons g rest =>
    have hpg := hpc g (by rw [← e]; simp)
    simp at hlen
    have hgi : gs[pre.length]? = some g := by rw [← e]; simp
    have hil : pre.length < gs.length := by rw [hmany]; omega
    have hgi2 : gs[pre.length] = g := by rw [List.getElem?_eq_getElem hil] at hgi; exact Option.some.inj hgi
    simp -dsimp -implicitDefEqProofs (maxSteps := 1000000) (disch := omega) [condP_pos, condP_neg, optP_pos, decide_eq_true, decide_eq_false, wrap_i64, Int.natCast_inj, S80a, hil, hgi2, eGl]
    refine wp_inv (T80 gs ps many pre g) (fun a => a.1 ++ a.2 = g.2.2) (fun a => a.2.length) ([], g.2.2) rfl (by simp -dsimp -implicitDefEqProofs (maxSteps := 1000000) (disch := omega) [condP_pos, condP_neg, optP_pos, decide_eq_true, decide_eq_false, wrap_i64, Int.natCast_inj, T80, nearF]) ?_
    rintro ⟨q, r⟩ d
    simp only at d
    have hq : q.length + r.length = g.2.2.length := by rw [← d]; simp
    have hn : (nearF many q).length ≤ q.length := List.length_filter_le _ _
    cases r with
    | nil =>
      simp at d
      simp -dsimp -implicitDefEqProofs (maxSteps := 1000000) (disch := omega) [condP_pos, condP_neg, optP_pos, decide_eq_true, decide_eq_false, wrap_i64, Int.natCast_inj, T80, d, eGl]
      refine again (pre ++ [g], rest) (by simpa using e) (by simp) ?_
      simp -dsimp -implicitDefEqProofs (maxSteps := 1000000) (disch := omega) [condP_pos, condP_neg, optP_pos, decide_eq_true, decide_eq_false, wrap_i64, Int.natCast_inj, S80a, eGl, cutG]
    | cons x r =>
      simp at hq
      by_cases hx : x.1 < many
      · have hf : nearF many (q ++ [x]) = nearF many q ++ [x] := by simp [nearF, List.filter_append, farB]; omega
        simp -dsimp -implicitDefEqProofs (maxSteps := 1000000) (disch := omega) [condP_pos, condP_neg, optP_pos, decide_eq_true, decide_eq_false, wrap_i64, Int.natCast_inj, T80, ePc, hx, hmany]
        refine again (q ++ [x], r) (by simpa using d) (by simp) ?_
        simp -dsimp -implicitDefEqProofs (maxSteps := 1000000) (disch := omega) [condP_pos, condP_neg, optP_pos, decide_eq_true, decide_eq_false, wrap_i64, Int.natCast_inj, T80, ePc, hf]
      · have hf : nearF many (q ++ [x]) = nearF many q := by simp [nearF, List.filter_append, farB]; omega
        simp -dsimp -implicitDefEqProofs (maxSteps := 1000000) (disch := omega) [condP_pos, condP_neg, optP_pos, decide_eq_true, decide_eq_false, wrap_i64, Int.natCast_inj, T80, ePc, hx, hmany]
        refine again (q ++ [x], r) (by simpa using d) (by simp) ?_
        simp -dsimp -implicitDefEqProofs (maxSteps := 1000000) (disch := omega) [condP_pos, condP_neg, optP_pos, decide_eq_true, decide_eq_false, wrap_i64, Int.natCast_inj, T80, ePc, hf]
  | nil =>
    simp at e
    subst e
    have hil : ¬ pre.length < pre.length := by omega
    simp -dsimp -implicitDefEqProofs (maxSteps := 1000000) (disch := omega) [condP_pos, condP_neg, optP_pos, decide_eq_true, decide_eq_false, wrap_i64, Int.natCast_inj, S80a, hil]
    refine wp_inv (S80c pre many) (fun a => a.1 ++ a.2.1 = ps ∧ a.2.1.foldl (insS many) a.2.2 = W ∧ a.2.2.length ≤ a.1.length) (fun a => a.2.1.length) ([], ps, []) ⟨rfl, hW, by simp⟩ (by simp -dsimp -implicitDefEqProofs (maxSteps := 1000000) (disch := omega) [condP_pos, condP_neg, optP_pos, decide_eq_true, decide_eq_false, wrap_i64, Int.natCast_inj, S80c]) ?_
    rintro ⟨qs, r, M⟩ ⟨e1, e2, e3⟩
    simp only at e1 e2 e3
    subst e1
    simp at hp
    cases r with
    | nil =>
      simp only [List.foldl_nil] at e2
      rw [← e2]
      simp -dsimp -implicitDefEqProofs (maxSteps := 1000000) (disch := omega) [condP_pos, condP_neg, optP_pos, decide_eq_true, decide_eq_false, wrap_i64, Int.natCast_inj, S80c]
    | cons p r =>
      simp at hp
      simp only [List.foldl_cons] at e2
      have h1 := run_100 hv M p (by omega)
      have hil := insP_len p M
      by_cases c2 : p.2 < many
      · by_cases c1 : p.1 ≤ 1114111
        · have hk : insS many M p = insP M p := by simp [insS, keepP, c1, c2]
          rw [hk] at e2
          simp -dsimp -implicitDefEqProofs (maxSteps := 1000000) (disch := omega) [condP_pos, condP_neg, optP_pos, decide_eq_true, decide_eq_false, wrap_i64, Int.natCast_inj, S80c, ePt, c1, c2, hmany, h1]
          refine again (qs ++ [p], r, insP M p) ⟨by simp, e2, by simp; omega⟩ (by simp) ?_
          simp -dsimp -implicitDefEqProofs (maxSteps := 1000000) (disch := omega) [condP_pos, condP_neg, optP_pos, decide_eq_true, decide_eq_false, wrap_i64, Int.natCast_inj, S80c, ePt]
          exact hmany.symm
        · have hk : insS many M p = M := by simp [insS, keepP, c1, c2]
          rw [hk] at e2
          simp -dsimp -implicitDefEqProofs (maxSteps := 1000000) (disch := omega) [condP_pos, condP_neg, optP_pos, decide_eq_true, decide_eq_false, wrap_i64, Int.natCast_inj, S80c, ePt, c1, c2, hmany]
          refine again (qs ++ [p], r, M) ⟨by simp, e2, by simp; omega⟩ (by simp) ?_
          simp -dsimp -implicitDefEqProofs (maxSteps := 1000000) (disch := omega) [condP_pos, condP_neg, optP_pos, decide_eq_true, decide_eq_false, wrap_i64, Int.natCast_inj, S80c, ePt]
          exact hmany.symm
      · have hk : insS many M p = M := by simp [insS, keepP, c2]
        rw [hk] at e2
        simp -dsimp -implicitDefEqProofs (maxSteps := 1000000) (disch := omega) [condP_pos, condP_neg, optP_pos, decide_eq_true, decide_eq_false, wrap_i64, Int.natCast_inj, S80c, ePt, c2, hmany]
        refine again (qs ++ [p], r, M) ⟨by simp, e2, by simp; omega⟩ (by simp) ?_
        simp -dsimp -implicitDefEqProofs (maxSteps := 1000000) (disch := omega) [condP_pos, condP_neg, optP_pos, decide_eq_true, decide_eq_false, wrap_i64, Int.natCast_inj, S80c, ePt]
        exact hmany.symm
end Go.Vai

set_option linter.unusedVariables false
set_option linter.unusedSimpArgs false
set_option linter.unnecessarySimpa false
set_option linter.unusedSectionVars false
namespace Go.Vai
theorem insP_mem {M : List Pt} (h : M.Pairwise fun a b => a.1 < b.1) (p x : Pt) : x ∈ insP M p ↔ x = p ∨ (x ∈ M ∧ x.1 ≠ p.1) := by
  induction M with
  | nil => simp [insP]
  | cons q r ih =>
    rw [List.pairwise_cons] at h
    have ih := ih h.2
    simp only [insP]
    split
    · rename_i h1
      simp only [List.mem_cons, ih]
      constructor
      · rintro (rfl | h | ⟨h, h2⟩)
        · exact .inr ⟨.inl rfl, by omega⟩
        · exact .inl h
        · exact .inr ⟨.inr h, h2⟩
      · rintro (h | ⟨rfl | h, h2⟩)
        · exact .inr (.inl h)
        · exact .inl rfl
        · exact .inr (.inr ⟨h, h2⟩)
    · split
      · rename_i h1 h2
        simp only [List.mem_cons]
        constructor
        · rintro (h3 | h3)
          · exact .inl h3
          · exact .inr ⟨.inr h3, by have := h.1 x h3; omega⟩
        · rintro (h3 | ⟨rfl | h3, h4⟩)
          · exact .inl h3
          · exact absurd h2 h4
          · exact .inr h3
      · rename_i h1 h2
        simp only [List.mem_cons]
        constructor
        · rintro (h3 | rfl | h3)
          · exact .inl h3
          · exact .inr ⟨.inl rfl, h2⟩
          · exact .inr ⟨.inr h3, by have := h.1 x h3; omega⟩
        · rintro (h3 | ⟨h3, _⟩)
          · exact .inl h3
          · exact .inr h3
theorem insP_sorted {M : List Pt} (h : M.Pairwise fun a b => a.1 < b.1) (p : Pt) : (insP M p).Pairwise fun a b => a.1 < b.1 := by
  induction M with
  | nil => simp [insP]
  | cons q r ih =>
    rw [List.pairwise_cons] at h
    have ih := ih h.2
    simp only [insP]
    split
    · rename_i h1
      rw [List.pairwise_cons]
      refine ⟨fun x hx => ?_, ih⟩
      rcases (insP_mem h.2 p x).1 hx with rfl | ⟨hx, _⟩
      · exact h1
      · exact h.1 x hx
    · split
      · rename_i h1 h2
        rw [List.pairwise_cons]
        exact ⟨fun x hx => by have := h.1 x hx; omega, h.2⟩
      · rename_i h1 h2
        rw [List.pairwise_cons, List.pairwise_cons]
        refine ⟨fun x hx => ?_, h⟩
        rcases List.mem_cons.1 hx with rfl | hx
        · omega
        · have := h.1 x hx; omega
theorem mput_mem_iff {M : List Pt} (h : (M.map (·.1)).Nodup) (p x : Pt) : x ∈ mput M p ↔ x = p ∨ (x ∈ M ∧ x.1 ≠ p.1) := by
  induction M with
  | nil => simp [mput]
  | cons q r ih =>
    simp only [List.map_cons, List.nodup_cons] at h
    have ih := ih h.2
    simp only [mput]
    split
    · rename_i h1
      have hqp : (q.1, p.2) = p := by rw [h1]
      rw [hqp]
      simp only [List.mem_cons]
      constructor
      · rintro (h3 | h3)
        · exact .inl h3
        · exact .inr ⟨.inr h3, fun e => h.1 (List.mem_map.2 ⟨x, h3, by rw [e, h1]⟩)⟩
      · rintro (h3 | ⟨rfl | h3, h4⟩)
        · exact .inl h3
        · exact absurd h1 h4
        · exact .inr h3
    · rename_i h1
      simp only [List.mem_cons, ih]
      constructor
      · rintro (rfl | h | ⟨h, h2⟩)
        · exact .inr ⟨.inl rfl, h1⟩
        · exact .inl h
        · exact .inr ⟨.inr h, h2⟩
      · rintro (h | ⟨rfl | h, h2⟩)
        · exact .inr (.inl h)
        · exact .inl rfl
        · exact .inr (.inr ⟨h, h2⟩)
theorem pairs_nodup {l : List Pt} (h : (l.map (·.1)).Nodup) : l.Nodup := by
  rw [List.Nodup, List.pairwise_map] at h
  exact h.imp fun h e => h (by rw [e])
theorem ref_map (many : Nat) : ∀ (ps L M : List Pt), (L.Pairwise fun a b => a.1 < b.1) → (M.map (·.1)).Nodup → L.Perm M →
    (ps.foldl (insS many) L).Perm (ps.foldl (fun M p => if keepP many p = true then mput M p else M) M) ∧ (ps.foldl (insS many) L).Pairwise (fun a b => a.1 < b.1) ∧ ((ps.foldl (fun M p => if keepP many p = true then mput M p else M) M).map (·.1)).Nodup
  | [], L, M, h1, h2, h3 => ⟨h3, h1, h2⟩
  | p :: ps, L, M, h1, h2, h3 => by
    simp only [List.foldl_cons]
    by_cases hk : keepP many p = true
    · have e : insS many L p = insP L p := if_pos hk
      rw [e, if_pos hk]
      refine ref_map many ps _ _ (insP_sorted h1 p) (mput_nodup h2 p) ?_
      refine (List.perm_ext_iff_of_nodup (pairs_nodup (lt_nodup (insP_sorted h1 p))) (pairs_nodup (mput_nodup h2 p))).2 fun x => ?_
      rw [insP_mem h1, mput_mem_iff h2, h3.mem_iff]
    · have e : insS many L p = L := if_neg hk
      rw [e, if_neg hk]
      exact ref_map many ps _ _ h1 h2 h3
theorem ref_sort (many : Nat) (ps : List Pt) : ps.foldl (insS many) [] = sortP (mapOf many ps) := by
  obtain ⟨h1, h2, h3⟩ := ref_map many ps [] [] .nil (by simp) (List.Perm.refl _)
  exact sortP_uniq h1 h3 (h2.imp fun h => by omega)
variable {v : Env} (hv : v.T = Tt)
include hv
def S50 (b : List UInt8) (rest : Int) (a : Cu × List Gl × List Pt) : St :=
  { sl := [(0, bs b), (4, .bp 0 0), (7, i64 rest), (9, .osl 1 3 0 a.2.1.length), (10, .osl 2 2 0 a.2.2.length), (11, i64 a.1.1)],
    hp := [(0, some (.box [.emp, .emp])), (1, some (.arr 3 (a.2.1.map eGl))), (2, some (.arr 2 (a.2.2.map ePt)))], nx := 3 }
set_option maxHeartbeats 4000000 in
theorem run_rread (b : List UInt8) (left : Int) (hb : b.length < 400000000000) (hl : left ≤ 9223372036854775807) :
    v.run 50 [bs b, i64 left] [] = some (.tup [aFont (readG b left).1, i64 (readG b left).2.1, i64 (readG b left).2.2], []) := by
  have h77 := run_77 hv left b.length hl (by omega) (by omega)
  unfold readG
  by_cases h7 : b.length < 7
  · rw [if_pos (.inl h7)]
    refine run_wp (by rw [hv]; exact rfl) ?_
    by_cases hl0 : left ≤ 0
    · simp -dsimp -implicitDefEqProofs (maxSteps := 1000000) (disch := omega) [condP_pos, condP_neg, optP_pos, decide_eq_true, decide_eq_false, wrap_i64, Int.natCast_inj, h7, hl0]
    · simp -dsimp -implicitDefEqProofs (maxSteps := 1000000) (disch := omega) [condP_pos, condP_neg, optP_pos, decide_eq_true, decide_eq_false, wrap_i64, Int.natCast_inj, h7, hl0]
  · by_cases hs : b.take 7 = sgn
    · by_cases hw : max left 0 < b.length
      · rw [if_neg (by simp [h7, hs]), if_pos hw]
        rw [if_pos hw] at h77
        refine run_wp (by rw [hv]; exact rfl) ?_
        unfold sgn at hs
        simp -dsimp -implicitDefEqProofs (maxSteps := 1000000) (disch := omega) [condP_pos, condP_neg, optP_pos, decide_eq_true, decide_eq_false, wrap_i64, Int.natCast_inj, h7, hs, h77]
      · rw [if_neg (by simp [h7, hs]), if_neg hw]
        rw [if_neg hw] at h77
        generalize max left 0 = mx at *
        refine run_wp (by rw [hv]; exact rfl) ?_
        unfold sgn at hs
        simp -dsimp -implicitDefEqProofs (maxSteps := 1000000) (disch := omega) [condP_pos, condP_neg, optP_pos, decide_eq_true, decide_eq_false, wrap_i64, Int.natCast_inj, h7, hs, h77]
        refine wp_inv (S50 b (mx - b.length)) (fun a => okC b a.1 ∧ gsOk a.2.1 ∧ a.2.2.length ≤ b.length ∧ a.2.2.length ≤ a.1.1 ∧ endV (recV b (b.length - a.1.1) a.1 a.2.1 a.2.2) = readV b) (fun a => b.length - a.1.1) ((7, false), [], []) ⟨⟨by simp only; omega, by simp⟩, ⟨by simp, by simp⟩, by simp, by simp, by unfold readV; rw [recV_fuel _ b.length _ _ ⟨by simp only; omega, by simp⟩ (by simp only; omega) (by simp only; omega)]⟩ (by simp -dsimp -implicitDefEqProofs (maxSteps := 1000000) (disch := omega) [condP_pos, condP_neg, optP_pos, decide_eq_true, decide_eq_false, wrap_i64, Int.natCast_inj, S50]) ?_
        rintro ⟨c, gs, ps⟩ ⟨e1, e2, e3b, e3, e5⟩
        simp only at e1 e2 e3b e3 e5
        rcases Nat.lt_or_ge c.1 b.length with hc | hc
        · have hx : b[c.1]? = some b[c.1] := List.getElem?_eq_getElem hc
          have hx! : b[c.1]! = b[c.1] := by simp [hc]
          have hcf : c.2 = false := by
            cases h : c.2 with
            | false => rfl
            | true => have := e1.2 h; omega
          obtain ⟨c1, c2⟩ := c
          simp only at *
          subst hcf
          rw [show b.length - c1 = (b.length - c1 - 1) + 1 by omega, recV, if_pos hc, hx!] at e5
          have ok1 : okC b (c1 + 1, false) := ⟨by simp only; omega, by simp⟩
          simp only at e5
          by_cases b1 : b[c1] = 103
          · rw [if_pos b1] at e5
            have hxi : ((b[c1].toNat : Nat) : Int) = 103 := by rw [b1]; rfl
            have h78 := run_78 hv b (c1 + 1, false) ok1 (by omega)
            obtain ⟨g1, g2, g3⟩ := glV_ok ok1
            generalize glV b (c1 + 1, false) = q at h78 g1 g2 g3 e5
            obtain ⟨g, d⟩ := q
            simp only [plA, Bool.not_false] at h78 g1 g2 g3 e5
            simp only [Int.natCast_add, Int.cast_ofNat_Int] at h78
            rw [recV_fuel _ (b.length - d.1) _ _ g1 (by omega) (by omega)] at e5
            by_cases hgl : gs.length < 1000
            · have hput : putG gs g = gs ++ [g] := if_pos hgl
              rw [hput] at e5
              simp -dsimp -implicitDefEqProofs (maxSteps := 1000000) (disch := omega) [condP_pos, condP_neg, optP_pos, decide_eq_true, decide_eq_false, wrap_i64, Int.natCast_inj, S50, hx, hxi, h78, hgl]
              refine again (d, gs ++ [g], ps) ⟨g1, ⟨by simp; omega, fun x hx => ?_⟩, e3b, by simp only; omega, e5⟩ (by simp only; omega) ?_
              · rcases List.mem_append.1 hx with hx | hx
                · exact e2.2 x hx
                · simp at hx; subst hx; exact g3
              simp -dsimp -implicitDefEqProofs (maxSteps := 1000000) (disch := omega) [condP_pos, condP_neg, optP_pos, decide_eq_true, decide_eq_false, wrap_i64, Int.natCast_inj, S50, eGl]
            · have hput : putG gs g = gs := if_neg hgl
              rw [hput] at e5
              simp -dsimp -implicitDefEqProofs (maxSteps := 1000000) (disch := omega) [condP_pos, condP_neg, optP_pos, decide_eq_true, decide_eq_false, wrap_i64, Int.natCast_inj, S50, hx, hxi, h78, hgl]
              refine again (d, gs, ps) ⟨g1, e2, e3b, by simp only; omega, e5⟩ (by simp only; omega) ?_
              simp -dsimp -implicitDefEqProofs (maxSteps := 1000000) (disch := omega) [condP_pos, condP_neg, optP_pos, decide_eq_true, decide_eq_false, wrap_i64, Int.natCast_inj, S50]
          · rw [if_neg b1] at e5
            have hxi : ¬ ((b[c1].toNat : Nat) : Int) = 103 := fun h => b1 (by
              apply UInt8.toNat_inj.1; rw [show (103 : UInt8).toNat = 103 from rfl]; omega)
            by_cases b2 : b[c1] = 109
            · rw [if_pos b2] at e5
              have hxj : ((b[c1].toNat : Nat) : Int) = 109 := by rw [b2]; rfl
              have h1 : v.run 79 [bs b, plA (c1 + 1, false), i64 3] [] = _ := run_79 hv b (c1 + 1, false) 3 (by omega) ok1.1 (by omega)
              have k1 := (tkV_ok ok1 3 (by omega)).1
              have hm : mpV b (c1 + 1, false) = (((tkV b (c1 + 1) false 3).1, (tkV b (tkV b (c1 + 1) false 3).2.1 (tkV b (c1 + 1) false 3).2.2 2).1), (tkV b (tkV b (c1 + 1) false 3).2.1 (tkV b (c1 + 1) false 3).2.2 2).2) := rfl
              obtain ⟨g1, g2, g3⟩ := mpV_ok ok1
              simp only at h1 k1 g2
              generalize tkV b (c1 + 1) false 3 = q at h1 k1 hm
              obtain ⟨x, d⟩ := q
              simp only at h1 k1 hm
              have h2 : v.run 79 [bs b, plA d, i64 2] [] = _ := run_79 hv b d 2 (by omega) k1.1 (by omega)
              generalize tkV b d.1 d.2 2 = q at h2 hm
              obtain ⟨y, d1, d2⟩ := q
              simp only at h2 hm
              rw [hm] at e5 g1 g2
              simp only at e5 g1 g2
              simp only [plA, Bool.not_false, Int.natCast_add, Int.cast_ofNat_Int] at h1 h2
              rw [recV_fuel _ (b.length - d1) _ _ g1 (by simp only; omega) (by simp only; omega)] at e5
              cases d2 with
              | true =>
                have hput : putP ps (x, y) true = ps := rfl
                rw [hput] at e5
                simp only [Bool.not_true] at h2
                simp -dsimp -implicitDefEqProofs (maxSteps := 1000000) (disch := omega) [condP_pos, condP_neg, optP_pos, decide_eq_true, decide_eq_false, wrap_i64, Int.natCast_inj, S50, hx, hxj, h1, h2]
                refine again ((d1, true), gs, ps) ⟨g1, e2, e3b, by simp only; omega, e5⟩ (by simp only; omega) ?_
                simp -dsimp -implicitDefEqProofs (maxSteps := 1000000) (disch := omega) [condP_pos, condP_neg, optP_pos, decide_eq_true, decide_eq_false, wrap_i64, Int.natCast_inj, S50]
              | false =>
                have hput : putP ps (x, y) false = ps ++ [(x, y)] := rfl
                rw [hput] at e5
                have hd1 := g1.1
                simp only at hd1
                simp only [Bool.not_false] at h2
                simp -dsimp -implicitDefEqProofs (maxSteps := 1000000) (disch := omega) [condP_pos, condP_neg, optP_pos, decide_eq_true, decide_eq_false, wrap_i64, Int.natCast_inj, S50, hx, hxj, h1, h2]
                refine again ((d1, false), gs, ps ++ [(x, y)]) ⟨g1, e2, by simp; omega, by simp; omega, e5⟩ (by simp only; omega) ?_
                simp -dsimp -implicitDefEqProofs (maxSteps := 1000000) (disch := omega) [condP_pos, condP_neg, optP_pos, decide_eq_true, decide_eq_false, wrap_i64, Int.natCast_inj, S50, ePt]
            · rw [if_neg b2] at e5
              have hxj : ¬ ((b[c1].toNat : Nat) : Int) = 109 := fun h => b2 (by
                apply UInt8.toNat_inj.1; rw [show (109 : UInt8).toNat = 109 from rfl]; omega)
              simp -dsimp -implicitDefEqProofs (maxSteps := 1000000) (disch := omega) [condP_pos, condP_neg, optP_pos, decide_eq_true, decide_eq_false, wrap_i64, Int.natCast_inj, S50, hx, hxi, hxj]
              refine again ((c1 + 1, false), gs, ps) ⟨ok1, e2, e3b, by simp only; omega, e5⟩ (by simp only; omega) ?_
              simp -dsimp -implicitDefEqProofs (maxSteps := 1000000) (disch := omega) [condP_pos, condP_neg, optP_pos, decide_eq_true, decide_eq_false, wrap_i64, Int.natCast_inj, S50]
        · have h0 : b.length - c.1 = 0 := by omega
          rw [h0, recV] at e5
          have h80 := run_80 hv gs ps e2.1 e2.2 (by omega)
          rw [ref_sort] at h80
          rw [← e5, endV]
          simp -dsimp -implicitDefEqProofs (maxSteps := 1000000) (disch := omega) [condP_pos, condP_neg, optP_pos, decide_eq_true, decide_eq_false, wrap_i64, Int.natCast_inj, S50, h80]
    · rw [if_pos (.inr hs)]
      refine run_wp (by rw [hv]; exact rfl) ?_
      unfold sgn at hs
      by_cases hl0 : left ≤ 0
      · simp -dsimp -implicitDefEqProofs (maxSteps := 1000000) (disch := omega) [condP_pos, condP_neg, optP_pos, decide_eq_true, decide_eq_false, wrap_i64, Int.natCast_inj, h7, hl0, hs]
      · simp -dsimp -implicitDefEqProofs (maxSteps := 1000000) (disch := omega) [condP_pos, condP_neg, optP_pos, decide_eq_true, decide_eq_false, wrap_i64, Int.natCast_inj, h7, hl0, hs]
end Go.Vai

set_option linter.unusedVariables false
set_option linter.unusedSimpArgs false
set_option linter.unnecessarySimpa false
set_option linter.unusedSectionVars false
namespace Go.Vai
theorem run_rstrict (b : List UInt8) (hb : b.length < 400000000000) : V.run 52 [bs b] [] = some (.tup [aFont (strictG b).1, bo (strictG b).2], []) := by
  have h1 := run_rread V_T b b.length hb (by omega)
  unfold strictG
  by_cases h7 : b.length < 7 ∨ b.take 7 ≠ sgn
  · rw [if_pos h7]
    unfold readG at h1
    rw [if_pos h7] at h1
    simp only at h1
    refine run_wp (by rw [V_T]; exact rfl) ?_
    simp -dsimp -implicitDefEqProofs (maxSteps := 1000000) (disch := omega) [condP_pos, condP_neg, optP_pos, decide_eq_true, decide_eq_false, wrap_i64, Int.natCast_inj, h1]
  · rw [if_neg h7]
    rw [not_or] at h7
    have h8 : b.take 7 = sgn := by
      by_cases h : b.take 7 = sgn
      · exact h
      · exact absurd h h7.2
    rw [readG_of (by omega) h8 (Int.le_refl _)] at h1
    have hr := right_read b (by omega)
    obtain ⟨k1, k2⟩ := right_small hr
    have h2 := run_rwrite V_T (readV b) k1 k2
    simp only [writeG, hr, if_true] at h2
    generalize readV b = f at *
    simp only at h1
    refine run_wp (by rw [V_T]; exact rfl) ?_
    by_cases hw : bodyW f = b
    · rw [if_pos hw]
      rw [hw] at h2
      simp -dsimp -implicitDefEqProofs (maxSteps := 1000000) (disch := omega) [condP_pos, condP_neg, optP_pos, decide_eq_true, decide_eq_false, wrap_i64, Int.natCast_inj, h1, h2]
    · rw [if_neg hw]
      simp -dsimp -implicitDefEqProofs (maxSteps := 1000000) (disch := omega) [condP_pos, condP_neg, optP_pos, decide_eq_true, decide_eq_false, wrap_i64, Int.natCast_inj, h1, h2, hw]
theorem ok_none : okFont (([], []) : Font) := ⟨by simp, by simp, by simp⟩
theorem ok_read (b : List UInt8) (left : Int) : okFont (readG b left).1 := by
  unfold readG
  by_cases h7 : b.length < 7 ∨ b.take 7 ≠ sgn
  · rw [if_pos h7]; exact ok_none
  · rw [if_neg h7]
    by_cases hw : max left 0 < b.length
    · rw [if_pos hw]; exact ok_none
    · rw [if_neg hw]
      rw [not_or] at h7
      exact (right_small (right_read b (by omega))).1
theorem ok_strict (b : List UInt8) : okFont (strictG b).1 := by
  unfold strictG
  by_cases h7 : b.length < 7 ∨ b.take 7 ≠ sgn
  · rw [if_pos h7]; exact ok_none
  · rw [if_neg h7]
    split
    · rw [not_or] at h7
      exact (right_small (right_read b (by omega))).1
    · exact ok_none
set_option maxHeartbeats 4000000 in
theorem law_read (b : List UInt8) (left : Int) (hb : b.length ≤ 140737488351232) (hl : left ≤ 9223372036854775807) : V.run 12 [bs b, i64 left] [] = some (bo true, []) := by
  refine run_wp (by rw [V_T]; exact rfl) ?_
  by_cases h4 : 4000 < b.length
  · simp -dsimp -implicitDefEqProofs (maxSteps := 1000000) (disch := omega) [condP_pos, condP_neg, optP_pos, decide_eq_true, decide_eq_false, wrap_i64, Int.natCast_inj, run_awake, h4]
  · have h1 := run_readV b left (by omega) hl
    have h2 := run_rread V_T b left (by omega) hl
    have h3 := run_strict b (by omega)
    have h5 := run_rstrict b (by omega)
    have h6 := run_sameFont V_T (readG b left).1 (readG b left).1 (ok_read b left)
    have h7 := run_sameFont V_T (strictG b).1 (strictG b).1 (ok_strict b)
    rw [decide_eq_true rfl] at h6 h7
    generalize readG b left = x at h1 h2 h6
    generalize strictG b = y at h3 h5 h7
    obtain ⟨f, r, e⟩ := x
    obtain ⟨g, t⟩ := y
    simp only at h1 h2 h3 h5 h6 h7
    cases t <;> simp -dsimp -implicitDefEqProofs (maxSteps := 1000000) (disch := omega) [condP_pos, condP_neg, optP_pos, decide_eq_true, decide_eq_false, wrap_i64, Int.natCast_inj, run_awake, h4, h1, h2, h3, h5, h6, h7]
end Go.Vai
