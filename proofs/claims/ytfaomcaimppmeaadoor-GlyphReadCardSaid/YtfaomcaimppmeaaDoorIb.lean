/-
  What functions of layer 5 and of its reference compute: equations of the abstract run.
-/
import Derived.Test.YtfaomcaimppmeaaDoorIa
import Derived.Test.YtfaomcaimppmeaaDoorHr
import Derived.Test.YtfaomcaimppmeaaDoorHs
set_option linter.unusedVariables false
set_option linter.unusedSimpArgs false
set_option linter.unnecessarySimpa false
set_option linter.unusedSectionVars false
namespace Go.Vai
def mpV (b : List UInt8) (c : Cu) : Pt × Cu :=
  let x := tkV b c.1 c.2 3
  let y := tkV b x.2.1 x.2.2 2
  ((x.1, y.1), y.2)
variable {v : Env} (hv : v.T = Tt)
include hv
theorem run_75 (b : List UInt8) (c : Cu) (gs : List Gl) (ps : List Pt) (hc : okC b c) (hb : b.length < 1000000000000000) (hp : ps.length < 1000000000000) :
    ∃ bl, v.run 75 [.bp 0 0] (rb b c.1 c.2 gs ps) = some (.tup [], bl) ∧ (if (mpV b c).2.2 = true then bl = rb b (mpV b c).2.1 (mpV b c).2.2 gs ps
      else bl = [some (.box [bs b, i64 (mpV b c).2.1, bo (mpV b c).2.2, .osl 1 3 0 gs.length, .emp, .osl 3 2 0 (ps.length + 1)]), some (.row 3 (gs.map rGl)), none, some (.arr 2 ((ps ++ [(mpV b c).1]).map ePt))]) := by
  have h1 : v.run 93 [.bp 0 0, i64 3] (rb b c.1 c.2 gs ps) = _ := run_num hv b c.1 c.2 3 gs ps (by omega) hc.1 hb
  obtain ⟨k1, _⟩ := tkV_ok hc 3 (by omega)
  unfold mpV
  simp only
  generalize tkV b c.1 c.2 3 = a at *
  obtain ⟨x, c1⟩ := a
  simp only at *
  have h2 : v.run 93 [.bp 0 0, i64 2] (rb b c1.1 c1.2 gs ps) = _ := run_num hv b c1.1 c1.2 2 gs ps (by omega) k1.1 hb
  generalize tkV b c1.1 c1.2 2 = a at *
  obtain ⟨y, p, br⟩ := a
  simp only at *
  unfold rb at h1 h2
  cases br with
  | true =>
    simp only [if_true]
    refine ⟨_, ?_, rfl⟩
    refine run_wp (by rw [hv]; exact rfl) ?_
    simp -dsimp -implicitDefEqProofs (maxSteps := 1000000) (disch := omega) [condP_pos, condP_neg, optP_pos, decide_eq_true, decide_eq_false, wrap_i64, Int.natCast_inj, rb, h1, h2]
  | false =>
    simp only [Bool.false_eq_true, if_false]
    refine ⟨_, ?_, rfl⟩
    refine run_wp (by rw [hv]; exact rfl) ?_
    simp -dsimp -implicitDefEqProofs (maxSteps := 1000000) (disch := omega) [condP_pos, condP_neg, optP_pos, decide_eq_true, decide_eq_false, wrap_i64, Int.natCast_inj, rb, h1, h2]
    simp [ePt]
def farB (many : Nat) (p : Pc) : Bool := decide ((many : Int) ≤ p.1)
theorem run_95 (many : Nat) (p : Pc) : v.run 95 [.agg [i64 p.1, i64 p.2.1, i64 p.2.2], .bp 0 0] [some (.box [i64 many])] = some (bo (farB many p), [some (.box [i64 many])]) := by
  refine run_wp (by rw [hv]; exact rfl) ?_
  unfold farB
  by_cases c1 : (many : Int) ≤ p.1 <;> simp -dsimp -implicitDefEqProofs (maxSteps := 1000000) (disch := omega) [condP_pos, condP_neg, optP_pos, decide_eq_true, decide_eq_false, wrap_i64, Int.natCast_inj, c1]
def S102b (many : Nat) (a : List Pc × List Pc) : St :=
  { sl := [(0, .osl 0 3 0 (a.1 ++ a.2).length), (1, .fn 95 [.bp 1 0]), (7, i64 (a.1 ++ a.2).length), (8, i64 a.1.length)], hp := [(0, some (.arr 3 ((a.1 ++ a.2).map ePc))), (1, some (.box [i64 many]))], nx := 2 }
set_option maxRecDepth 20000 in
theorem run_102b (many : Nat) (l : List Pc) (h : l.length < 1000000000000) : v.run 102 [.osl 0 3 0 l.length, .fn 95 [.bp 1 0]] [some (.arr 3 (l.map ePc)), some (.box [i64 many])] = some (i64 (idxF (farB many) l 0), [some (.arr 3 (l.map ePc)), some (.box [i64 many])]) := by
  refine run_wp (by rw [hv]; exact rfl) ?_
  simp -dsimp -implicitDefEqProofs (maxSteps := 1000000) (disch := omega) [condP_pos, condP_neg, optP_pos, decide_eq_true, decide_eq_false, wrap_i64, Int.natCast_inj]
  refine wp_inv (S102b many) (fun a => a.1 ++ a.2 = l ∧ idxF (farB many) l 0 = idxF (farB many) a.2 a.1.length) (fun a => a.2.length) ([], l) (by simp) (by simp -dsimp -implicitDefEqProofs (maxSteps := 1000000) (disch := omega) [condP_pos, condP_neg, optP_pos, decide_eq_true, decide_eq_false, wrap_i64, Int.natCast_inj, S102b]) ?_
  rintro ⟨pre, rest⟩ ⟨rfl, e⟩
  simp only at e
  rw [e]
  cases rest with
  | nil => simp -dsimp -implicitDefEqProofs (maxSteps := 1000000) (disch := omega) [condP_pos, condP_neg, optP_pos, decide_eq_true, decide_eq_false, wrap_i64, Int.natCast_inj, S102b, idxF]
  | cons p rest =>
    simp at h
    have h1 := run_95 hv many p
    cases hp : farB many p with
    | true =>
      rw [hp] at h1
      simp -dsimp -implicitDefEqProofs (maxSteps := 1000000) (disch := omega) [condP_pos, condP_neg, optP_pos, decide_eq_true, decide_eq_false, wrap_i64, Int.natCast_inj, S102b, idxF, hp, h1, ePc]
    | false =>
      rw [hp] at h1
      simp -dsimp -implicitDefEqProofs (maxSteps := 1000000) (disch := omega) [condP_pos, condP_neg, optP_pos, decide_eq_true, decide_eq_false, wrap_i64, Int.natCast_inj, S102b, idxF, hp, h1, ePc]
      refine again (pre ++ [p], rest) ⟨by simp, by simp [idxF, hp]⟩ (by simp) ?_
      simp -dsimp -implicitDefEqProofs (maxSteps := 1000000) (disch := omega) [condP_pos, condP_neg, optP_pos, decide_eq_true, decide_eq_false, wrap_i64, Int.natCast_inj, S102b, ePc]
omit hv in
theorem pureOp_slc1 (av : LX → AV) (sz : Nat) (x : LX) (l : LX) : pureOp av (.slc sz x (some l) none none) = match intOf' (av l) with
  | some l => (match av x with
      | .fz (.sl es) => if okSz sz es = true ∧ 0 ≤ l ∧ l ≤ (es.length : Int) ∧ (es.length : Int) ≤ es.length then some (.fz (.sl ((es.take (es.length : Int).toNat).drop l.toNat))) else none
      | .emp => if l = 0 ∧ (0 : Int) = 0 then some .emp else none
      | .osl b sz' off len => if sz' = sz ∧ 0 ≤ l ∧ l ≤ (len : Int) ∧ (len : Int) ≤ len then some (.osl b sz (off + l.toNat) ((len : Int) - l).toNat) else none
      | _ => none)
  | none => none := by
  simp only [pureOp]
  generalize intOf' (av l) = o
  cases o with
  | none => simp
  | some n =>
    simp
    cases av x <;> first | rfl | (rename_i q; cases q <;> rfl)
omit hv in
theorem pureOp_slc2 (av : LX → AV) (sz : Nat) (x : LX) (h : LX) : pureOp av (.slc sz x none (some h) none) = match intOf' (av h) with
  | some h => (match av x with
      | .fz (.sl es) => if okSz sz es = true ∧ 0 ≤ h ∧ h ≤ (es.length : Int) then some (.fz (.sl (es.take h.toNat))) else none
      | .emp => if h = 0 then some .emp else none
      | .osl b sz' off len => if sz' = sz ∧ 0 ≤ h ∧ h ≤ len then some (.osl b sz off h.toNat) else none
      | _ => none)
  | none => none := by
  simp only [pureOp]
  generalize intOf' (av h) = o
  cases o with
  | none => simp
  | some n =>
    simp
    cases av x <;> first | rfl | (rename_i q; cases q <;> rfl)
omit hv in
theorem get_two {α β : Type} (f g : α → β) (l m : List α) (x a : β) (r : List β) : (l.map f ++ x :: (m.map g ++ a :: r))[((l.length : Int) + ((m.length : Int) + 1)).toNat]? = some a := by
  have e : ((l.length : Int) + ((m.length : Int) + 1)).toNat = (l.map f ++ x :: m.map g).length := by simp; omega
  have e2 : l.map f ++ x :: (m.map g ++ a :: r) = (l.map f ++ x :: m.map g) ++ a :: r := by simp
  rw [e, e2]; exact get_mid _ _ _
omit hv in
theorem set_map_mid {α β : Type} (f : α → β) (l : List α) (x y : β) (r : List β) : (l.map f ++ x :: r).set l.length y = l.map f ++ y :: r := by
  have e : l.length = (l.map f).length := by simp
  rw [e, List.set_append_right _ _ (Nat.le_refl _)]; simp
def z3 : List FV := [.sc (.int .i64 0), .sc (.int .i64 0), .sc (.int .i64 0)]
def nearF (many : Nat) (l : List Pc) : List Pc := l.filter fun p => !farB many p
omit hv in
theorem idxF_some {α : Type} (P : α → Bool) : ∀ (l : List α) (i : Nat), 0 ≤ idxF P l i → ∃ pre x r, l = pre ++ x :: r ∧ (∀ y ∈ pre, P y = false) ∧ P x = true ∧ idxF P l i = ((i + pre.length : Nat) : Int)
  | [], i, h => by simp [idxF] at h
  | x :: r, i, h => by
    unfold idxF at h ⊢
    cases hx : P x with
    | true => exact ⟨[], x, r, rfl, by simp, hx, by simp⟩
    | false =>
      rw [hx] at h
      simp only [Bool.false_eq_true, if_false] at h ⊢
      have e : ((i : Int) + 1) = ((i + 1 : Nat) : Int) := by omega
      rw [e] at h ⊢
      obtain ⟨pre, y, q, h1, h2, h3, h4⟩ := idxF_some P r (i + 1) h
      refine ⟨x :: pre, y, q, by simp [h1], ?_, h3, ?_⟩
      · intro z hz
        rcases List.mem_cons.1 hz with rfl | hz
        · exact hx
        · exact h2 z hz
      · rw [h4]; simp; omega
omit hv in
theorem idxF_none {α : Type} (P : α → Bool) : ∀ (l : List α) (i : Int), 0 ≤ i → idxF P l i < 0 → idxF P l i = -1 ∧ ∀ y ∈ l, P y = false
  | [], i, h, _ => by simp [idxF]
  | x :: r, i, h, h2 => by
    unfold idxF at h2 ⊢
    cases hx : P x with
    | true => rw [hx] at h2; simp at h2; omega
    | false =>
      rw [hx] at h2
      simp only [Bool.false_eq_true, if_false] at h2 ⊢
      obtain ⟨h3, h4⟩ := idxF_none P r (i + 1) (by omega) h2
      refine ⟨h3, fun y hy => ?_⟩
      rcases List.mem_cons.1 hy with rfl | hy
      · exact hx
      · exact h4 y hy
def S94 (many : Nat) (a : List Pc × List Pc × List Pc) : St :=
  { sl := [(0, .osl 0 3 0 (a.1.length + a.2.1.length + a.2.2.length)), (1, .fn 95 [.bp 1 0]), (5, i64 a.1.length), (6, i64 (a.1.length + a.2.1.length : Nat))],
    hp := [(0, some (.arr 3 (a.1.map ePc ++ (a.2.1.map ePc ++ a.2.2.map ePc)))), (1, some (.box [i64 many]))], nx := 2 }
set_option maxHeartbeats 1000000 in
theorem run_94 (many : Nat) (l : List Pc) (h : l.length < 1000000000000) :
    v.run 94 [.osl 0 3 0 l.length, .fn 95 [.bp 1 0]] [some (.arr 3 (l.map ePc)), some (.box [i64 many])] = some (.osl 0 3 0 (nearF many l).length, [some (.arr 3 ((nearF many l).map ePc ++ List.replicate (l.length - (nearF many l).length) z3)), some (.box [i64 many])]) := by
  have h1 := run_102b hv many l h
  rcases Int.lt_or_le (idxF (farB many) l 0) 0 with hn | hn
  · obtain ⟨e1, e2⟩ := idxF_none _ l 0 (by omega) hn
    have e3 : nearF many l = l := List.filter_eq_self.2 fun y hy => by simp [e2 y hy]
    rw [e3]
    rw [e1] at h1
    refine run_wp (by rw [hv]; exact rfl) ?_
    simp -dsimp -implicitDefEqProofs (maxSteps := 1000000) (disch := omega) [condP_pos, condP_neg, optP_pos, decide_eq_true, decide_eq_false, wrap_i64, Int.natCast_inj, h1]
  · obtain ⟨pre, x, r, rfl, e2, e3, e4⟩ := idxF_some _ l 0 hn
    have e4' : idxF (farB many) (pre ++ x :: r) 0 = ((pre.length : Nat) : Int) := by simpa using e4
    rw [e4'] at h1
    simp only [List.length_append, List.length_cons, List.map_append, List.map_cons] at h1
    simp at h
    have hf : nearF many (pre ++ x :: r) = pre ++ nearF many r := by
      unfold nearF
      rw [List.filter_append, List.filter_cons]
      simp only [e3, Bool.not_true, Bool.false_eq_true, if_false]
      rw [List.filter_eq_self.2 fun y hy => by simp [e2 y hy]]
    refine run_wp (by rw [hv]; exact rfl) ?_
    simp -dsimp -implicitDefEqProofs (maxSteps := 1000000) (disch := omega) [condP_pos, condP_neg, optP_pos, decide_eq_true, decide_eq_false, wrap_i64, Int.natCast_inj, h1]
    refine wp_inv (S94 many) (fun a => a.1 ++ nearF many a.2.2 = nearF many (pre ++ x :: r) ∧ a.1.length + a.2.1.length + a.2.2.length = (pre ++ x :: r).length ∧ 0 < a.2.1.length) (fun a => a.2.2.length) (pre, [x], r) ⟨hf.symm, by simp; omega, by simp⟩ (by simp -dsimp -implicitDefEqProofs (maxSteps := 1000000) (disch := omega) [condP_pos, condP_neg, optP_pos, decide_eq_true, decide_eq_false, wrap_i64, Int.natCast_inj, S94]; omega) ?_
    rintro ⟨kp, mid, rest⟩ ⟨f1, f2, f3⟩
    simp only at f1 f2 f3
    cases mid with
    | nil => simp at f3
    | cons m ms =>
    have f2' := f2
    simp at f2'
    cases rest with
    | nil =>
      have f1' : kp = nearF many (pre ++ x :: r) := by rw [← f1]; simp [nearF]
      rw [← f1', ← f2]
      simp -dsimp -implicitDefEqProofs (maxSteps := 1000000) (disch := omega) [condP_pos, condP_neg, optP_pos, decide_eq_true, decide_eq_false, wrap_i64, Int.natCast_inj, S94, pureOp_slc1, pureOp_slc2]
      have q1 : ((kp.length : Int) + ((ms.length : Int) + 1)).toNat = (kp.map ePc ++ ePc m :: ms.map ePc).length := by simp; omega
      have q2 : ((kp.length : Int) + ((ms.length : Int) + 1)).toNat - kp.length = ms.length + 1 := by omega
      have q3 : (kp.map ePc ++ ePc m :: ms.map ePc).take kp.length = kp.map ePc := by
        have : kp.length = (kp.map ePc).length := by simp
        rw [this, List.take_left]
      rw [q2, q1, List.drop_length, q3]
      simp [z3]
    | cons p rest =>
      have h2 := run_95 hv many p
      simp at f2'
      cases hp : farB many p with
      | true =>
        rw [hp] at h2
        simp -dsimp -implicitDefEqProofs (maxSteps := 1000000) (disch := omega) [condP_pos, condP_neg, optP_pos, decide_eq_true, decide_eq_false, wrap_i64, Int.natCast_inj, S94, h2, ePc, get_two]
        refine again (kp, m :: ms ++ [p], rest) ⟨by simpa [nearF, List.filter_cons, hp] using f1, by simp; omega, by simp⟩ (by simp) ?_
        simp -dsimp -implicitDefEqProofs (maxSteps := 1000000) (disch := omega) [condP_pos, condP_neg, optP_pos, decide_eq_true, decide_eq_false, wrap_i64, Int.natCast_inj, S94, ePc]
        try omega
      | false =>
        rw [hp] at h2
        simp -dsimp -implicitDefEqProofs (maxSteps := 1000000) (disch := omega) [condP_pos, condP_neg, optP_pos, decide_eq_true, decide_eq_false, wrap_i64, Int.natCast_inj, S94, h2, ePc, get_two]
        refine again (kp ++ [p], ms ++ [p], rest) ⟨by simpa [nearF, List.filter_cons, hp] using f1, by simp; omega, by simp⟩ (by simp) ?_
        simp -dsimp -implicitDefEqProofs (maxSteps := 1000000) (disch := omega) [condP_pos, condP_neg, optP_pos, decide_eq_true, decide_eq_false, wrap_i64, Int.natCast_inj, S94, ePc, set_map_mid]
        omega
end Go.Vai

set_option linter.unusedVariables false
set_option linter.unusedSimpArgs false
set_option linter.unnecessarySimpa false
set_option linter.unusedSectionVars false
namespace Go.Vai
theorem wp_rng {v : Env} {m : Nat} {α : Type} (S : α → St) (I : α → Prop) (μ : α → Nat) (r : Ex × St) {live : List Nat} {nx more it out : Nat} {b k : LCode} {live2 : List Nat} {Q : Ex → St → Prop} {w : Wit (LCode.rng live nx more it out b k live2, Q)} (a : α) {st : St} (ha : I a) (hs : norm m live st = S a) (hQ : Q r.1 r.2)
    (h : ∀ a, I a → ∃ h, rngHead (S a) it = some h ∧ (h.left = [] → v.wp m k (rngOver (S a) nx more) (fun e s => (e, norm m live2 s) = r) .mk) ∧ (∀ p, p ∈ h.left → v.wp m b (rngTake (S a) nx more h p) (fun e s => e = .nor ∧ ∃ a', I a' ∧ μ a' < μ a ∧ norm m live s = S a') .mk)) : v.wp m (.rng live nx more it out b k live2) st Q w := by
  have key : ∀ (n : Nat) (a : α), μ a < n → I a → ∀ st, norm m live st = S a → rngR m live nx more it (fun s => v.ex m b s) (fun s => finR m live2 (v.ex m k s)) n st r := by
    intro n
    induction n with
    | zero => intro a h; omega
    | succ n ih =>
      intro a hn ha st hs
      obtain ⟨hd, h1, h2, h3⟩ := h a ha
      refine ⟨hd, by rw [hs]; exact h1, fun e => ?_, fun p hp => ?_⟩
      · rw [hs]
        obtain ⟨e1, s1, g1, g2⟩ := h2 e
        simp only at g2 ⊢
        rw [g1]
        simp only [finR]
        rw [g2]
      · rw [hs]
        obtain ⟨e1, s1, g1, rfl, a', g2, g3, g4⟩ := h3 p hp
        exact ⟨s1, g1, ih a' (by omega) g2 s1 g4⟩
  exact ⟨r.1, r.2, v.ex_rng m (key (μ a + 1) a (by omega) ha st hs), hQ⟩
def mput : List Pt → Pt → List Pt
  | [], p => [p]
  | q :: r, p => if q.1 = p.1 then (q.1, p.2) :: r else q :: mput r p
def mapE : Nat → List Pt → List (Nat × Value × FV)
  | _, [] => []
  | i, p :: r => (i, .int .i64 p.1, .sc (.int .i64 p.2)) :: mapE (i + 1) r
theorem mset_of (p : Pt) : ∀ (M : List Pt) (i j : Nat),
    (∃ n y, findM 0 (.int .i64 p.1) (mapE i M) j = some (some (j + n, y)) ∧ (mapE i M).modify n (fun q => (q.1, .int .i64 p.1, .sc (.int .i64 p.2))) = mapE i (mput M p) ∧ (mput M p).length = M.length)
    ∨ (findM 0 (.int .i64 p.1) (mapE i M) j = some none ∧ mapE i M ++ [(i + M.length, .int .i64 p.1, .sc (.int .i64 p.2))] = mapE i (mput M p) ∧ (mput M p).length = M.length + 1)
  | [], i, j => .inr ⟨rfl, by simp [mapE, mput], by simp [mput]⟩
  | q :: r, i, j => by
    by_cases e : q.1 = p.1
    · exact .inl ⟨0, .sc (.int .i64 q.2), by simp [findM, mapE, eqK, e], by simp [mapE, mput, e], by simp [mput, e]⟩
    · have e' : ¬ p.1 = q.1 := fun h => e h.symm
      rcases mset_of p r (i + 1) (j + 1) with ⟨n, y, h1, h2, h3⟩ | ⟨h1, h2, h3⟩
      · exact .inl ⟨n + 1, y, by simp [findM, mapE, eqK, e', h1]; omega, by simp [mapE, mput, e, h2], by simp [mput, e, h3]⟩
      · refine .inr ⟨by simp [findM, mapE, eqK, e', h1], ?_, by simp [mput, e, h3]⟩
        simp only [mput, e, if_false, mapE, ← h2, List.cons_append, List.length_cons]
        rw [show i + 1 + r.length = i + (r.length + 1) by omega]
theorem mapE_born : ∀ (M : List Pt) (i : Nat), (mapE i M).map (·.1) = List.range' i M.length
  | [], i => rfl
  | p :: r, i => by simp [mapE, mapE_born r (i + 1), List.range'_succ]
@[simp] theorem mapE_len : ∀ (M : List Pt) (i : Nat), (mapE i M).length = M.length
  | [], i => rfl
  | p :: r, i => by simp [mapE, mapE_len r (i + 1)]
theorem mapE_mem : ∀ (M : List Pt) (i : Nat) (x : Nat × Value × FV), x ∈ mapE i M → ∃ n p, M[n]? = some p ∧ x = (i + n, .int .i64 p.1, .sc (.int .i64 p.2))
  | [], i, x, h => by cases h
  | p :: r, i, x, h => by
    rcases List.mem_cons.1 h with rfl | h
    · exact ⟨0, p, rfl, rfl⟩
    · obtain ⟨n, q, h1, rfl⟩ := mapE_mem r (i + 1) x h
      exact ⟨n + 1, q, h1, by rw [show i + 1 + n = i + (n + 1) by omega]⟩
theorem mapE_get : ∀ (M : List Pt) (i n : Nat) (p : Pt), M[n]? = some p → (i + n, Value.int .i64 p.1, FV.sc (.int .i64 p.2)) ∈ mapE i M
  | [], i, n, p, h => by simp at h
  | q :: r, i, 0, p, h => by simp at h; subst h; simp [mapE]
  | q :: r, i, n + 1, p, h => by
    simp at h
    have := mapE_get r (i + 1) n p h
    rw [show i + 1 + n = i + (n + 1) by omega] at this
    exact List.mem_cons_of_mem _ this
theorem mapE_find : ∀ (M : List Pt) (i n : Nat) (p : Pt), M[n]? = some p → (mapE i M).find? (fun x => x.1 == i + n) = some (i + n, Value.int .i64 p.1, FV.sc (.int .i64 p.2))
  | [], i, n, p, h => by simp at h
  | q :: r, i, 0, p, h => by simp at h; subst h; simp [mapE]
  | q :: r, i, n + 1, p, h => by
    simp at h
    have := mapE_find r (i + 1) n p h
    rw [show i + 1 + n = i + (n + 1) by omega] at this
    have e : ¬ i = i + (n + 1) := by omega
    simp [mapE, List.find?_cons, e, this]
theorem mput_keys (p : Pt) : ∀ M : List Pt, ((mput M p).map (·.1)) = if p.1 ∈ M.map (·.1) then M.map (·.1) else M.map (·.1) ++ [p.1]
  | [] => by simp [mput]
  | q :: r => by
    by_cases e : q.1 = p.1
    · simp [mput, e]
    · have e' : ¬ p.1 = q.1 := fun h => e h.symm
      simp only [mput, e, if_false, List.map_cons, mput_keys p r, List.mem_cons, e', false_or]
      split <;> simp
theorem mput_nodup {M : List Pt} (h : (M.map (·.1)).Nodup) (p : Pt) : ((mput M p).map (·.1)).Nodup := by
  rw [mput_keys]
  split
  · exact h
  · rename_i hn
    rw [List.nodup_append]
    refine ⟨h, by simp, ?_⟩
    intro a ha b hb e
    simp at hb
    subst hb; subst e
    exact hn ha
theorem mput_mem {M : List Pt} {p x : Pt} (h : x ∈ mput M p) : x ∈ M ∨ x = p := by
  induction M with
  | nil => simp [mput] at h; exact .inr h
  | cons q r ih =>
    simp only [mput] at h
    split at h
    · rename_i e
      rcases List.mem_cons.1 h with rfl | h
      · right; rw [Prod.ext_iff]; exact ⟨e, rfl⟩
      · exact .inl (List.mem_cons_of_mem _ h)
    · rcases List.mem_cons.1 h with rfl | h
      · exact .inl (by simp)
      · rcases ih h with h | h
        · exact .inl (List.mem_cons_of_mem _ h)
        · exact .inr h
def sortP (l : List Pt) : List Pt := l.mergeSort fun a b => decide (a.1 ≤ b.1)
theorem sortP_perm (l : List Pt) : (sortP l).Perm l := List.mergeSort_perm _ _
theorem sortP_le (l : List Pt) : (sortP l).Pairwise fun a b => a.1 ≤ b.1 :=
  (List.pairwise_mergeSort (le := fun a b : Pt => decide (a.1 ≤ b.1)) (fun a b c h1 h2 => by simp at *; omega) (fun a b => by simp; omega) l).imp (by simp)
theorem lt_uniq : ∀ {l k : List Pt}, l.Perm k → (l.Pairwise fun a b => a.1 < b.1) → (k.Pairwise fun a b => a.1 < b.1) → l = k
  | [], k, hp, _, _ => (List.nil_perm.1 hp).symm
  | a :: l, [], hp, _, _ => by have := hp.length_eq; simp at this
  | a :: l, b :: k, hp, h1, h2 => by
    have ha : a ∈ b :: k := hp.subset (by simp)
    have hb : b ∈ a :: l := hp.symm.subset (by simp)
    rw [List.pairwise_cons] at h1 h2
    have e : a = b := by
      rcases List.mem_cons.1 ha with rfl | ha
      · rfl
      · rcases List.mem_cons.1 hb with rfl | hb
        · rfl
        · have := h1.1 b hb; have := h2.1 a ha; omega
    subst e
    rw [lt_uniq (List.perm_cons a |>.1 hp) h1.2 h2.2]
theorem le_lt {l : List Pt} (h : l.Pairwise fun a b => a.1 ≤ b.1) (hn : (l.map (·.1)).Nodup) : l.Pairwise fun a b => a.1 < b.1 := by
  rw [List.Nodup, List.pairwise_map] at hn
  exact h.imp₂ (fun a b h1 h2 => by omega) hn
theorem sortP_uniq {l k : List Pt} (hp : l.Perm k) (hn : (k.map (·.1)).Nodup) (hs : l.Pairwise fun a b => a.1 ≤ b.1) : l = sortP k := by
  have h1 : (l.map (·.1)).Nodup := (hp.map _).nodup_iff.2 hn
  have h2 : ((sortP k).map (·.1)).Nodup := ((sortP_perm k).map _).nodup_iff.2 hn
  exact lt_uniq (hp.trans (sortP_perm k).symm) (le_lt hs h1) (le_lt (sortP_le k) h2)
theorem sortP_congr {l k : List Pt} (hp : l.Perm k) (hn : (k.map (·.1)).Nodup) : sortP l = sortP k :=
  sortP_uniq ((sortP_perm l).trans hp) hn (sortP_le l)
def decP : List FV → Option Pt
  | [.sc (.int .i64 a), .sc (.int .i64 b)] => some (a, b)
  | _ => none
def decPs : List (List FV) → Option (List Pt)
  | [] => some []
  | c :: r => match decP c, decPs r with
    | some p, some l => some (p :: l)
    | _, _ => none
theorem decPs_map : ∀ l : List Pt, decPs (l.map ePt) = some l
  | [] => rfl
  | p :: r => by simp [decPs, decP, ePt, decPs_map r]
theorem decPs_some : ∀ {es : List (List FV)} {l : List Pt}, decPs es = some l → es = l.map ePt
  | [], l, h => by simp [decPs] at h; subst h; rfl
  | c :: r, l, h => by
    simp only [decPs] at h
    split at h
    · rename_i p q h1 h2
      injection h with h; subst h
      have := decPs_some h2
      unfold decP at h1
      split at h1
      · injection h1 with h1; subst h1; simp [ePt, this]
      · cases h1
    · cases h
def keysOk (l : List Pt) : Prop := (l.map (·.1)).Nodup ∧ (∀ p ∈ l, 0 ≤ p.1 ∧ p.1 ≤ 1114111) ∧ l.length < 1000000000
instance (l : List Pt) : Decidable (keysOk l) := by unfold keysOk; infer_instance
def E96 : RF := fun f xs bl => if f = 96 then (match xs, bl with
  | [.osl 0 2 0 n, .fn 97 []], [some (.arr 2 es)] => match decPs es with
    | some l => if n = l.length ∧ keysOk l then some (.tup [], [some (.arr 2 ((sortP l).map ePt))]) else none
    | none => none
  | _, _ => none) else none
theorem E96_run (l : List Pt) (h : keysOk l) : E96 96 [.osl 0 2 0 l.length, .fn 97 []] [some (.arr 2 (l.map ePt))] = some (.tup [], [some (.arr 2 ((sortP l).map ePt))]) := by
  simp [E96, decPs_map, h]
end Go.Vai

set_option linter.unusedVariables false
set_option linter.unusedSimpArgs false
set_option linter.unnecessarySimpa false
set_option linter.unusedSectionVars false
namespace Go.Vai
def cutG (many : Nat) (g : Gl) : Gl := (g.1, g.2.1, nearF many g.2.2)
def keepP (many : Nat) (p : Pt) : Bool := decide (p.1 ≤ 1114111) && decide (p.2 < many)
def mapOf (many : Nat) (ps : List Pt) : List Pt := ps.foldl (fun M p => if keepP many p = true then mput M p else M) []
@[simp] theorem namesLL_cut (many : Nat) (gs : List Gl) : AV.namesLL (gs.map (rGl ∘ cutG many)) = [] := by rw [← List.map_map]; exact namesLL_rGl _
@[simp] theorem renLL_cut (ρ : Nat → Option Nat) (many : Nat) (gs : List Gl) : AV.renLL ρ (gs.map (rGl ∘ cutG many)) = gs.map (rGl ∘ cutG many) := by rw [← List.map_map]; exact renLL_rGl _ _
theorem take_app_len {α β : Type} (f : α → β) (l : List α) (r : List β) : (l.map f ++ r).take l.length = l.map f := by
  have e : l.length = (l.map f).length := by simp
  rw [e, List.take_left]
theorem mapE_all (M : List Pt) : ((mapE 0 M).all fun p => decide (p.1 < M.length)) = true := by
  rw [List.all_eq_true]
  intro x hx
  obtain ⟨n, p, h1, rfl⟩ := mapE_mem M 0 x hx
  have := (List.getElem?_eq_some_iff.1 h1).1
  simp; omega
theorem mapE_all2 (M : List Pt) : ((mapE 0 M).all fun p => decide (p.1 < M.length) && leafV p.2.1) = true := by
  rw [List.all_eq_true]
  intro x hx
  obtain ⟨n, p, h1, rfl⟩ := mapE_mem M 0 x hx
  have := (List.getElem?_eq_some_iff.1 h1).1
  simp [leafV, leaf]; omega
theorem mapE_nodup (M : List Pt) : ((mapE 0 M).map fun p => p.1).Nodup := by
  have := mapE_born M 0
  rw [this]; exact List.nodup_range' ..
def atM (M : List Pt) (i : Nat) : Pt := M.getD i (0, 0)
theorem atM_of {M : List Pt} {n : Nat} {p : Pt} (h : M[n]? = some p) : atM M n = p := by simp [atM, h]
theorem left_none (M : List Pt) (L : List Nat) (hn : L.Nodup) (hl : ∀ i ∈ L, i < M.length) (h : ((mapE 0 M).filter fun p => !L.contains p.1) = []) : (L.map (atM M)).Perm M := by
  have hp : L.Perm (List.range M.length) := by
    refine (List.perm_ext_iff_of_nodup hn List.nodup_range).2 fun i => ⟨fun hi => List.mem_range.2 (hl i hi), fun hi => ?_⟩
    rw [List.mem_range] at hi
    have hx := mapE_get M 0 i M[i] (List.getElem?_eq_getElem hi)
    rw [List.filter_eq_nil_iff] at h
    have := h _ hx
    simpa using this
  have h2 := hp.map (atM M)
  have h3 : ((List.range M.length).map (atM M)) = M := by
    apply List.ext_getElem
    · simp
    · intro i h1 h2
      simp at h1
      simp [atM, h1]
  rw [h3] at h2
  exact h2
variable {v : Env} (hv : v.T = Tt)
include hv
def S76a (b : List UInt8) (at' : Nat) (br : Bool) (ps : List Pt) (many : Nat) (a : List Gl × List Gl) : St :=
  { sl := [(0, .bp 0 0), (2, .bp 4 0), (21, i64 (a.1 ++ a.2).length), (22, i64 a.1.length)],
    hp := [(0, some (.box [bs b, i64 at', bo br, .osl 1 3 0 (a.1 ++ a.2).length, .osl 3 2 0 0, .osl 2 2 0 ps.length])), (1, some (.row 3 (((a.1.map (cutG many)).map rGl) ++ a.2.map rGl))), (2, some (.arr 2 (ps.map ePt))), (3, some (.arr 2 [])), (4, some (.box [i64 many]))], nx := 5 }
def S76b (b : List UInt8) (at' : Nat) (br : Bool) (gs : List Gl) (many : Nat) (a : List Pt × List Pt × List Pt) : St :=
  { sl := [(0, .bp 0 0), (2, .bp 4 0), (5, .mp 5), (46, .osl 2 2 0 (a.1 ++ a.2.1).length), (47, i64 (a.1 ++ a.2.1).length), (48, i64 a.1.length)],
    hp := [(0, some (.box [bs b, i64 at', bo br, .osl 1 3 0 gs.length, .osl 3 2 0 0, .osl 2 2 0 (a.1 ++ a.2.1).length])), (1, some (.row 3 ((gs.map (cutG many)).map rGl))), (2, some (.arr 2 ((a.1 ++ a.2.1).map ePt))), (3, some (.arr 2 [])), (4, some (.box [i64 many])), (5, some (.map (mapE 0 a.2.2) a.2.2.length))], nx := 6 }
def S76c (b : List UInt8) (at' : Nat) (br : Bool) (gs : List Gl) (many : Nat) (ps : List Pt) (M : List Pt) (L : List Nat) : St :=
  { sl := [(0, .bp 0 0), (68, .bp 4 0)],
    hp := [(0, some (.box [bs b, i64 at', bo br, .osl 1 3 0 gs.length, .osl 3 2 0 L.length, .osl 2 2 0 ps.length])), (1, some (.row 3 ((gs.map (cutG many)).map rGl))), (2, some (.arr 2 (ps.map ePt))), (3, some (.arr 2 ((L.map (atM M)).map ePt))), (4, some (.iter (some 5) M.length L M.length)), (5, some (.map (mapE 0 M) M.length))], nx := 6 }
omit hv in
theorem keys_len {M : List Pt} (h : (M.map (·.1)).Nodup) (hr : ∀ p ∈ M, 0 ≤ p.1 ∧ p.1 ≤ 1114111) : M.length ≤ 1114112 := by
  have h1 : (M.map fun p => p.1.toNat).Nodup := by
    rw [List.Nodup, List.pairwise_map] at h ⊢
    refine List.Pairwise.imp_of_mem (fun ha hb e => ?_) h
    have := hr _ ha; have := hr _ hb
    intro e2; apply e; omega
  have h2 := h1.length_le_of_subset (l₂ := List.range 1114112) (fun i hi => by
    obtain ⟨p, hp, rfl⟩ := List.mem_map.1 hi
    have := hr p hp
    exact List.mem_range.2 (by omega))
  simpa using h2
def stepM (many : Nat) (M : List Pt) (p : Pt) : List Pt := if keepP many p = true then mput M p else M
set_option maxHeartbeats 4000000 in
theorem run_76 (b : List UInt8) (at' : Nat) (br : Bool) (gs : List Gl) (ps : List Pt) (hg : gs.length < 1000000000) (hpc : ∀ g ∈ gs, g.2.2.length < 1000000000000) (hp : ps.length < 1000000000000) (hk : ∀ p ∈ ps, 0 ≤ p.1)
    (hE : ∀ l, keysOk l → v.E 96 [.osl 0 2 0 l.length, .fn 97 []] [some (.arr 2 (l.map ePt))] = some (.tup [], [some (.arr 2 ((sortP l).map ePt))])) :
    v.run 76 [.bp 0 0] (rb b at' br gs ps) = some (.tup [], [some (.box [bs b, i64 at', bo br, .osl 1 3 0 gs.length, .osl 3 2 0 (mapOf gs.length ps).length, .osl 2 2 0 ps.length]), some (.row 3 ((gs.map (cutG gs.length)).map rGl)), some (.arr 2 (ps.map ePt)), some (.arr 2 ((sortP (mapOf gs.length ps)).map ePt))]) := by
  generalize hmany : gs.length = many
  refine run_wp (by rw [hv]; exact rfl) ?_
  simp -dsimp -implicitDefEqProofs (maxSteps := 1000000) (disch := omega) [condP_pos, condP_neg, optP_pos, decide_eq_true, decide_eq_false, wrap_i64, Int.natCast_inj, rb, hmany]
  refine wp_inv (S76a b at' br ps many) (fun a => a.1 ++ a.2 = gs) (fun a => a.2.length) ([], gs) rfl (by simp -dsimp -implicitDefEqProofs (maxSteps := 1000000) (disch := omega) [condP_pos, condP_neg, optP_pos, decide_eq_true, decide_eq_false, wrap_i64, Int.natCast_inj, S76a, rb, hmany]) ?_
  rintro ⟨pre, rest⟩ e
  simp only at e
  subst e
  simp at hg
  cases rest with
  | cons g rest =>
    have h1 := run_94 hv many g.2.2 (hpc g (by simp))
    simp at hg
    simp -dsimp -implicitDefEqProofs (maxSteps := 1000000) (disch := omega) [condP_pos, condP_neg, optP_pos, decide_eq_true, decide_eq_false, wrap_i64, Int.natCast_inj, S76a, h1, set_map_mid, rGl, take_app_len]
    refine again (pre ++ [g], rest) (by simp) (by simp) ?_
    simp -dsimp -implicitDefEqProofs (maxSteps := 1000000) (disch := omega) [condP_pos, condP_neg, optP_pos, decide_eq_true, decide_eq_false, wrap_i64, Int.natCast_inj, S76a, rGl, cutG]
  | nil =>
    simp -dsimp -implicitDefEqProofs (maxSteps := 1000000) (disch := omega) [condP_pos, condP_neg, optP_pos, decide_eq_true, decide_eq_false, wrap_i64, Int.natCast_inj, S76a]
    simp only [List.append_nil] at *
    refine wp_inv (S76b b at' br pre many) (fun a => a.1 ++ a.2.1 = ps ∧ a.2.1.foldl (stepM many) a.2.2 = mapOf many ps ∧ (a.2.2.map (·.1)).Nodup ∧ (∀ p ∈ a.2.2, 0 ≤ p.1 ∧ p.1 ≤ 1114111) ∧ a.2.2.length ≤ a.1.length) (fun a => a.2.1.length) ([], ps, []) ⟨rfl, rfl, by simp, by simp, by simp⟩ (by simp -dsimp -implicitDefEqProofs (maxSteps := 1000000) (disch := omega) [condP_pos, condP_neg, optP_pos, decide_eq_true, decide_eq_false, wrap_i64, Int.natCast_inj, S76b, mapE]) ?_
    rintro ⟨qs, rest, M⟩ ⟨e1, e2, e3, e4, e5⟩
    simp only at e1 e2 e3 e4 e5
    subst e1
    simp at hp
    cases rest with
    | cons p rest =>
      simp at hp
      have hp0 := hk p (by simp)
      simp only [List.foldl_cons] at e2
      by_cases c1 : p.1 ≤ 1114111
      · by_cases c2 : p.2 < many
        · have hkp : stepM many M p = mput M p := by simp [stepM, keepP, c1, c2]
          rw [hkp] at e2
          rcases mset_of p M 0 0 with ⟨n, y, f1, f2, f3⟩ | ⟨f1, f2, f3⟩
          · simp -dsimp -implicitDefEqProofs (maxSteps := 1000000) (disch := omega) [condP_pos, condP_neg, optP_pos, decide_eq_true, decide_eq_false, wrap_i64, Int.natCast_inj, S76b, ePt, c1, c2, f1, f2]
            refine again (qs ++ [p], rest, mput M p) ⟨by simp, e2, mput_nodup e3 p, fun x hx => (mput_mem hx).elim (e4 x) (fun e => e ▸ ⟨hp0, c1⟩), by simp; omega⟩ (by simp) ?_
            simp -dsimp -implicitDefEqProofs (maxSteps := 1000000) (disch := omega) [condP_pos, condP_neg, optP_pos, decide_eq_true, decide_eq_false, wrap_i64, Int.natCast_inj, S76b, ePt, f3]
          · rw [Nat.zero_add] at f2
            simp -dsimp -implicitDefEqProofs (maxSteps := 1000000) (disch := omega) [condP_pos, condP_neg, optP_pos, decide_eq_true, decide_eq_false, wrap_i64, Int.natCast_inj, S76b, ePt, c1, c2, f1, f2]
            refine again (qs ++ [p], rest, mput M p) ⟨by simp, e2, mput_nodup e3 p, fun x hx => (mput_mem hx).elim (e4 x) (fun e => e ▸ ⟨hp0, c1⟩), by simp; omega⟩ (by simp) ?_
            simp -dsimp -implicitDefEqProofs (maxSteps := 1000000) (disch := omega) [condP_pos, condP_neg, optP_pos, decide_eq_true, decide_eq_false, wrap_i64, Int.natCast_inj, S76b, ePt, f3, ← f2]
        · have hkp : stepM many M p = M := by simp [stepM, keepP, c1, c2]
          rw [hkp] at e2
          simp -dsimp -implicitDefEqProofs (maxSteps := 1000000) (disch := omega) [condP_pos, condP_neg, optP_pos, decide_eq_true, decide_eq_false, wrap_i64, Int.natCast_inj, S76b, ePt, c1, c2]
          refine again (qs ++ [p], rest, M) ⟨by simp, e2, e3, e4, by simp; omega⟩ (by simp) ?_
          simp -dsimp -implicitDefEqProofs (maxSteps := 1000000) (disch := omega) [condP_pos, condP_neg, optP_pos, decide_eq_true, decide_eq_false, wrap_i64, Int.natCast_inj, S76b, ePt]
      · have hkp : stepM many M p = M := by simp [stepM, keepP, c1]
        rw [hkp] at e2
        simp -dsimp -implicitDefEqProofs (maxSteps := 1000000) (disch := omega) [condP_pos, condP_neg, optP_pos, decide_eq_true, decide_eq_false, wrap_i64, Int.natCast_inj, S76b, ePt, c1]
        refine again (qs ++ [p], rest, M) ⟨by simp, e2, e3, e4, by simp; omega⟩ (by simp) ?_
        simp -dsimp -implicitDefEqProofs (maxSteps := 1000000) (disch := omega) [condP_pos, condP_neg, optP_pos, decide_eq_true, decide_eq_false, wrap_i64, Int.natCast_inj, S76b, ePt]
    | nil =>
      simp only [List.foldl_nil] at e2
      rw [← e2]
      simp -dsimp -implicitDefEqProofs (maxSteps := 1000000) (disch := omega) [condP_pos, condP_neg, optP_pos, decide_eq_true, decide_eq_false, wrap_i64, Int.natCast_inj, S76b, mapE_nodup, mapE_all]
      simp only [List.append_nil] at *
      simp at hp
      refine wp_rng (S76c b at' br pre many qs M) (fun L => L.Nodup ∧ ∀ i ∈ L, i < M.length) (fun L => M.length - L.length)
        (.nor, { sl := [], hp := numd 0 [some (.box [bs b, i64 at', bo br, .osl 1 3 0 pre.length, .osl 3 2 0 M.length, .osl 2 2 0 qs.length]), some (.row 3 ((pre.map (cutG many)).map rGl)), some (.arr 2 (qs.map ePt)), some (.arr 2 ((sortP M).map ePt))], nx := 4 })
        [] ⟨by simp, by simp⟩ (by simp -dsimp -implicitDefEqProofs (maxSteps := 1000000) (disch := omega) [condP_pos, condP_neg, optP_pos, decide_eq_true, decide_eq_false, wrap_i64, Int.natCast_inj, S76c]) (by simp -dsimp -implicitDefEqProofs (maxSteps := 1000000) (disch := omega) [condP_pos, condP_neg, optP_pos, decide_eq_true, decide_eq_false, wrap_i64, Int.natCast_inj, hmany]) ?_
      rintro L ⟨l1, l2⟩
      refine ⟨⟨4, 5, M.length, L, mapE 0 M, M.length⟩, if_pos ⟨Nat.le_refl _, mapE_all2 M⟩, fun e => ?_, ?_⟩
      · have hpm := left_none M L l1 l2 e
        have hlen : L.length = M.length := by have := hpm.length_eq; simpa using this
        have hko : keysOk (L.map (atM M)) := ⟨(hpm.map _).nodup_iff.2 e3, fun p hp => e4 p (hpm.subset hp), by have := keys_len e3 e4; simp; omega⟩
        have h96 := hE _ hko
        rw [← v.run_ext (f := 96) (by rw [hv]; rfl), sortP_congr hpm e3] at h96
        simp only [List.length_map, List.map_map, hlen] at h96
        simp -dsimp -implicitDefEqProofs (maxSteps := 1000000) (disch := omega) [condP_pos, condP_neg, optP_pos, decide_eq_true, decide_eq_false, wrap_i64, Int.natCast_inj, rngOver, S76c, h96, hlen]
      · rintro ⟨n, kv, y⟩ hmem
        simp only [RHead.left, List.mem_filter] at hmem
        obtain ⟨hm1, hm2⟩ := hmem
        obtain ⟨n', p, hn, hx⟩ := mapE_mem M 0 _ hm1
        injection hx with x1 hx
        injection hx with x2 x3
        rw [Nat.zero_add] at x1
        subst x1; subst x2; subst x3
        have hnl := (List.getElem?_eq_some_iff.1 hn).1
        have hfind := mapE_find M 0 n p hn
        rw [Nat.zero_add] at hfind
        have hnL : n ∉ L := by simpa using hm2
        have hLl : L.length < M.length := by
          have := (List.nodup_cons.2 ⟨hnL, l1⟩).length_le_of_subset (l₂ := List.range M.length) (fun i hi => by
            rcases List.mem_cons.1 hi with rfl | hi
            · exact List.mem_range.2 hnl
            · exact List.mem_range.2 (l2 i hi))
          simp at this; omega
        simp -dsimp -implicitDefEqProofs (maxSteps := 1000000) (disch := omega) [condP_pos, condP_neg, optP_pos, decide_eq_true, decide_eq_false, wrap_i64, Int.natCast_inj, rngTake, S76c, hfind, leafV]
        refine ⟨L ++ [n], ⟨?_, ?_⟩, by simp; omega, by simp, by simp [atM_of hn, ePt], rfl⟩
        · rw [List.nodup_append]
          refine ⟨l1, by simp, fun a ha b hb e => ?_⟩
          simp at hb; subst hb; subst e; exact hnL ha
        · intro i hi
          rcases List.mem_append.1 hi with hi | hi
          · exact l2 i hi
          · simp at hi; omega
end Go.Vai

set_option linter.unusedVariables false
set_option linter.unusedSimpArgs false
set_option linter.unnecessarySimpa false
set_option linter.unusedSectionVars false
namespace Go.Vai
def sgn : List UInt8 := [102, 111, 110, 116, 32, 49, 10]
def recV (b : List UInt8) : Nat → Cu → List Gl → List Pt → List Gl × List Pt
  | 0, _, gs, ps => (gs, ps)
  | n + 1, c, gs, ps => if c.1 < b.length then
      (if b[c.1]! = 103 then recV b n (glV b (c.1 + 1, c.2)).2 (putG gs (glV b (c.1 + 1, c.2)).1) ps
      else if b[c.1]! = 109 then recV b n (mpV b (c.1 + 1, c.2)).2 gs (putP ps (mpV b (c.1 + 1, c.2)).1 (mpV b (c.1 + 1, c.2)).2.2)
      else recV b n (c.1 + 1, c.2) gs ps)
    else (gs, ps)
def endV (x : List Gl × List Pt) : Font := (x.1.map (cutG x.1.length), sortP (mapOf x.1.length x.2))
def readV (b : List UInt8) : Font := endV (recV b b.length (7, false) [] [])
def readG (b : List UInt8) (left : Int) : Font × Int × Int :=
  if b.length < 7 ∨ b.take 7 ≠ sgn then (([], []), max left 0, 50)
  else if max left 0 < b.length then (([], []), 0, 1)
  else (readV b, max left 0 - b.length, 0)
def gsOk (gs : List Gl) : Prop := gs.length ≤ 1000 ∧ ∀ g ∈ gs, g.2.2.length ≤ 255
theorem glV_ok {b : List UInt8} {c : Cu} (h : okC b c) : okC b (glV b c).2 ∧ c.1 ≤ (glV b c).2.1 ∧ (glV b c).1.2.2.length ≤ 255 := by
  obtain ⟨h1, h2⟩ := sgV_ok h
  obtain ⟨h3, h4⟩ := tkV_ok h1 1 (by omega)
  obtain ⟨h5, h6, _⟩ := olsV_ok (tkV b (sgV b c.1 c.2).2.1 (sgV b c.1 c.2).2.2 1).1.toNat 0 h3
  unfold glV
  simp only
  generalize olsV b (tkV b (sgV b c.1 c.2).2.1 (sgV b c.1 c.2).2.2 1).1.toNat 0 (tkV b (sgV b c.1 c.2).2.1 (sgV b c.1 c.2).2.2 1).2 = o at *
  obtain ⟨h7, h8⟩ := tkV_ok h5 1 (by omega)
  obtain ⟨k1, k2, _⟩ := tkV_b b o.2.1 o.2.2 1 h5.1 (by omega)
  obtain ⟨h9, h10, h11⟩ := pcsV_ok (tkV b o.2.1 o.2.2 1).1.toNat 0 h7
  refine ⟨h9, by omega, ?_⟩
  simp at k2
  omega
theorem mpV_ok {b : List UInt8} {c : Cu} (h : okC b c) : okC b (mpV b c).2 ∧ c.1 ≤ (mpV b c).2.1 ∧ 0 ≤ (mpV b c).1.1 := by
  obtain ⟨h1, h2⟩ := tkV_ok h 3 (by omega)
  obtain ⟨k1, _⟩ := tkV_b b c.1 c.2 3 h.1 (by omega)
  obtain ⟨h3, h4⟩ := tkV_ok h1 2 (by omega)
  exact ⟨h3, by unfold mpV; simp only; omega, k1⟩
theorem recV_fuel {b : List UInt8} : ∀ (n m : Nat) {c : Cu} (gs : List Gl) (ps : List Pt), okC b c → b.length - c.1 ≤ n → b.length - c.1 ≤ m → recV b n c gs ps = recV b m c gs ps
  | 0, 0, c, gs, ps, _, _, _ => rfl
  | 0, m + 1, c, gs, ps, _, h, _ => by
    have : ¬ c.1 < b.length := by omega
    simp [recV, this]
  | n + 1, 0, c, gs, ps, _, _, h => by
    have : ¬ c.1 < b.length := by omega
    simp [recV, this]
  | n + 1, m + 1, c, gs, ps, hc, h1, h2 => by
    simp only [recV]
    split
    · rename_i hlt
      have hf : c.2 = false := by
        cases h : c.2 with
        | false => rfl
        | true => have := hc.2 h; omega
      have ok1 : okC b (c.1 + 1, c.2) := ⟨by simp only; omega, by rw [hf]; simp⟩
      split
      · obtain ⟨g1, g2, _⟩ := glV_ok ok1
        simp only at g2
        exact recV_fuel n m _ _ g1 (by omega) (by omega)
      · split
        · obtain ⟨g1, g2, _⟩ := mpV_ok ok1
          simp only at g2
          exact recV_fuel n m _ _ g1 (by omega) (by omega)
        · exact recV_fuel n m _ _ ok1 (by simp only; omega) (by simp only; omega)
    · rfl
theorem rowF_cut (f : Gl → Gl) : ∀ gs : List Gl, rowF (gs.map (rGl ∘ f)) = some (gs.map (eGl ∘ f))
  | [] => rfl
  | g :: gs => by simp [rowF, cellsF, cellF, rGl, eGl, rowF_cut f gs]
variable {v : Env} (hv : v.T = Tt)
include hv
def rcd : List (Nat × Value × FV) := [(0, .int .u8 103, .sc (.func (.func 74) #[] #[])), (1, .int .u8 109, .sc (.func (.func 75) #[] #[]))]
def S48 (b : List UInt8) (left : Int) (a : Cu × List Gl × List Pt) : St :=
  { sl := [(0, bs b), (1, i64 left), (4, .bp 0 0), (7, .mp 1), (8, .bp 2 0)],
    hp := [(0, some (.box [.emp, .emp])), (1, some (.map rcd 2)), (2, some (.box [bs b, i64 a.1.1, bo a.1.2, .osl 3 3 0 a.2.1.length, .emp, .osl 4 2 0 a.2.2.length])), (3, some (.row 3 (a.2.1.map rGl))), (4, some (.arr 2 (a.2.2.map ePt)))], nx := 5 }
set_option maxHeartbeats 4000000 in
theorem run_read (hE : ∀ l, keysOk l → v.E 96 [.osl 0 2 0 l.length, .fn 97 []] [some (.arr 2 (l.map ePt))] = some (.tup [], [some (.arr 2 ((sortP l).map ePt))]))
    (b : List UInt8) (left : Int) (hb : b.length < 500000000000) (hl : left ≤ 9223372036854775807) :
    v.run 48 [bs b, i64 left] [] = some (.tup [aFont (readG b left).1, i64 (readG b left).2.1, i64 (readG b left).2.2], []) := by
  unfold readG
  by_cases h7 : b.length < 7
  · rw [if_pos (.inl h7)]
    refine run_wp (by rw [hv]; exact rfl) ?_
    by_cases hl0 : left ≤ 0
    · simp -dsimp -implicitDefEqProofs (maxSteps := 1000000) (disch := omega) [condP_pos, condP_neg, optP_pos, decide_eq_true, decide_eq_false, wrap_i64, Int.natCast_inj, h7, hl0]
    · simp -dsimp -implicitDefEqProofs (maxSteps := 1000000) (disch := omega) [condP_pos, condP_neg, optP_pos, decide_eq_true, decide_eq_false, wrap_i64, Int.natCast_inj, h7, hl0]
  · by_cases hs : b.take 7 = sgn
    · by_cases hw : max left 0 < b.length
      · rw [if_neg (by simp [h7, hs]), if_pos hw]
        refine run_wp (by rw [hv]; exact rfl) ?_
        unfold sgn at hs
        by_cases hl0 : left ≤ 0
        · have hw' : (0 : Int) < b.length := by omega
          simp -dsimp -implicitDefEqProofs (maxSteps := 1000000) (disch := omega) [condP_pos, condP_neg, optP_pos, decide_eq_true, decide_eq_false, wrap_i64, Int.natCast_inj, h7, hl0, hs, hw']
        · have hw' : left < b.length := by omega
          simp -dsimp -implicitDefEqProofs (maxSteps := 1000000) (disch := omega) [condP_pos, condP_neg, optP_pos, decide_eq_true, decide_eq_false, wrap_i64, Int.natCast_inj, h7, hl0, hs, hw']
      · rw [if_neg (by simp [h7, hs]), if_neg hw]
        have hl0 : ¬ left ≤ 0 := by omega
        have hm : max left 0 = left := by omega
        have hw' : ¬ left < b.length := by omega
        refine run_wp (by rw [hv]; exact rfl) ?_
        unfold sgn at hs
        simp -dsimp -implicitDefEqProofs (maxSteps := 1000000) (disch := omega) [condP_pos, condP_neg, optP_pos, decide_eq_true, decide_eq_false, wrap_i64, Int.natCast_inj, h7, hl0, hs, hw']
        rw [hm]
        refine wp_inv (S48 b left) (fun a => okC b a.1 ∧ gsOk a.2.1 ∧ a.2.2.length ≤ b.length ∧ a.2.2.length ≤ a.1.1 ∧ (∀ p ∈ a.2.2, 0 ≤ p.1) ∧ endV (recV b (b.length - a.1.1) a.1 a.2.1 a.2.2) = readV b) (fun a => b.length - a.1.1) ((7, false), [], []) ⟨⟨by simp only; omega, by simp⟩, ⟨by simp, by simp⟩, by simp, by simp, by simp, by unfold readV; rw [recV_fuel _ b.length _ _ ⟨by simp only; omega, by simp⟩ (by simp only; omega) (by simp only; omega)]⟩ (by simp -dsimp -implicitDefEqProofs (maxSteps := 1000000) (disch := omega) [condP_pos, condP_neg, optP_pos, decide_eq_true, decide_eq_false, wrap_i64, Int.natCast_inj, S48, rcd]) ?_
        rintro ⟨c, gs, ps⟩ ⟨e1, e2, e3b, e3, e4, e5⟩
        simp only at e1 e2 e3b e3 e4 e5
        rcases Nat.lt_or_ge c.1 b.length with hc | hc
        · have hx : b[c.1]? = some b[c.1] := List.getElem?_eq_getElem hc
          have hx! : b[c.1]! = b[c.1] := by simp [hc]
          have hcf : c.2 = false := by
            cases h : c.2 with
            | false => rfl
            | true => have := e1.2 h; omega
          obtain ⟨c1, c2⟩ := c
          simp only at *
          subst hcf
          rw [show b.length - c1 = (b.length - c1 - 1) + 1 by omega, recV, if_pos hc, hx!] at e5
          have ok1 : okC b (c1 + 1, false) := ⟨by simp only; omega, by simp⟩
          simp only at e5
          by_cases b1 : b[c1] = 103
          · rw [if_pos b1] at e5
            have hxi : ((b[c1].toNat : Nat) : Int) = 103 := by rw [b1]; rfl
            obtain ⟨bl, h74, hbl⟩ := run_74 hv b (c1 + 1, false) gs ps ok1 (by omega)
            obtain ⟨g1, g2, g3⟩ := glV_ok ok1
            generalize glV b (c1 + 1, false) = q at *
            obtain ⟨g, d⟩ := q
            simp only at *
            unfold rb at h74
            simp only [Int.natCast_add, Int.cast_ofNat_Int] at h74
            rw [recV_fuel _ (b.length - d.1) _ _ g1 (by omega) (by omega)] at e5
            by_cases hgl : gs.length < 1000
            · rw [if_pos hgl] at hbl
              subst hbl
              have hput : putG gs g = gs ++ [g] := if_pos hgl
              rw [hput] at e5
              simp -dsimp -implicitDefEqProofs (maxSteps := 1000000) (disch := omega) [condP_pos, condP_neg, optP_pos, decide_eq_true, decide_eq_false, wrap_i64, Int.natCast_inj, S48, hx, hxi, rcd, h74]
              refine again (d, gs ++ [g], ps) ⟨g1, ⟨by simp; omega, fun x hx => ?_⟩, e3b, by simp only; omega, e4, e5⟩ (by simp only; omega) ?_
              · rcases List.mem_append.1 hx with hx | hx
                · exact e2.2 x hx
                · simp at hx; subst hx; exact g3
              simp -dsimp -implicitDefEqProofs (maxSteps := 1000000) (disch := omega) [condP_pos, condP_neg, optP_pos, decide_eq_true, decide_eq_false, wrap_i64, Int.natCast_inj, S48, rcd]
            · rw [if_neg hgl] at hbl
              subst hbl
              have hput : putG gs g = gs := if_neg hgl
              rw [hput] at e5
              unfold rb at h74
              simp -dsimp -implicitDefEqProofs (maxSteps := 1000000) (disch := omega) [condP_pos, condP_neg, optP_pos, decide_eq_true, decide_eq_false, wrap_i64, Int.natCast_inj, S48, hx, hxi, rcd, h74]
              refine again (d, gs, ps) ⟨g1, e2, e3b, by simp only; omega, e4, e5⟩ (by simp only; omega) ?_
              simp -dsimp -implicitDefEqProofs (maxSteps := 1000000) (disch := omega) [condP_pos, condP_neg, optP_pos, decide_eq_true, decide_eq_false, wrap_i64, Int.natCast_inj, S48, rcd]
          · rw [if_neg b1] at e5
            have hxi : ¬ ((b[c1].toNat : Nat) : Int) = 103 := fun h => b1 (by
              apply UInt8.toNat_inj.1; rw [show (103 : UInt8).toNat = 103 from rfl]; omega)
            by_cases b2 : b[c1] = 109
            · rw [if_pos b2] at e5
              have hxj : ((b[c1].toNat : Nat) : Int) = 109 := by rw [b2]; rfl
              obtain ⟨bl, h75, hbl⟩ := run_75 hv b (c1 + 1, false) gs ps ok1 (by omega) (by omega)
              obtain ⟨g1, g2, g3⟩ := mpV_ok ok1
              generalize mpV b (c1 + 1, false) = q at *
              obtain ⟨p, d1, d2⟩ := q
              simp only at *
              unfold rb at h75
              simp only [Int.natCast_add, Int.cast_ofNat_Int] at h75
              rw [recV_fuel _ (b.length - d1) _ _ g1 (by simp only; omega) (by simp only; omega)] at e5
              cases d2 with
              | true =>
                rw [if_pos rfl] at hbl
                subst hbl
                have hput : putP ps p true = ps := rfl
                rw [hput] at e5
                unfold rb at h75
                simp -dsimp -implicitDefEqProofs (maxSteps := 1000000) (disch := omega) [condP_pos, condP_neg, optP_pos, decide_eq_true, decide_eq_false, wrap_i64, Int.natCast_inj, S48, hx, hxj, rcd, h75]
                refine again ((d1, true), gs, ps) ⟨g1, e2, e3b, by simp only; omega, e4, e5⟩ (by simp only; omega) ?_
                simp -dsimp -implicitDefEqProofs (maxSteps := 1000000) (disch := omega) [condP_pos, condP_neg, optP_pos, decide_eq_true, decide_eq_false, wrap_i64, Int.natCast_inj, S48, rcd]
              | false =>
                rw [if_neg (by simp)] at hbl
                subst hbl
                have hput : putP ps p false = ps ++ [p] := rfl
                rw [hput] at e5
                have hd1 := g1.1
                simp only at hd1
                simp -dsimp -implicitDefEqProofs (maxSteps := 1000000) (disch := omega) [condP_pos, condP_neg, optP_pos, decide_eq_true, decide_eq_false, wrap_i64, Int.natCast_inj, S48, hx, hxj, rcd, h75]
                refine again ((d1, false), gs, ps ++ [p]) ⟨g1, e2, by simp; omega, by simp; omega, fun x hx => ?_, e5⟩ (by simp only; omega) ?_
                · rcases List.mem_append.1 hx with hx | hx
                  · exact e4 x hx
                  · simp at hx; subst hx; exact g3
                simp -dsimp -implicitDefEqProofs (maxSteps := 1000000) (disch := omega) [condP_pos, condP_neg, optP_pos, decide_eq_true, decide_eq_false, wrap_i64, Int.natCast_inj, S48, rcd]
            · rw [if_neg b2] at e5
              have hxj : ¬ ((b[c1].toNat : Nat) : Int) = 109 := fun h => b2 (by
                apply UInt8.toNat_inj.1; rw [show (109 : UInt8).toNat = 109 from rfl]; omega)
              simp -dsimp -implicitDefEqProofs (maxSteps := 1000000) (disch := omega) [condP_pos, condP_neg, optP_pos, decide_eq_true, decide_eq_false, wrap_i64, Int.natCast_inj, S48, hx, hxi, hxj, rcd]
              refine again ((c1 + 1, false), gs, ps) ⟨ok1, e2, e3b, by simp only; omega, e4, e5⟩ (by simp only; omega) ?_
              simp -dsimp -implicitDefEqProofs (maxSteps := 1000000) (disch := omega) [condP_pos, condP_neg, optP_pos, decide_eq_true, decide_eq_false, wrap_i64, Int.natCast_inj, S48, rcd]
        · have h0 : b.length - c.1 = 0 := by omega
          rw [h0, recV] at e5
          have h76 := run_76 hv b c.1 c.2 gs ps (by have := e2.1; omega) (fun g hg => by have := e2.2 g hg; omega) (by omega) e4 hE
          unfold rb at h76
          rw [← e5, endV]
          rw [show (mapOf gs.length ps).length = (sortP (mapOf gs.length ps)).length from (sortP_perm _).length_eq.symm] at h76
          simp only
          generalize sortP (mapOf gs.length ps) = R at *
          simp -dsimp -implicitDefEqProofs (maxSteps := 1000000) (disch := omega) [condP_pos, condP_neg, optP_pos, decide_eq_true, decide_eq_false, wrap_i64, Int.natCast_inj, S48, h76, rowF_cut]
    · rw [if_pos (.inr hs)]
      refine run_wp (by rw [hv]; exact rfl) ?_
      unfold sgn at hs
      by_cases hl0 : left ≤ 0
      · simp -dsimp -implicitDefEqProofs (maxSteps := 1000000) (disch := omega) [condP_pos, condP_neg, optP_pos, decide_eq_true, decide_eq_false, wrap_i64, Int.natCast_inj, h7, hl0, hs]
      · simp -dsimp -implicitDefEqProofs (maxSteps := 1000000) (disch := omega) [condP_pos, condP_neg, optP_pos, decide_eq_true, decide_eq_false, wrap_i64, Int.natCast_inj, h7, hl0, hs]
end Go.Vai
