/-
  What functions of layer 5 and of its reference compute: equations of the abstract run.
-/
import Derived.Test.YtfaomcaimppmeaaDoorGb
import Derived.Test.YtfaomcaimppmeaaDoorGd
set_option linter.unusedVariables false
set_option linter.unusedSimpArgs false
set_option linter.unnecessarySimpa false
set_option linter.unusedSectionVars false
namespace Go.Vai
variable {v : Env} (hv : v.T = Tt)
/-! Glyphs within glyphs. -/
def loV (av : LX → AV) : Option LX → Option Int
  | none => some 0
  | some y => intOf' (av y)
def hiV (av : LX → AV) : Option LX → Option (Option Int)
  | none => some none
  | some y => (intOf' (av y)).map some
def slcV (sz : Nat) (x : AV) (l : Option Int) (h : Option (Option Int)) : Option AV :=
  match l, h with
  | some l, some h => match x with
    | .fz (.sl es) => let h' : Int := h.getD es.length
      if okSz sz es = true ∧ 0 ≤ l ∧ l ≤ h' ∧ h' ≤ es.length then some (.fz (.sl ((es.take h'.toNat).drop l.toNat))) else none
    | .emp => let h' : Int := h.getD 0
      if l = 0 ∧ h' = 0 then some .emp else none
    | .osl b sz' off len => let h' : Int := h.getD len
      if sz' = sz ∧ 0 ≤ l ∧ l ≤ h' ∧ h' ≤ len then some (.osl b sz (off + l.toNat) (h' - l).toNat) else none
    | _ => none
  | _, _ => none
theorem pureOp_slc (av : LX → AV) (sz : Nat) (x : LX) (lo hi : Option LX) : pureOp av (.slc sz x lo hi none) = slcV sz (av x) (loV av lo) (hiV av hi) := by
  cases lo with
  | none =>
    cases hi with
    | none =>
      simp only [pureOp, slcV, loV, hiV]
      generalize av x = w
      cases w with
      | fz y => cases y <;> rfl
      | _ => rfl
    | some b =>
      simp only [pureOp, slcV, loV, hiV]
      cases intOf' (av b) with
      | none => rfl
      | some n =>
        simp only [Option.map]
        generalize av x = w
        cases w with
        | fz y => cases y <;> rfl
        | _ => rfl
  | some a =>
    cases hi with
    | none =>
      simp only [pureOp, slcV, loV, hiV]
      cases intOf' (av a) with
      | none => rfl
      | some n =>
        simp only [Option.map]
        generalize av x = w
        cases w with
        | fz y => cases y <;> rfl
        | _ => rfl
    | some b =>
      simp only [pureOp, slcV, loV, hiV]
      cases intOf' (av a) with
      | none => rfl
      | some n =>
        cases intOf' (av b) with
        | none => rfl
        | some n =>
          simp only [Option.map]
          generalize av x = w
          cases w with
          | fz y => cases y <;> rfl
          | _ => rfl
@[simp] theorem slcV_osl (sz b sz' off len : Nat) (l : Int) (h : Option Int) : slcV sz (.osl b sz' off len) (some l) (some h) = if sz' = sz ∧ 0 ≤ l ∧ l ≤ h.getD len ∧ h.getD len ≤ len then some (.osl b sz (off + l.toNat) (h.getD len - l).toNat) else none := rfl
@[simp] theorem slcV_fz (sz : Nat) (es : List (List FV)) (l : Int) (h : Option Int) : slcV sz (.fz (.sl es)) (some l) (some h) = if okSz sz es = true ∧ 0 ≤ l ∧ l ≤ h.getD es.length ∧ h.getD es.length ≤ es.length then some (.fz (.sl ((es.take (h.getD es.length).toNat).drop l.toNat))) else none := rfl
attribute [simp] loV hiV
def indexI (x : Int) : List Int → Int → Int
  | [], _ => -1
  | y :: r, i => if x = y then i else indexI x r (i + 1)
theorem indexI_in (x : Int) : ∀ (l : List Int) (i : Int), 0 ≤ i → (0 ≤ indexI x l i ↔ x ∈ l)
  | [], i, h => by simp [indexI]
  | y :: r, i, h => by
    unfold indexI
    by_cases e : x = y
    · simp [e, h]
    · rw [if_neg e, indexI_in x r (i + 1) (by omega)]; simp [e]
theorem eOlF_fn (f : Pt → Pt) : eOlF f = eOl ∘ List.map f := by
  funext o; simp [eOlF, eOl, Function.comp_def]
def ptsG : List Ol → Nat
  | [] => 0
  | o :: r => o.length + ptsG r
theorem ptsG_len : ∀ (l : List Ol), ∀ o ∈ l, o.length ≤ ptsG l
  | [], o, h => by cases h
  | x :: r, o, h => by
    simp only [ptsG]
    rcases List.mem_cons.1 h with rfl | h
    · omega
    · have := ptsG_len r o h; omega
abbrev Dr := List Ol × Int × List Int
def piecesG (dr : Int → Int → Int → Dr → Bool × Dr) (many : Nat) (dx dy : Int) : List Pc → Dr → Bool × Dr
  | [], s => (true, s)
  | p :: r, s =>
    if p.1 < 0 ∨ (many : Int) ≤ p.1 ∨ p.1 ∈ s.2.2 ∨ s.2.2.length = 8 then piecesG dr many dx dy r s
    else if (dr p.1 (cut (dx + cut p.2.1)) (cut (dy + cut p.2.2)) s).1 = true then piecesG dr many dx dy r (dr p.1 (cut (dx + cut p.2.1)) (cut (dy + cut p.2.2)) s).2
      else dr p.1 (cut (dx + cut p.2.1)) (cut (dy + cut p.2.2)) s
def drawG (f : Font) : Nat → Int → Int → Int → Dr → Bool × Dr
  | 0, _, _, _, s => (false, s)
  | n + 1, k, dx, dy, s =>
    match f.1[k.toNat]? with
    | none => (false, s)
    | some g =>
      if s.2.1 < 1 + (ptsG g.2.1 : Int) then (false, s)
      else
        let r := piecesG (drawG f n) f.1.length dx dy g.2.2 (s.1 ++ g.2.1.map (List.map (movedP dx dy)), s.2.1 - (1 + (ptsG g.2.1 : Int)), s.2.2 ++ [k])
        if r.1 = true then (true, r.2.1, r.2.2.1, r.2.2.2.dropLast) else r
def popG (r : Bool × Dr) : Bool × Dr := if r.1 = true then (true, r.2.1, r.2.2.1, r.2.2.2.dropLast) else r
@[simp] theorem popG_t (s : Dr) : popG (true, s) = (true, s.1, s.2.1, s.2.2.dropLast) := rfl
@[simp] theorem popG_f (s : Dr) : popG (false, s) = (false, s) := rfl
theorem drawG_succ {f : Font} {n : Nat} {k dx dy : Int} {s : Dr} {g : Gl} (hg : f.1[k.toNat]? = some g) : drawG f (n + 1) k dx dy s = if s.2.1 < 1 + (ptsG g.2.1 : Int) then (false, s) else
    popG (piecesG (drawG f n) f.1.length dx dy g.2.2 (s.1 ++ g.2.1.map (List.map (movedP dx dy)), s.2.1 - (1 + (ptsG g.2.1 : Int)), s.2.2 ++ [k])) := by
  simp only [drawG, hg]; rfl
/-- Fonts whose glyphs are of some size. -/
def smGl (g : Gl) : Prop := g.2.1.length < 4000000 ∧ ptsG g.2.1 < 1000000 ∧ g.2.2.length < 1000000
def smFont (f : Font) : Prop := f.1.length < 1000000 ∧ f.2.length < 1000000 ∧ ∀ g ∈ f.1, smGl g
def potG (s : Dr) : Int := (s.1.length : Int) + 4000000 * s.2.1
theorem piecesG_ok {dr : Int → Int → Int → Dr → Bool × Dr} {many : Nat} {dx dy : Int} (hd : ∀ k dx dy s s', 0 ≤ s.2.1 → dr k dx dy s = (true, s') → s'.2.2 = s.2.2 ∧ 0 ≤ s'.2.1 ∧ s'.2.1 ≤ s.2.1 ∧ potG s' ≤ potG s) :
    ∀ (l : List Pc) (s s' : Dr), 0 ≤ s.2.1 → piecesG dr many dx dy l s = (true, s') → s'.2.2 = s.2.2 ∧ 0 ≤ s'.2.1 ∧ s'.2.1 ≤ s.2.1 ∧ potG s' ≤ potG s
  | [], s, s', h, e => by
    simp only [piecesG, Prod.mk.injEq, true_and] at e
    subst e; exact ⟨rfl, h, Int.le_refl _, Int.le_refl _⟩
  | p :: r, s, s', h, e => by
    simp only [piecesG] at e
    split at e
    · exact piecesG_ok hd r s s' h e
    · split at e
      · rename_i h1 h2
        generalize hx : dr p.1 (cut (dx + cut p.2.1)) (cut (dy + cut p.2.2)) s = x at e h2
        obtain ⟨ok, t⟩ := x
        simp only at h2 e
        subst h2
        obtain ⟨a1, a2, a3, a4⟩ := hd _ _ _ _ _ h hx
        obtain ⟨b1, b2, b3, b4⟩ := piecesG_ok hd r t s' a2 e
        exact ⟨b1.trans a1, b2, by omega, by omega⟩
      · rename_i h1 h2
        rw [e] at h2; exact absurd rfl h2
theorem drawG_ok {f : Font} (hf : smFont f) : ∀ (n : Nat) (k dx dy : Int) (s s' : Dr), 0 ≤ s.2.1 → drawG f n k dx dy s = (true, s') → s'.2.2 = s.2.2 ∧ 0 ≤ s'.2.1 ∧ s'.2.1 ≤ s.2.1 ∧ potG s' ≤ potG s
  | 0, k, dx, dy, s, s', h, e => by simp [drawG] at e
  | n + 1, k, dx, dy, s, s', h, e => by
    simp only [drawG] at e
    split at e
    · simp at e
    · rename_i g hg
      split at e
      · simp at e
      · rename_i hl
        split at e
        · rename_i ht
          generalize hx : piecesG (drawG f n) f.1.length dx dy g.2.2 (s.1 ++ g.2.1.map (List.map (movedP dx dy)), s.2.1 - (1 + (ptsG g.2.1 : Int)), s.2.2 ++ [k]) = x at e ht
          obtain ⟨ok, t⟩ := x
          simp only at ht e
          subst ht
          have hgl := (hf.2.2 g (List.mem_of_getElem? hg)).1
          obtain ⟨a1, a2, a3, a4⟩ := piecesG_ok (fun k dx dy s s' => drawG_ok hf n k dx dy s s') _ _ _ (by simp only; omega) hx
          simp only [Prod.mk.injEq, true_and] at e
          subst e
          simp only [potG, List.length_append, List.length_map] at *
          refine ⟨by rw [a1]; simp, a2, by omega, by omega⟩
        · rename_i ht
          rw [e] at ht; exact absurd rfl ht
include hv
def S83 (x : Int) (a : List Int × List Int) : St :=
  { sl := [(0, .osl 0 1 0 (a.1 ++ a.2).length), (1, i64 x), (7, i64 (a.1 ++ a.2).length), (8, i64 a.1.length)], hp := [(0, some (.arr 1 ((a.1 ++ a.2).map eI)))], nx := 1 }
theorem run_index (x : Int) (l : List Int) (h : l.length < 1000000000) : v.run 83 [.osl 0 1 0 l.length, i64 x] [some (.arr 1 (l.map eI))] = some (i64 (indexI x l 0), [some (.arr 1 (l.map eI))]) := by
  refine run_wp (by rw [hv]; exact rfl) ?_
  simp -dsimp -implicitDefEqProofs (maxSteps := 1000000) (disch := omega) [condP_pos, condP_neg, optP_pos, decide_eq_true, decide_eq_false, wrap_i64, Int.natCast_inj]
  refine wp_inv (S83 x) (fun a => a.1 ++ a.2 = l ∧ indexI x l 0 = indexI x a.2 a.1.length) (fun a => a.2.length) ([], l) (by simp) (by simp -dsimp -implicitDefEqProofs (maxSteps := 1000000) (disch := omega) [condP_pos, condP_neg, optP_pos, decide_eq_true, decide_eq_false, wrap_i64, Int.natCast_inj, S83]) ?_
  rintro ⟨pre, rest⟩ ⟨rfl, e⟩
  simp only at e
  rw [e]
  cases rest with
  | nil => simp -dsimp -implicitDefEqProofs (maxSteps := 1000000) (disch := omega) [condP_pos, condP_neg, optP_pos, decide_eq_true, decide_eq_false, wrap_i64, Int.natCast_inj, S83, indexI]
  | cons y rest =>
    simp at h
    by_cases hy : x = y
    · simp -dsimp -implicitDefEqProofs (maxSteps := 1000000) (disch := omega) [condP_pos, condP_neg, optP_pos, decide_eq_true, decide_eq_false, wrap_i64, Int.natCast_inj, S83, indexI, hy]
    · simp -dsimp -implicitDefEqProofs (maxSteps := 1000000) (disch := omega) [condP_pos, condP_neg, optP_pos, decide_eq_true, decide_eq_false, wrap_i64, Int.natCast_inj, S83, indexI, hy]
      refine again (pre ++ [y], rest) ?_ ?_ ?_
      · refine ⟨by simp, ?_⟩
        simp [indexI, hy]
      · simp
      · simp -dsimp -implicitDefEqProofs (maxSteps := 1000000) (disch := omega) [condP_pos, condP_neg, optP_pos, decide_eq_true, decide_eq_false, wrap_i64, Int.natCast_inj, S83]
theorem run_contains (x : Int) (l : List Int) (h : l.length < 1000000000) : v.run 59 [.osl 0 1 0 l.length, i64 x] [some (.arr 1 (l.map eI))] = some (bo (decide (x ∈ l)), [some (.arr 1 (l.map eI))]) := by
  have hd : decide (x ∈ l) = decide (0 ≤ indexI x l 0) := by simp only [indexI_in x l 0 (by omega)]
  rw [hd]
  refine run_wp (by rw [hv]; exact rfl) ?_
  have := run_index hv x l h
  simp -dsimp -implicitDefEqProofs (maxSteps := 1000000) (disch := omega) [condP_pos, condP_neg, optP_pos, decide_eq_true, decide_eq_false, wrap_i64, Int.natCast_inj, this]
end Go.Vai

set_option linter.unusedVariables false
set_option linter.unusedSimpArgs false
set_option linter.unnecessarySimpa false
set_option linter.unusedSectionVars false
namespace Go.Vai
variable {v : Env} (hv : v.T = Tt)
/-! The program's drawing. -/
abbrev F57 : AV := .fn 57 [.bp 0 0, .bp 1 0, .bp 2 0, .bp 4 0, .bp 6 0]
abbrev xFont (f : Font) : Blk := .box [rw_ (f.1.map eGl), rw_ (f.2.map ePt)]
abbrev H57 (f : Font) (s : Dr) : List (Option Blk) :=
  [some (xFont f), some (.box [i64 s.2.1]), some (.box [.osl 3 1 0 s.1.length]), some (.arr 1 (s.1.map eOl)), some (.box [.osl 5 1 0 s.2.2.length]), some (.arr 1 (s.2.2.map eI)), some (.box [F57])]
abbrev R57 (f : Font) (r : Bool × Dr) : AV × List (Option Blk) :=
  (bo r.1, [some (xFont f), some (.box [i64 r.2.2.1]), some (.box [.osl 7 1 0 r.2.1.length]), none, some (.box [.osl 8 1 0 r.2.2.2.length]), none, some (.box [F57]), some (.arr 1 (r.2.1.map eOl)), some (.arr 1 (r.2.2.2.map eI))])
def S57 (f : Font) (k dx dy : Int) (s : Dr) (adv : Int) (pcs : List Pc) (a : List Ol × List Ol × Nat) : St :=
  { sl := [(0, i64 k), (1, i64 dx), (2, i64 dy), (3, .bp 0 0), (4, .bp 1 0), (5, .bp 2 0), (6, .bp 4 0), (7, .bp 6 0), (12, .bp 9 0), (13, i64 a.2.2), (26, rw_ ((a.1 ++ a.2.1).map eOl)), (27, i64 (a.1 ++ a.2.1).length), (28, i64 a.1.length)],
    hp := [(0, some (xFont f)), (1, some (.box [i64 s.2.1])), (2, some (.box [.osl 7 1 0 s.1.length])), (3, none), (4, some (.box [.osl 8 1 0 s.2.2.length])), (5, none), (6, some (.box [F57])), (7, some (.arr 1 (s.1.map eOl))), (8, some (.arr 1 (s.2.2.map eI))),
      (9, some (.box [i64 adv, rw_ ((a.1 ++ a.2.1).map eOl), rw_ (pcs.map ePc)]))], nx := 10 }
def T57 (f : Font) (k dx dy : Int) (out : List Ol) (left : Int) (path : List Int) (adv : Int) (pcs : List Pc) (a : List Ol × List Ol) : St :=
  { sl := [(0, i64 k), (1, i64 dx), (2, i64 dy), (3, .bp 0 0), (5, .bp 2 0), (6, .bp 4 0), (7, .bp 6 0), (12, .bp 9 0), (44, rw_ ((a.1 ++ a.2).map eOl)), (45, i64 (a.1 ++ a.2).length), (46, i64 a.1.length)],
    hp := [(0, some (xFont f)), (1, some (.box [i64 left])), (2, some (.box [.osl 7 1 0 (out.length + a.1.length)])), (3, none), (4, some (.box [.osl 8 1 0 path.length])), (5, none), (6, some (.box [F57])), (7, some (.arr 1 (out.map eOl ++ a.1.map (eOlF (movedP dx dy))))), (8, some (.arr 1 (path.map eI))),
      (9, some (.box [i64 adv, rw_ ((a.1 ++ a.2).map eOl), rw_ (pcs.map ePc)]))], nx := 10 }
def U57 (f : Font) (dx dy : Int) (path : List Int) (a : List Pc × List Pc × List Ol × Int) : St :=
  { sl := [(1, i64 dx), (2, i64 dy), (3, .bp 0 0), (6, .bp 4 0), (7, .bp 6 0), (63, rw_ ((a.1 ++ a.2.1).map ePc)), (64, i64 (a.1 ++ a.2.1).length), (65, i64 a.1.length)],
    hp := [(0, some (xFont f)), (1, some (.box [i64 a.2.2.2])), (2, some (.box [.osl 7 1 0 a.2.2.1.length])), (3, none), (4, some (.box [.osl 8 1 0 path.length])), (5, none), (6, some (.box [F57])), (7, some (.arr 1 (a.2.2.1.map eOl))), (8, some (.arr 1 (path.map eI)))], nx := 9 }
include hv
set_option maxHeartbeats 4000000 in
theorem run_draw (f : Font) (hf : smFont f) : ∀ (n : Nat) (k dx dy : Int) (s : Dr), s.2.2.length + n = 8 → 0 < n → 0 ≤ k → k < f.1.length → (-1048576 ≤ dx ∧ dx ≤ 1048576) → (-1048576 ≤ dy ∧ dy ≤ 1048576) → 0 ≤ s.2.1 → s.2.1 < 1000000000 → potG s ≤ 2000000000000 →
    v.run 57 [i64 k, i64 dx, i64 dy, .bp 0 0, .bp 1 0, .bp 2 0, .bp 4 0, .bp 6 0] (H57 f s) = some (R57 f (drawG f n k dx dy s)) := by
  intro n
  induction n with
  | zero => intro k dx dy s _ h; omega
  | succ n ih =>
    intro k dx dy s hp _ hk hkl hdx hdy hl0 hl1 hpot
    obtain ⟨out, left, path⟩ := s
    simp only at hp hl0 hl1
    simp only [potG] at hpot
    obtain ⟨fg, fr⟩ := f
    obtain ⟨hf1, hf2, hf3⟩ := hf
    simp only at hf1 hf2 hf3 hkl
    have hkn : k.toNat < fg.length := by omega
    have hget : fg[k.toNat]? = some fg[k.toNat] := List.getElem?_eq_getElem hkn
    generalize hg : fg[k.toNat] = g at hget
    obtain ⟨adv, ols, pcs⟩ := g
    obtain ⟨hg1, hg2, hg3⟩ := hf3 _ (List.mem_of_getElem? hget)
    simp only at hg1 hg2 hg3
    have hR := drawG_succ (f := (fg, fr)) (n := n) (dx := dx) (dy := dy) (s := (out, left, path)) hget
    simp only at hR
    rw [hR]
    generalize hC : ptsG ols = C at hg2
    refine run_wp (by rw [hv]; exact rfl) ?_
    simp -dsimp -implicitDefEqProofs (maxSteps := 1000000) (disch := omega) [condP_pos, condP_neg, optP_pos, decide_eq_true, decide_eq_false, wrap_i64, Int.natCast_inj, hget, eGl]
    refine wp_inv (S57 (fg, fr) k dx dy (out, left, path) adv pcs) (fun a => a.1 ++ a.2.1 = ols ∧ a.2.2 + ptsG a.2.1 = 1 + C) (fun a => a.2.1.length) ([], ols, 1) (by simp only [List.nil_append, true_and]; omega) (by simp -dsimp -implicitDefEqProofs (maxSteps := 1000000) (disch := omega) [condP_pos, condP_neg, optP_pos, decide_eq_true, decide_eq_false, wrap_i64, Int.natCast_inj, S57, hg]) ?_
    rintro ⟨pre, rest, m⟩ ⟨e1, e2⟩
    simp only at e1 e2
    cases rest with
    | cons o rest =>
      simp only [ptsG] at e2
      have e3 : pre.length + (rest.length + 1) < 4000000 := by rw [← e1] at hg1; simpa using hg1
      simp -dsimp -implicitDefEqProofs (maxSteps := 1000000) (disch := omega) [condP_pos, condP_neg, optP_pos, decide_eq_true, decide_eq_false, wrap_i64, Int.natCast_inj, S57]
      refine again (pre ++ [o], rest, m + o.length) ?_ ?_ ?_
      · exact ⟨by simpa using e1, by simp only; omega⟩
      · simp
      · simp -dsimp -implicitDefEqProofs (maxSteps := 1000000) (disch := omega) [condP_pos, condP_neg, optP_pos, decide_eq_true, decide_eq_false, wrap_i64, Int.natCast_inj, S57]
    | nil =>
      simp only [ptsG] at e2
      simp only [List.append_nil] at e1
      subst e1
      have hm : m = 1 + C := by omega
      subst hm
      by_cases hc : left < 1 + (C : Int)
      · rw [if_pos hc]
        simp -dsimp -implicitDefEqProofs (maxSteps := 1000000) (disch := omega) [condP_pos, condP_neg, optP_pos, decide_eq_true, decide_eq_false, wrap_i64, Int.natCast_inj, S57, hc]
      · rw [if_neg hc]
        simp -dsimp -implicitDefEqProofs (maxSteps := 1000000) (disch := omega) [condP_pos, condP_neg, optP_pos, decide_eq_true, decide_eq_false, wrap_i64, Int.natCast_inj, S57, hc]
        have hpl : path.length ≤ 7 := by omega
        refine wp_inv (T57 (fg, fr) k dx dy out (left - (1 + (C : Int))) path adv pcs) (fun a => a.1 ++ a.2 = pre) (fun a => a.2.length) ([], pre) (by simp) (by simp -dsimp -implicitDefEqProofs (maxSteps := 1000000) (disch := omega) [condP_pos, condP_neg, optP_pos, decide_eq_true, decide_eq_false, wrap_i64, Int.natCast_inj, T57]) ?_
        rintro ⟨q, r⟩ e4
        simp only at e4
        cases r with
        | cons o r =>
          have e3 : q.length + (r.length + 1) < 4000000 := by rw [← e4] at hg1; simpa using hg1
          have hol : o.length ≤ ptsG pre := ptsG_len _ _ (by rw [← e4]; simp)
          have hmv := run_moved hv dx dy hdx hdy o (by omega)
          simp -dsimp -implicitDefEqProofs (maxSteps := 1000000) (disch := omega) [condP_pos, condP_neg, optP_pos, decide_eq_true, decide_eq_false, wrap_i64, Int.natCast_inj, T57, hmv]
          refine again (q ++ [o], r) ?_ ?_ ?_
          · simpa using e4
          · simp
          · simp -dsimp -implicitDefEqProofs (maxSteps := 1000000) (disch := omega) [condP_pos, condP_neg, optP_pos, decide_eq_true, decide_eq_false, wrap_i64, Int.natCast_inj, T57]
            refine ⟨by omega, ?_⟩
            rw [List.take_of_length_le (by simp)]
            simp [eOlF]
        | nil =>
          simp only [List.append_nil] at e4
          subst e4
          simp -dsimp -implicitDefEqProofs (maxSteps := 1000000) (disch := omega) [condP_pos, condP_neg, optP_pos, decide_eq_true, decide_eq_false, wrap_i64, Int.natCast_inj, T57]
          obtain ⟨P, hP⟩ : ∃ P, P = path ++ [k] := ⟨_, rfl⟩
          have hPl : P.length = path.length + 1 := by rw [hP]; simp
          rw [← hP]
          generalize hS0 : ((out ++ q.map (List.map (movedP dx dy)), left - (1 + (C : Int)), P) : Dr) = s0
          refine wp_inv (U57 (fg, fr) dx dy P) (fun a => a.1 ++ a.2.1 = pcs ∧ 0 ≤ a.2.2.2 ∧ a.2.2.2 < 1000000000 ∧ (a.2.2.1.length : Int) + 4000000 * a.2.2.2 ≤ 2000000000000 ∧
            piecesG (drawG (fg, fr) n) fg.length dx dy pcs s0 = piecesG (drawG (fg, fr) n) fg.length dx dy a.2.1 (a.2.2.1, a.2.2.2, P)) (fun a => a.2.1.length) ([], pcs, out ++ q.map (List.map (movedP dx dy)), left - (1 + (C : Int))) ?_ ?_ ?_
          · refine ⟨by simp, by simp only; omega, by simp only; omega, ?_, by rw [← hS0]⟩
            simp only [List.length_append, List.length_map]
            omega
          · subst hP
            simp -dsimp -implicitDefEqProofs (maxSteps := 1000000) (disch := omega) [condP_pos, condP_neg, optP_pos, decide_eq_true, decide_eq_false, wrap_i64, Int.natCast_inj, U57, eOlF_fn]
            exact List.take_of_length_le (by simp)
          · rintro ⟨p1, p2, o2, l2⟩ ⟨i1, i2, i3, i4, i5⟩
            simp only at i1 i2 i3 i4 i5
            rw [i5]
            clear i5 hS0
            cases p2 with
            | nil =>
              simp -dsimp -implicitDefEqProofs (maxSteps := 1000000) (disch := omega) [condP_pos, condP_neg, optP_pos, decide_eq_true, decide_eq_false, wrap_i64, Int.natCast_inj, U57, piecesG, pureOp_slc, List.dropLast_eq_take]
              done
            | cons p p2 =>
              have i6 : p1.length + (p2.length + 1) < 1000000 := by rw [← i1] at hg3; simpa using hg3
              have hcn := run_contains hv p.1 P (by omega)
              have hsk : (p.1 < 0 ∨ (fg.length : Int) ≤ p.1 ∨ p.1 ∈ P ∨ P.length = 8) → piecesG (drawG (fg, fr) n) fg.length dx dy (p :: p2) (o2, l2, P) = piecesG (drawG (fg, fr) n) fg.length dx dy p2 (o2, l2, P) := by
                intro h; simp only [piecesG]; rw [if_pos h]
              by_cases h1 : p.1 < 0
              · rw [hsk (.inl h1)]
                simp -dsimp -implicitDefEqProofs (maxSteps := 1000000) (disch := omega) [condP_pos, condP_neg, optP_pos, decide_eq_true, decide_eq_false, wrap_i64, Int.natCast_inj, U57, h1]
                refine again (p1 ++ [p], p2, o2, l2) ⟨by simpa using i1, i2, i3, i4, rfl⟩ (by simp) ?_
                simp -dsimp -implicitDefEqProofs (maxSteps := 1000000) (disch := omega) [condP_pos, condP_neg, optP_pos, decide_eq_true, decide_eq_false, wrap_i64, Int.natCast_inj, U57]
              · by_cases h2 : (fg.length : Int) ≤ p.1
                · rw [hsk (.inr (.inl h2))]
                  simp -dsimp -implicitDefEqProofs (maxSteps := 1000000) (disch := omega) [condP_pos, condP_neg, optP_pos, decide_eq_true, decide_eq_false, wrap_i64, Int.natCast_inj, U57, h1, h2]
                  refine again (p1 ++ [p], p2, o2, l2) ⟨by simpa using i1, i2, i3, i4, rfl⟩ (by simp) ?_
                  simp -dsimp -implicitDefEqProofs (maxSteps := 1000000) (disch := omega) [condP_pos, condP_neg, optP_pos, decide_eq_true, decide_eq_false, wrap_i64, Int.natCast_inj, U57]
                · by_cases h3 : p.1 ∈ P
                  · rw [hsk (.inr (.inr (.inl h3)))]
                    simp -dsimp -implicitDefEqProofs (maxSteps := 1000000) (disch := omega) [condP_pos, condP_neg, optP_pos, decide_eq_true, decide_eq_false, wrap_i64, Int.natCast_inj, U57, h1, h2, h3, hcn]
                    refine again (p1 ++ [p], p2, o2, l2) ⟨by simpa using i1, i2, i3, i4, rfl⟩ (by simp) ?_
                    simp -dsimp -implicitDefEqProofs (maxSteps := 1000000) (disch := omega) [condP_pos, condP_neg, optP_pos, decide_eq_true, decide_eq_false, wrap_i64, Int.natCast_inj, U57]
                  · by_cases h4 : P.length = 8
                    · rw [hsk (.inr (.inr (.inr h4)))]
                      simp -dsimp -implicitDefEqProofs (maxSteps := 1000000) (disch := omega) [condP_pos, condP_neg, optP_pos, decide_eq_true, decide_eq_false, wrap_i64, Int.natCast_inj, U57, h1, h2, h3, hcn]
                      refine again (p1 ++ [p], p2, o2, l2) ⟨by simpa using i1, i2, i3, i4, rfl⟩ (by simp) ?_
                      simp -dsimp -implicitDefEqProofs (maxSteps := 1000000) (disch := omega) [condP_pos, condP_neg, optP_pos, decide_eq_true, decide_eq_false, wrap_i64, Int.natCast_inj, U57]
                    · have hdr : piecesG (drawG (fg, fr) n) fg.length dx dy (p :: p2) (o2, l2, P) =
                          if (drawG (fg, fr) n p.1 (cut (dx + cut p.2.1)) (cut (dy + cut p.2.2)) (o2, l2, P)).1 = true then piecesG (drawG (fg, fr) n) fg.length dx dy p2 (drawG (fg, fr) n p.1 (cut (dx + cut p.2.1)) (cut (dy + cut p.2.2)) (o2, l2, P)).2
                            else drawG (fg, fr) n p.1 (cut (dx + cut p.2.1)) (cut (dy + cut p.2.2)) (o2, l2, P) := by
                        simp only [piecesG]; rw [if_neg (fun h => by rcases h with h | h | h | h; exact h1 h; exact h2 h; exact h3 h; exact h4 h)]
                      have hih := ih p.1 (cut (dx + cut p.2.1)) (cut (dy + cut p.2.2)) (o2, l2, P) (show P.length + n = 8 by omega) (by omega) (by omega) (show p.1 < fg.length by omega) (cut_b _) (cut_b _) i2 i3 i4
                      have hok := drawG_ok (f := (fg, fr)) ⟨hf1, hf2, hf3⟩ n p.1 (cut (dx + cut p.2.1)) (cut (dy + cut p.2.2)) (o2, l2, P)
                      rw [hdr]
                      generalize drawG (fg, fr) n p.1 (cut (dx + cut p.2.1)) (cut (dy + cut p.2.2)) (o2, l2, P) = r at hih hok
                      obtain ⟨ok, o3, l3, P3⟩ := r
                      have c1 := cut_b p.2.1
                      have c2 := cut_b p.2.2
                      cases ok with
                      | true =>
                        obtain ⟨k1, k2, k3, k4⟩ := hok _ i2 rfl
                        simp only [potG] at k1 k2 k3 k4
                        subst k1
                        simp -dsimp -implicitDefEqProofs (maxSteps := 1000000) (disch := omega) [condP_pos, condP_neg, optP_pos, decide_eq_true, decide_eq_false, wrap_i64, Int.natCast_inj, U57, h1, h2, h3, h4, hcn, run_cut hv, hih]
                        refine again (p1 ++ [p], p2, o3, l3) ⟨by simpa using i1, k2, by simp only; omega, by simp only; omega, rfl⟩ (by simp) ?_
                        simp -dsimp -implicitDefEqProofs (maxSteps := 1000000) (disch := omega) [condP_pos, condP_neg, optP_pos, decide_eq_true, decide_eq_false, wrap_i64, Int.natCast_inj, U57]
                      | false =>
                        simp -dsimp -implicitDefEqProofs (maxSteps := 1000000) (disch := omega) [condP_pos, condP_neg, optP_pos, decide_eq_true, decide_eq_false, wrap_i64, Int.natCast_inj, U57, h1, h2, h3, h4, hcn, run_cut hv, hih]
end Go.Vai
