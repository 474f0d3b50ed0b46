/-
  A part of the abstract run of Go functions and of the proof that it tells the truth.
-/
import Derived.Test.YthejhdkdfjinbaaDoorVa4
set_option linter.unusedVariables false
set_option linter.unusedSimpArgs false
namespace Go.Vai

/-! ## 11. Soundness: the operations that look at temporaries alone -/

theorem FR.cell {h : PH} (v : Value) (hv : leafV v = true) : FR h (cellFV v) v := by
  unfold cellFV
  split
  · exact .sl0 _ _
  · exact .sc _ hv
theorem FR.leaf {h : PH} {x : FV} {v : Value} (r : FR h x v) : leafV v = true := by
  cases r <;> first | assumption | rfl
theorem VR.sc {σ : Nat → Option Loc} {h : PH} (v : Value) (hv : leafV v = true := by rfl) : VR σ h (.fz (.sc v)) v := .fz _ _ (.sc v hv)
theorem VR.sc_inv {σ : Nat → Option Loc} {h : PH} {v u : Value} (r : VR σ h (.fz (.sc v)) u) : u = v := by
  cases r with
  | fz _ _ r => cases r; rfl
theorem VR.sc_leaf {σ : Nat → Option Loc} {h : PH} {v u : Value} (r : VR σ h (.fz (.sc v)) u) : leafV u = true := by
  cases r with
  | fz _ _ r => exact r.leaf
theorem VR.cell {σ : Nat → Option Loc} {h : PH} (v : Value) : VR σ h (cellAV v) v := by
  unfold cellAV
  split
  · exact .emp _
  · split
    · rename_i hv; exact .sc _ hv
    · exact .dead _
theorem VR.cells {σ : Nat → Option Loc} {h : PH} (cs : Array Value) : VR σ h (.agg (cs.toList.map cellAV)) (.agg cs) := by
  have := VR.agg (σ := σ) (h := h) (cs.toList.map cellAV) cs.toList (by simp) (fun i x v e1 e2 => by
    rw [List.getElem?_map, e2] at e1
    simp at e1
    subst e1
    exact .cell v)
  simpa using this
theorem VR.const {σ : Nat → Option Loc} {h : PH} (v : Value) : VR σ h (constAV v) v := by
  unfold constAV
  split
  · exact .cells _
  · exact .cell _
theorem VR.err_inv {σ : Nat → Option Loc} {h : PH} {u : Value} (r : VR σ h .err u) : ∃ t v, u = .iface t v := by
  cases r with
  | err t v => exact ⟨t, v, rfl⟩
theorem VR.agg_inv {σ : Nat → Option Loc} {h : PH} {l : List AV} {u : Value} (r : VR σ h (.agg l) u) : ∃ vs : List Value, u = .agg vs.toArray ∧ l.length = vs.length ∧ ∀ (i : Nat) (x : AV) (v : Value), l[i]? = some x → vs[i]? = some v → VR σ h x v := by
  cases r with
  | agg _ vs h1 h2 => exact ⟨vs, rfl, h1, h2⟩
theorem VR.tup_inv {σ : Nat → Option Loc} {h : PH} {l : List AV} {u : Value} (r : VR σ h (.tup l) u) : ∃ vs : List Value, u = .tuple vs.toArray ∧ l.length = vs.length ∧ ∀ (i : Nat) (x : AV) (v : Value), l[i]? = some x → vs[i]? = some v → VR σ h x v := by
  cases r with
  | tup _ vs h1 h2 => exact ⟨vs, rfl, h1, h2⟩
theorem VR.fn_inv {σ : Nat → Option Loc} {h : PH} {f : FuncId} {l : List AV} {u : Value} (r : VR σ h (.fn f l) u) : ∃ vs : List Value, u = .func (.func f) #[] vs.toArray ∧ l.length = vs.length ∧ ∀ (i : Nat) (x : AV) (v : Value), l[i]? = some x → vs[i]? = some v → VR σ h x v := by
  cases r with
  | fn _ _ vs h1 h2 => exact ⟨vs, rfl, h1, h2⟩

/-- What is told of a piece of code's surroundings: the temporaries, the tables. -/
structure Sl (G : Nat → Option (List FV)) (σ : Nat → Option Loc) (h : PH) (sl : List (Nat × AV)) (a : Act) : Prop where
  sl : ∀ t, VR σ h (lk sl t) (a.tmps.getD t undef)
  gl : GR G h

variable {P : Program} {G : Nat → Option (List FV)} {σ : Nat → Option Loc} {h : PH} {sl : List (Nat × AV)} {a : Act}

theorem Sl.av (H : Sl G σ h sl a) (x : Operand) : VR σ h (LX.av G sl (compX x)) (a.eval x) := by
  unfold compX
  split
  · exact H.sl _
  · rename_i f
    exact .fn f [] [] rfl (by simp)
  · exact .const _
  · rename_i g
    simp only [LX.av]
    split
    · rename_i c hc
      obtain ⟨⟨us, h1, h2⟩, _⟩ := H.gl g c hc
      have := VR.fp (σ := σ) (h := h) c 0 g 0 us (by simpa using h1) h2
      simpa [Act.eval] using this
    · exact .dead _
  · rename_i f
    exact .fn f [] [] rfl (by simp)

theorem VR.bp_inv {b o : Nat} {u : Value} (r : VR σ h (.bp b o) u) : ∃ k n, σ b = some (.here k 0 n 1) ∧ u = .pointer (some ⟨k, o, none⟩) := by
  cases r with
  | bp _ _ k n e => exact ⟨k, n, e, rfl⟩
theorem VR.ep_inv {b i f : Nat} {u : Value} (r : VR σ h (.ep b i f) u) : ∃ k d n sz, σ b = some (.here k d n sz) ∧ u = .pointer (some ⟨k, d + (i * sz + f), none⟩) := by
  cases r with
  | ep _ _ _ k d n sz e => exact ⟨k, d, n, sz, e, rfl⟩
theorem VR.fp_inv {c : List FV} {f : Nat} {u : Value} (r : VR σ h (.fp c f) u) : ∃ k o, ∃ us : Nat → Value, (∀ (j : Nat) (x : FV), c[j]? = some x → cellAt h k (o + j) = some (us j)) ∧ (∀ (j : Nat) (x : FV), c[j]? = some x → FR h x (us j)) ∧ u = .pointer (some ⟨k, o + f, none⟩) := by
  cases r with
  | fp _ _ k o us e r => exact ⟨k, o, us, e, r, rfl⟩
theorem VR.emp_inv {u : Value} (r : VR σ h .emp u) : ∃ A, u = .slice A 0 0 := by
  cases r with
  | emp A => exact ⟨A, rfl⟩
theorem VR.osl_inv {b sz off len : Nat} {u : Value} (r : VR σ h (.osl b sz off len) u) : (σ b = some .vir ∧ len = 0 ∧ ∃ A, u = .slice A 0 0) ∨
    ∃ k d n a cap, σ b = some (.here k d n sz) ∧ len ≤ cap ∧ (cap = 0 ∨ a = ⟨k, d + off * sz, none⟩) ∧ d + off * sz + cap * sz ≤ n ∧ u = .slice (some a) len cap := by
  cases r with
  | vir _ _ _ A e => exact .inl ⟨e, rfl, A, rfl⟩
  | osl _ _ _ _ k d n a cap e e1 e2 e3 => exact .inr ⟨k, d, n, a, cap, e, e1, e2, e3, rfl⟩
theorem VR.osl_slice {b sz off len : Nat} {u : Value} (r : VR σ h (.osl b sz off len) u) : ∃ A cap, u = .slice A len cap ∧ len ≤ cap := by
  rcases r.osl_inv with ⟨_, rfl, A, rfl⟩ | ⟨k, d, n, a, cap, _, e, _, _, rfl⟩
  · exact ⟨A, 0, rfl, Nat.le_refl _⟩
  · exact ⟨some a, cap, rfl, e⟩
theorem FR.sl_inv {es : List (List FV)} {u : Value} (r : FR h (.sl es) u) (hne : es ≠ []) : ∃ sz k o cap, ∃ vs : Nat → Nat → Value, u = .slice (some ⟨k, o, none⟩) es.length cap ∧
    (∀ (i : Nat) (c : List FV), es[i]? = some c → c.length = sz) ∧ es.length ≤ cap ∧ (∀ (i : Nat) (c : List FV) (j : Nat) (x : FV), es[i]? = some c → c[j]? = some x → cellAt h k (o + (i * sz + j)) = some (vs i j)) ∧
    (∀ (i : Nat) (c : List FV) (j : Nat) (x : FV), es[i]? = some c → c[j]? = some x → FR h x (vs i j)) := by
  cases r with
  | sl0 A cap => exact absurd rfl hne
  | sl _ sz k o sp cap vs hsz hcap hsp hat hr =>
    have := hsp hne
    subst this
    exact ⟨sz, k, o, cap, vs, rfl, hsz, hcap, hat, hr⟩
theorem FR.sl_slice {es : List (List FV)} {u : Value} (r : FR h (.sl es) u) : ∃ A cap, u = .slice A es.length cap ∧ es.length ≤ cap ∧ (es ≠ [] → A ≠ none) := by
  cases r with
  | sl0 A cap => exact ⟨A, cap, rfl, Nat.zero_le _, fun e => absurd rfl e⟩
  | sl _ sz k o sp cap vs hsz hcap hsp hat hr => exact ⟨some _, cap, rfl, hcap, fun _ => by simp⟩
theorem VR.slc_slice {es : List (List FV)} {u : Value} (r : VR σ h (.fz (.sl es)) u) : ∃ A cap, u = .slice A es.length cap ∧ es.length ≤ cap ∧ (es ≠ [] → A ≠ none) := by
  cases r with
  | fz _ _ r => exact r.sl_slice

theorem VR.slc_inv {es : List (List FV)} {u : Value} (r : VR σ h (.fz (.sl es)) u) : FR h (.sl es) u := by
  cases r with
  | fz _ _ r => exact r
theorem run_und {t : TypeId} {d : TypeDesc} (e : P.underlying t = some d) (w : World) : (underlying t).run P w = .ok d w := run_underlying e w
theorem run_info {t : TypeId} {i : TypeInfo} (e : P.info? t = some i) (w : World) : (typeInfo t).run P w = .ok i w := by
  simp [typeInfo, program, Sem.run_bind, Sem.run, e, pure]
theorem run_size {t : TypeId} {n : Nat} (e : sizeC P t = some n) (w : World) : (sizeOf t).run P w = .ok n w := by
  unfold sizeC at e
  obtain ⟨i, hi, rfl⟩ := Option.map_eq_some_iff.1 e
  simp [sizeOf, Sem.run_bind, run_info hi]
theorem run_isAgg {t : TypeId} {g : Option Nat} (e : agT P t = some g) (w : World) : (isAgg t).run P w = .ok g.isSome w ∧ (∀ n, g = some n → sizeC P t = some n) := by
  unfold agT at e
  split at e
  · rename_i fs hu
    obtain ⟨i, hi, rfl⟩ := Option.map_eq_some_iff.1 e
    exact ⟨by simp [isAgg, Sem.run_bind, run_und hu], fun n hn => by injection hn with hn; simp [sizeC, hi, hn]⟩
  · rename_i m el hu
    obtain ⟨i, hi, rfl⟩ := Option.map_eq_some_iff.1 e
    exact ⟨by simp [isAgg, Sem.run_bind, run_und hu], fun n hn => by injection hn with hn; simp [sizeC, hi, hn]⟩
  · rename_i d h1 h2 hu
    injection e with e
    subst e
    refine ⟨?_, fun n hn => by cases hn⟩
    simp only [isAgg, Sem.run_bind, run_und hu, Result.andThen_ok]
    cases d <;> first | rfl | (exact absurd rfl (h1 _)) | (exact absurd rfl (h2 _ _))
  · cases e

/-- An operation gives a value, and leaves the world alone. -/
def Gives (P : Program) (a : Act) (op : Op) (u : Value) : Prop := ∀ (o : Oper), o.op = op → ∀ w, (execOp a.eval o).run P w = .ok (.value u) w

theorem gives_mov {x : Operand} {op : Op} (hop : op = .move x ∨ op = .assign x) : Gives P a op (a.eval x) := by
  intro o ho w
  rcases hop with rfl | rfl <;> simp [execOp, ho, Sem.run, pure]

end Go.Vai
