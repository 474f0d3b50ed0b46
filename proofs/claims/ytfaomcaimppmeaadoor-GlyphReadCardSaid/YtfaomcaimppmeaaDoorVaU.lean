/-
  A part of the abstract run of Go functions and of the proof that it tells the truth.
-/
import Derived.Deep.Fields
import Derived.SizedLaws
import Derived.Below
import Derived.Carry
import Derived.ChangeSame
import Derived.RowKit
import Derived.Test.YtfaomcaimppmeaaDoorVaR
set_option linter.unusedVariables false
set_option linter.unusedSimpArgs false
namespace Go.Vai
open Go.Deep Go.ChangeShapes Go.WideShapes


inductive Ty where
  | i (k : IntKind)
  | s
  | b
  | sl (e : Ty) (sz : Nat)
  | st (fs : List Ty)

inductive TyOk (P : Program) : Ty → TypeId → Prop
  | i (k : IntKind) (t : TypeId) : P.underlying t = some (.int k) → TyOk P (.i k) t
  | s (t : TypeId) : P.underlying t = some .string → TyOk P .s t
  | b (t : TypeId) : P.underlying t = some .bool → TyOk P .b t
  | sl (e : Ty) (sz : Nat) (t u : TypeId) : P.underlying t = some (.slice u) → P.cellsOf u = sz → 0 < sz → 0 < P.bytesOf u → TyOk P e u → TyOk P (.sl e sz) t
  | st (fs : List Ty) (t : TypeId) (gs : Array Field) : P.underlying t = some (.struct gs) → oneCellFields P gs = true → P.cellsOf t = gs.size → gs.size = fs.length →
      (∀ (i : Nat) (f : Ty) (g : Field), fs[i]? = some f → gs[i]? = some g → TyOk P f g.type) → TyOk P (.st fs) t

inductive HasT : Ty → List FV → Prop
  | i (k : IntKind) (n : Int) : (Lit.int k n).wf = true → HasT (.i k) [.sc (.int k n)]
  | s (q : ByteArray) : q.size ≤ 140737488351232 → HasT .s [.sc (.string q)]
  | b (x : Bool) : HasT .b [.sc (.bool x)]
  | sl (e : Ty) (sz : Nat) (es : List (List FV)) : (∀ (i : Nat) (c : List FV), es[i]? = some c → HasT e c) → (∀ (i : Nat) (c : List FV), es[i]? = some c → c.length = sz) → es.length ≤ 140737488351232 → HasT (.sl e sz) [.sl es]
  | st (fs : List Ty) (xs : List FV) : xs.length = fs.length → (∀ (i : Nat) (f : Ty) (x : FV), fs[i]? = some f → xs[i]? = some x → HasT f [x]) → HasT (.st fs) xs

instance : Inhabited FV := ⟨.sl []⟩
theorem cellAt_of_cell {w : World} {k o : Nat} {v : Value} (h : w.cell? ⟨k, o, none⟩ = some v) : cellAt (heapOf w) k o = some v := by
  unfold cellAt heapOf
  simp only [World.cell?] at h
  split
  · rename_i c t z hk
    rw [hk] at h; exact h
  · rename_i hne
    cases hh : w.heap[k]? with
    | none => rw [hh] at h; simp at h
    | some o =>
      rw [hh] at h
      cases o with
      | cells c t z => exact absurd hh (hne c t z)
      | _ => simp at h

theorem weightsAll_mem {H : Type} {P : Program} {e : TypeId} {d : DataW H} : ∀ {l : List (DataW H)}, d ∈ l → ∀ n ∈ d.weights P e, n ∈ DataW.weightsAll P e l
  | [], h, _, _ => by simp at h
  | x :: r, h, n, hn => by
    simp only [DataW.weightsAll, List.mem_append]
    rcases List.mem_cons.1 h with rfl | h
    · exact .inl hn
    · exact .inr (weightsAll_mem h n hn)
theorem read_sound {H : Type} {enc : TypeId × Value → H} {P : Program} {w : World} {base : Nat} {spare : Nat → Bool} {held : Bool} {T : Ty} {t : TypeId} (hT : TyOk P T t) : ∀ (fuel : Nat) (cs : List Value) (x : DataW H × List MemPlace), DataW.trod enc P w base spare held fuel t cs = some x → (∀ n ∈ x.1.weights P t, n ≤ reachBytes) →
    ∃ xs, HasT T xs ∧ xs.length = cs.length ∧ ∀ (i : Nat) (y : FV) (u : Value), xs[i]? = some y → cs[i]? = some u → FR (heapOf w) y u := by
  induction hT with
  | i k t ht =>
    intro fuel cs x h hwt
    obtain ⟨n, rfl, _, hw⟩ := DataW.trod_int ht h
    exact ⟨_, .i k n hw, rfl, fun i y u e1 e2 => by
      cases i with
      | zero => simp at e1 e2; subst e1; subst e2; exact .sc _ rfl
      | succ i => simp at e1⟩
  | s t ht =>
    intro fuel cs x h hwt
    obtain ⟨q, rfl, hxq, hw⟩ := DataW.trod_string ht h
    have hq : q.size ≤ 140737488351232 := by
      rw [hxq] at hwt
      have h2 := hwt q.data.toList.length (by simp only [DataW.weights, List.mem_singleton])
      rw [Array.length_toList] at h2
      exact h2
    exact ⟨_, .s q hq, rfl, fun i y u e1 e2 => by
      cases i with
      | zero => simp at e1 e2; subst e1; subst e2; exact .sc _ rfl
      | succ i => simp at e1⟩
  | b t ht =>
    intro fuel cs x h hwt
    obtain ⟨q, rfl, _⟩ := DataW.trod_bool ht h
    exact ⟨_, .b q, rfl, fun i y u e1 e2 => by
      cases i with
      | zero => simp at e1 e2; subst e1; subst e2; exact .sc _ rfl
      | succ i => simp at e1⟩
  | sl e sz t u ht hc h0 hby _ ih =>
    intro fuel cs x h hwt
    rcases open_slice ht h with ⟨rfl, _⟩ | ⟨a, len, cap, m, n, D, Pl, rfl, hb, hl, hm, hmm, rfl, hx⟩
    · exact ⟨_, .sl e sz [] (fun i c h => by simp at h) (fun i c h => by simp at h) (Nat.zero_le _), rfl, fun i y u e1 e2 => by
        cases i with
        | zero => simp at e1 e2; subst e1; subst e2; exact .sl0 _ _
        | succ i => simp at e1⟩
    · rw [hc] at hx
      have hml : len ≤ m := by rw [hmm]; split <;> omega
      simp only [DataW.weights, ht] at hwt
      have hlen : len ≤ 140737488351232 := by
        have h1 := hwt _ List.mem_cons_self
        simp only [List.length_map, List.length_range, reachBytes] at h1
        have h2 : len * 1 ≤ (len + (m - len)) * P.bytesOf u := Nat.mul_le_mul (by omega) hby
        omega
      have hwi : ∀ i, i < len → ∀ n ∈ (D i).weights P u, n ≤ reachBytes := fun i hi n hn =>
        hwt n (List.mem_cons_of_mem _ (List.mem_append_left _ (weightsAll_mem (List.mem_map.2 ⟨i, List.mem_range.2 hi, rfl⟩) n hn)))
      have hel : ∀ i, i < len → ∃ c : List FV, HasT e c ∧ c.length = sz ∧ ∀ (j : Nat) (y : FV), c[j]? = some y → ∃ v, w.cell? ((a.add (i * sz)).add j) = some v ∧ FR (heapOf w) y v := by
        intro i hi
        obtain ⟨cs', h1, h2⟩ := hx i (by omega)
        obtain ⟨_, hlen, hcell⟩ := World.cells?_some h1
        obtain ⟨xs, g1, g2, g3⟩ := ih n cs' _ h2 (hwi i hi)
        refine ⟨xs, g1, by omega, fun j y hy => ?_⟩
        have hj : j < cs'.length := by have := (List.getElem?_eq_some_iff.1 hy).1; omega
        refine ⟨cs'[j], ?_, g3 j y _ hy (List.getElem?_eq_getElem hj)⟩
        rw [hcell j (by omega), List.getElem?_eq_getElem hj]
      obtain ⟨E, hE⟩ := choose_lt hel
      have hget : ∀ (i : Nat) (c : List FV), ((List.range len).map E)[i]? = some c → i < len ∧ c = E i := by
        intro i c hi
        rw [List.getElem?_map] at hi
        obtain ⟨q, hq, rfl⟩ := Option.map_eq_some_iff.1 hi
        obtain ⟨h1, h2⟩ := List.getElem?_eq_some_iff.1 hq
        simp at h1 h2
        subst h2
        exact ⟨h1, rfl⟩
      refine ⟨[.sl ((List.range len).map E)], .sl e sz _ (fun i c hi => ?_) (fun i c hi => ?_) (by simp; omega), rfl, fun i y u' e1 e2 => ?_⟩
      · obtain ⟨g1, rfl⟩ := hget i c hi
        exact (hE i g1).1
      · obtain ⟨g1, rfl⟩ := hget i c hi
        exact (hE i g1).2.1
      · cases i with
        | succ i => simp at e1
        | zero =>
          simp at e1 e2; subst e1; subst e2
          by_cases hl0 : len = 0
          · subst hl0; exact .sl0 (some a) cap
          · obtain ⟨k, o, sp⟩ := a
            have hsp : sp = none := by
              obtain ⟨_, q2, q3⟩ := hE 0 (by omega)
              obtain ⟨v, hv, _⟩ := q3 0 _ (List.getElem?_eq_getElem (by omega))
              simpa [Addr.add] using World.cell?_spot hv
            subst hsp
            have hll : ((List.range len).map E).length = len := by simp
            have hv : ∀ (i : Nat) (c : List FV) (j : Nat) (y : FV), ((List.range len).map E)[i]? = some c → c[j]? = some y → ∃ v, w.cell? ⟨k, o + (i * sz + j), none⟩ = some v ∧ FR (heapOf w) y v := by
              intro i c j y hi hj
              obtain ⟨g1, rfl⟩ := hget i c hi
              obtain ⟨v, hv, hr⟩ := (hE i g1).2.2 j y hj
              refine ⟨v, ?_, hr⟩
              rw [add_add, add_at] at hv
              exact hv
            have := FR.sl (h := heapOf w) ((List.range len).map E) sz k o none cap (fun i j => (w.cell? ⟨k, o + (i * sz + j), none⟩).getD undef) (fun i c hi => by
              obtain ⟨g1, rfl⟩ := hget i c hi
              exact (hE i g1).2.1) (by simpa using hl) (fun _ => rfl) (fun i c j y hi hj => by
              obtain ⟨v, h1, _⟩ := hv i c j y hi hj
              rw [cellAt_of_cell h1, h1]; rfl) (fun i c j y hi hj => by
              obtain ⟨v, h1, h2⟩ := hv i c j y hi hj
              simp only [h1]; exact h2)
            rw [hll] at this
            exact this
  | st fs t gs ht h1 hC hsz _ ih =>
    intro fuel cs x h hwt
    obtain ⟨xs, n, _, hlen, hx, hxl, hf⟩ := DataW.trod_struct ht h
    rw [hlen] at hwt
    simp only [DataW.weights, ht] at hwt
    have hone := hone_of h1
    have key : ∀ i, i < fs.length → ∃ y : FV, (∀ f, fs[i]? = some f → HasT f [y]) ∧ FR (heapOf w) y (cs.getD i undef) := by
      intro i hi
      have hgi : gs[i]? = some gs[i] := by simp [show i < gs.size by omega]
      have hfi : fs[i]? = some fs[i] := List.getElem?_eq_getElem hi
      obtain ⟨ho, hc1⟩ := hone i _ hgi
      have g := hf i _ hgi
      have hxi : i < xs.length := by omega
      rw [ho, hc1, take1_drop cs i undef (by omega), List.getElem?_eq_getElem hxi] at g
      obtain ⟨ys, q1, q2, q3⟩ := ih i _ _ hfi hgi n _ _ g fun k hk => hwt k (DataW.weights_mem_each (j := i) (t := gs[i].type) (d := xs[i].1) (by simp [show i < gs.size by omega]) (by simp [hxi]) k hk)
      match ys, q2 with
      | [y], _ => exact ⟨y, fun f hf' => by rw [hfi] at hf'; injection hf' with hf'; subst hf'; exact q1, q3 0 y _ rfl rfl⟩
    obtain ⟨Y, hY⟩ := choose_lt (α := FV) (h := key)
    have hcl : cs.length = fs.length := by omega
    have hg2 : ∀ (i : Nat) (y : FV), ((List.range fs.length).map Y)[i]? = some y → i < fs.length ∧ y = Y i := by
      intro i y hi
      rw [List.getElem?_map] at hi
      obtain ⟨q, hq, rfl⟩ := Option.map_eq_some_iff.1 hi
      obtain ⟨h1, h2⟩ := List.getElem?_eq_some_iff.1 hq
      simp at h1 h2
      subst h2
      exact ⟨h1, rfl⟩
    refine ⟨(List.range fs.length).map Y, .st fs _ (by simp) (fun i f y e1 e2 => ?_), by simp [hcl], fun i y u e1 e2 => ?_⟩
    · obtain ⟨g1, rfl⟩ := hg2 i y e2
      exact (hY i g1).1 f e1
    · obtain ⟨g1, rfl⟩ := hg2 i y e1
      have := (hY i g1).2
      rw [List.getD_eq_getElem?_getD, e2] at this
      exact this

def argAV : Ty → List FV → AV
  | .st _, xs => .agg (xs.map .fz)
  | _, [x] => .fz x
  | _, _ => .dead

theorem arg_sound {H : Type} {enc : TypeId × Value → H} {P : Program} {w : World} {base b0 : Nat} {r : Reach} {spare : Nat → Bool} {held : Bool} {T : Ty} {t : TypeId} (hT : TyOk P T t) {v : Value} {d : DataW H} {ps : List MemPlace} (hv : Value.okWide P w r b0 t v) (h : DataW.Trod enc P w base spare held t v d ps) (hwt : ∀ n ∈ d.weights P t, n ≤ reachBytes) :
    ∃ xs, HasT T xs ∧ VR (fun _ => none) (heapOf w) (argAV T xs) v := by
  obtain ⟨fuel, h⟩ := h
  obtain ⟨xs, h1, h2, h3⟩ := read_sound hT fuel _ _ h hwt
  refine ⟨xs, h1, ?_⟩
  have one : ∀ x, xs = [x] → (∀ cs, v ≠ .agg cs) → VR (fun _ => none) (heapOf w) (.fz x) v := by
    rintro x rfl hna
    have hc : v.cells.toList = [v] := by
      cases v <;> first | rfl | exact absurd rfl (hna _)
    exact .fz _ _ (h3 0 x v rfl (by rw [hc]; rfl))
  cases hT with
  | i k _ ht =>
    cases h1
    refine one _ rfl ?_
    rintro cs rfl
    simp [Value.okWide, ht, Cell.okWide, Cell.ok] at hv
  | s _ ht =>
    cases h1
    refine one _ rfl ?_
    rintro cs rfl
    simp [Value.okWide, ht, Cell.okWide, Cell.ok] at hv
  | b _ ht =>
    cases h1
    refine one _ rfl ?_
    rintro cs rfl
    simp [Value.okWide, ht, Cell.okWide, Cell.ok] at hv
  | sl e sz _ u ht hc h0 _ he =>
    have hna : ∀ cs, v ≠ .agg cs := by
      rintro cs rfl
      simp [Value.okWide, ht, Cell.okWide, Cell.ok] at hv
    cases h1 with
    | sl _ _ es _ _ => exact one _ rfl hna
  | st fs _ gs ht _ _ _ _ =>
    simp only [Value.okWide, ht] at hv
    obtain ⟨cs, rfl, _⟩ := hv
    show VR _ _ (.agg (xs.map .fz)) (.agg cs)
    have : cs = cs.toList.toArray := by simp
    rw [this]
    refine .agg _ _ (by simpa [Value.cells] using h2) fun i x u e1 e2 => ?_
    rw [List.getElem?_map] at e1
    obtain ⟨y, hy, rfl⟩ := Option.map_eq_some_iff.1 e1
    exact .fz _ _ (h3 i y u hy e2)

end Go.Vai

set_option linter.unusedVariables false
set_option linter.unusedSimpArgs false
namespace Go.Vai
open Go.RowKit Go.ChangeShapes Go.WideShapes


theorem Frame0.below {W W' : World} (F : Frame0 (fun _ => False) W W') : Below W.heap.size W W' :=
  ⟨F.os, F.tape, F.output, F.size, fun k hk => F.keep k hk fun h => h⟩

theorem trodAll_stays {H : Type} {enc : TypeId × Value → H} {P : Program} (hl : laidOutB P = true) {W W' : World} (hb : Below W.heap.size W W') {sp : Nat → Bool} : ∀ {ts : List TypeId} {vs : List Value} {ds : List (DataW H)} {ps : List MemPlace},
    (∀ t ∈ ts, P.readableRec t = true ∧ t < P.types.size) → DataW.TrodAll enc P W 0 (fun _ => true) true ts vs ds ps → (∀ p ∈ ps, p.block < W.heap.size ∧ sp p.block = true) → DataW.TrodAll enc P W' 0 sp true ts vs ds ps
  | [], _, _, _, ht, h, hp => by
    obtain ⟨rfl, rfl, rfl⟩ := trodAll_nil h
    exact h
  | t :: ts, _, _, _, ht, h, hp => by
    obtain ⟨v, vs1, d, ds1, a, b, rfl, rfl, rfl, h1, h2⟩ := trodAll_cons h
    have htt := ht t (by simp)
    refine ⟨a, b, ?_, trodAll_stays hl hb (fun u hu => ht u (by simp [hu])) h2 fun p hp' => hp p (by simp [hp']), rfl⟩
    exact WideElems.Trod_stays hl htt.1 htt.2 h1 (fun x hx => hb.same (hp x (by simp [hx])).1) fun x hx => (hp x (by simp [hx])).2

theorem post_true {H : Type} {enc : TypeId × Value → H} {P : Program} {f : Func} {s : ChangeSpec} {apart fresh handsOn again : Bool} {W W' : World} {args : Array Value} {ds gs : List (DataW H)} {before : List MemPlace} {tb : TypeId}
    (hW : DataW.Whole enc P f.params.toList s.vars apart W args.toList ds gs before) (hv : s.vars = []) (F : Frame0 (fun _ => False) W W') (hl : laidOutB P = true) (hps : ∀ t ∈ f.params.toList, P.readableRec t = true ∧ t < P.types.size)
    (hres : f.resultTypes = #[tb]) (hb : P.underlying tb = some .bool) (hfn : s.fn H (ds ++ gs) = { results := [.lit (.bool true)], args := ds }) : s.post enc P f apart fresh handsOn again W args (.bool true) W' := by
  have hB := F.below
  have hlt : ∀ p ∈ before, p.block < W.heap.size := fun p hp => hW.lt p hp
  have hW0 := hW
  obtain ⟨p, q, hA, hV, hpq, hz, hn⟩ := hW
  rw [hv] at hV
  have hgq : gs = [] ∧ q = [] := by
    cases gs with
    | nil => exact ⟨rfl, hV⟩
    | cons g r => exact absurd hV (by intro h; cases h)
  obtain ⟨rfl, rfl⟩ := hgq
  rw [List.append_nil] at hpq
  subst hpq
  have hargs : ∀ sp : Nat → Bool, (∀ x ∈ before, sp x.block = true) → DataW.TrodAll enc P W' 0 sp true f.params.toList args.toList ds before := fun sp hsp => trodAll_stays hl hB hps hA fun x hx => ⟨hlt x hx, hsp x hx⟩
  have hold : ∀ x ∈ before, (fun b => decide (b < W.heap.size)) x.block = true := fun x hx => by simpa using hlt x hx
  have hr : ∀ (b : Nat) (sp : Nat → Bool) (hd : Bool), DataW.TrodAll enc P W' b sp hd f.resultTypes.toList ((Value.bool true).resultList f.resultTypes.size) [.lit (.bool true)] [] := by
    intro b sp hd
    rw [hres]
    exact trodAll_mk1 (shut_bool hb true)
  have hvv : ∀ sp : Nat → Bool, DataW.TrodVars enc P W' sp s.vars ([] : List (DataW H)) [] := fun sp => by rw [hv]; rfl
  refine ⟨ds, [], before, [], before, [], hW0, by rw [hfn]; exact hr _ _ _, by rw [hfn]; exact hargs _ hold, by rw [hfn]; exact hvv _, ?_, fun _ => ?_⟩
  · refine ⟨F.os, F.output, fun i hi => ?_⟩
    rw [hB.block i hi]
    split
    · rename_i h1 h2
      rw [h1] at h2
      injection h2 with h2
      injection h2 with a1 a2 a3
      subst a1; subst a2; subst a3
      exact ⟨rfl, rfl, rfl, fun j _ => rfl⟩
    · rename_i h1 h2
      rw [h1] at h2
      injection h2 with h2
      injection h2 with a1 a2
      subst a1; subst a2
      exact .inr ⟨rfl, rfl⟩
    · rfl
  · refine ⟨ok_one hres rfl (okWide_bool_mk hb true), _, _, ([] ++ before) ++ [], ⟨[] ++ before, [], trodAll_append (hargs _ (fun _ _ => rfl)) (hr _ _ _), hvv _, rfl, ?_, ?_⟩, ?_⟩
    · intro b off hp
      have hp' : MemPlace.cell b off ∈ before := by simpa using hp
      have hbl := hlt _ hp'
      have : W'.frozen? ⟨b, off, none⟩ = W.frozen? ⟨b, off, none⟩ := by
        have := hB.block b hbl
        simp only [World.frozen?, this]
      rw [this]
      exact hz b off hp'
    · intro ha
      simpa using hn ha
    · intro x hx _
      simpa using hx

end Go.Vai
