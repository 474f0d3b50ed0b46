/-
  What laid tables and arguments are to the abstract run; a world that meets the row's condition; arguments by their types.
-/
import Derived.Test.YtfaomcaimppmeaaDoorTie
import Derived.Test.YtfaomcaimppmeaaDoorCards
import Derived.OpenShut
import Derived.ChangeArms
import Derived.LaidLaws
import Derived.LaidHandle
import Derived.JoinedOf
import Derived.Handed
import Derived.SevenTiedAt
import Derived.Stop.Joined
import Derived.Test.YtfaomcaimppmeaaDoorGD
set_option linter.unusedVariables false
set_option linter.unusedSimpArgs false
set_option linter.unnecessarySimpa false
namespace Go.Vai
open Go.RowKit Go.ChangeShapes Go.WideShapes Go.Proofs Go.Proofs.YtfaomcaimppmeaaDoor

section
variable {H : Type} {enc : TypeId × Value → H} {P : Program} {w : World} {base : Nat} {spare : Nat → Bool} {held : Bool}
theorem take1 (cs : List Value) (i : Nat) (v : Value) (h : (cs.drop i).take 1 = [v]) : cs[i]? = some v := by
  have h1 : ((cs.drop i).take 1)[0]? = some v := by rw [h]; rfl
  rw [List.getElem?_take, if_pos (by omega), List.getElem?_drop] at h1
  simpa using h1
theorem cells_ints {t e : TypeId} {n fuel : Nat} {k : IntKind} {cs : List Value} {ns : List Int} {p : List MemPlace} (ht : P.underlying t = some (.array n e)) (he : P.underlying e = some (.int k)) (hc : P.cellsOf e = 1)
    (h : DataW.trod enc P w base spare held fuel t cs = some (.agg (ns.map fun x => .lit (.int k x)), p)) : ∀ (i : Nat) (x : Int), ns[i]? = some x → cs[i]? = some (.int k x) := by
  obtain ⟨xs, m, _, hx, hl, hn, hf⟩ := DataW.trod_array ht h
  injection hx with hx _
  injection hx with hx
  intro i x hi
  have hlen : ns.length = xs.length := by have := congrArg List.length hx; simpa using this
  have hlt := (List.getElem?_eq_some_iff.1 hi).1
  have hxi : xs[i]? = some xs[i] := List.getElem?_eq_getElem (by omega)
  have g := hf i (by omega)
  rw [hc, Nat.mul_one, hxi] at g
  obtain ⟨n', q1, q2, _⟩ := DataW.trod_int he g
  have h2 := congrArg (fun l => l[i]?) hx
  simp only [List.getElem?_map, hi, hxi, Option.map_some] at h2
  rw [q2] at h2
  injection h2 with h2
  injection h2 with h2
  injection h2 with _ h2
  rw [h2]
  exact take1 _ _ _ q1
theorem cells_pairs {t e : TypeId} {n fuel : Nat} {k : IntKind} {f0 f1 : Field} {cs : List Value} {ns : List (Int × Int)} {p : List MemPlace} (ht : P.underlying t = some (.array n e)) (he : P.underlying e = some (.struct #[f0, f1])) (hc : P.cellsOf e = 2)
    (o0 : f0.offset = 0) (o1 : f1.offset = 1) (u0 : P.underlying f0.type = some (.int k)) (u1 : P.underlying f1.type = some (.int k)) (c0 : P.cellsOf f0.type = 1) (c1 : P.cellsOf f1.type = 1)
    (h : DataW.trod enc P w base spare held fuel t cs = some (.agg (ns.map fun x => .agg [.lit (.int k x.1), .lit (.int k x.2)]), p)) : ∀ (i : Nat) (x : Int × Int), ns[i]? = some x → cs[2 * i]? = some (.int k x.1) ∧ cs[2 * i + 1]? = some (.int k x.2) := by
  obtain ⟨xs, m, _, hx, hl, hn, hf⟩ := DataW.trod_array ht h
  injection hx with hx _
  injection hx with hx
  intro i x hi
  have hlen : ns.length = xs.length := by have := congrArg List.length hx; simpa using this
  have hlt := (List.getElem?_eq_some_iff.1 hi).1
  have hxi : xs[i]? = some xs[i] := List.getElem?_eq_getElem (by omega)
  have g := hf i (by omega)
  rw [hc, hxi] at g
  have h2 := congrArg (fun l => l[i]?) hx
  simp only [List.getElem?_map, hi, hxi, Option.map_some] at h2
  injection h2 with h2
  obtain ⟨ys, m2, _, hy, hyl, hyn, hyf⟩ := DataW.trod_struct he g
  have g0 := hyf 0 f0 rfl
  have g1 := hyf 1 f1 rfl
  have hy1 : xs[i].1 = .agg (ys.map (·.1)) := by rw [hy]
  rw [hy1] at h2
  injection h2 with h2
  have hys : ys.length = 2 := by simpa using hyn
  obtain ⟨y0, y1, rfl⟩ : ∃ y0 y1, ys = [y0, y1] := by
    match ys, hys with
    | [y0, y1], _ => exact ⟨y0, y1, rfl⟩
  simp only [List.map_cons, List.map_nil, List.cons.injEq, and_true] at h2
  rw [o0, c0] at g0
  rw [o1, c1] at g1
  have g0 : DataW.trod enc P w base spare held m2 f0.type (List.take 1 (List.drop 0 _)) = some y0 := g0
  have g1 : DataW.trod enc P w base spare held m2 f1.type (List.take 1 (List.drop 1 _)) = some y1 := g1
  obtain ⟨n0, q0, r0, _⟩ := DataW.trod_int u0 g0
  obtain ⟨n1, q1, r1, _⟩ := DataW.trod_int u1 g1
  rw [r0, r1] at h2
  obtain ⟨s0, s1⟩ := h2
  injection s0 with s0; injection s0 with _ s0
  injection s1 with s1; injection s1 with _ s1
  have t0 := take1 _ _ _ q0
  have t1 := take1 _ _ _ q1
  rw [List.getElem?_take, if_pos (by omega), List.getElem?_drop] at t0 t1
  rw [s0, s1]
  refine ⟨?_, ?_⟩
  · rw [← t0]; congr 1; omega
  · rw [← t1]; congr 1; omega
end
end Go.Vai

set_option linter.unusedVariables false
set_option linter.unusedSimpArgs false
set_option linter.unnecessarySimpa false
namespace Go.Vai
open Go.RowKit Go.ChangeShapes Go.WideShapes Go.Proofs Go.Proofs.YtfaomcaimppmeaaDoor

def accP : List (Int × Int) := [(128, 191), (160, 191), (128, 159), (144, 191), (128, 143)] ++ List.replicate 11 (0, 0)
def firstZ : List Int := Pinned.utf8FirstZ.map fun (n : Nat) => (n : Int)
theorem gFirst_z : gFirst = firstZ.map fun n => .sc (.int .u8 n) := by kernel_rfl
theorem gAcc_z : gAcc = accP.flatMap fun x => [.sc (.int .u8 x.1), .sc (.int .u8 x.2)] := by kernel_rfl
theorem first_d : Pinned.utf8First = .agg (firstZ.map fun x => .lit (.int .u8 x)) := by kernel_rfl
theorem acc_d : (Rows.laid_unicode_utf8_acceptRanges : DataW Unit) = .agg (accP.map fun x => .agg [.lit (.int .u8 x.1), .lit (.int .u8 x.2)]) := by kernel_rfl
theorem flat_get {α : Type} (f : Int → α) : ∀ (l : List (Int × Int)) (j : Nat) (z : α), (l.flatMap fun x => [f x.1, f x.2])[j]? = some z → ∃ i y, l[i]? = some y ∧ ((j = 2 * i ∧ z = f y.1) ∨ (j = 2 * i + 1 ∧ z = f y.2))
  | [], j, z, h => by simp at h
  | y :: r, 0, z, h => ⟨0, y, rfl, .inl ⟨rfl, by simpa using h.symm⟩⟩
  | y :: r, 1, z, h => ⟨0, y, rfl, .inr ⟨rfl, by simpa using h.symm⟩⟩
  | y :: r, j + 2, z, h => by
    have h' : (r.flatMap fun x => [f x.1, f x.2])[j]? = some z := by simpa using h
    obtain ⟨i, y', h1, h2⟩ := flat_get f r j z h'
    refine ⟨i + 1, y', by simpa using h1, ?_⟩
    rcases h2 with ⟨rfl, h2⟩ | ⟨rfl, h2⟩
    · exact .inl ⟨by omega, h2⟩
    · exact .inr ⟨by omega, h2⟩

abbrev laidL : List (String × DataW Unit) := [("unicode/utf8.acceptRanges", Rows.laid_unicode_utf8_acceptRanges), ("unicode/utf8.first", Rows.laid_unicode_utf8_first)]
theorem laidL_met {W : World} (h : laidMetH Tryd.prog laidL W) : laidMet Tryd.prog laidL W := h
theorem var_heap {P : Program} {w : World} {n : String} {g : Nat} {cs : Array Value} (hg : P.globalNamed n = some g) (h : w.var? P n = some cs) : ∃ t z, w.heap[g]? = some (.cells cs t z) := by
  simp only [World.var?, hg, Option.bind_some] at h
  split at h
  · rename_i cs' t z e
    injection h with h; subst h
    exact ⟨t, z, e⟩
  · cases h
theorem gr_of_laid {W : World} (h : laidMetH Tryd.prog laidL W) : GR Gt (heapOf W) := by
  obtain ⟨ps, hv, _, _⟩ := laidL_met h
  obtain ⟨g, t, cs, fuel, p, q, a1, a2, a3, a4, hv2, _⟩ := hv
  obtain ⟨g2, t2, cs2, fuel2, p2, q2, b1, b2, b3, b4, _, _⟩ := hv2
  obtain rfl : 1 = g := Option.some.inj ((show Tryd.prog.globalNamed "unicode/utf8.acceptRanges" = some 1 by kernel_rfl).symm.trans a1)
  obtain rfl : 0 = g2 := Option.some.inj ((show Tryd.prog.globalNamed "unicode/utf8.first" = some 0 by kernel_rfl).symm.trans b1)
  obtain rfl : 140 = t := Option.some.inj ((show (Tryd.prog.globals[1]?).map (·.type) = some 140 by kernel_rfl).symm.trans a2)
  obtain rfl : 137 = t2 := Option.some.inj ((show (Tryd.prog.globals[0]?).map (·.type) = some 137 by kernel_rfl).symm.trans b2)
  rw [acc_d] at a4
  have b4' := b4
  rw [show (Rows.laid_unicode_utf8_first : DataW Unit) = Pinned.utf8First from rfl, first_d] at b4'
  have c1 := cells_pairs (k := .u8) (show Tryd.prog.underlying 140 = some (.array 16 139) by kernel_rfl) Tryd.underlying139 (by kernel_rfl) rfl rfl (by kernel_rfl) (by kernel_rfl) (by kernel_rfl) (by kernel_rfl) a4
  have c0 := cells_ints (k := .u8) (show Tryd.prog.underlying 137 = some (.array 256 5) by kernel_rfl) (by kernel_rfl) (by kernel_rfl) b4'
  have s1 : cs.size = 32 := by
    obtain ⟨_, _, _, _, hl, _⟩ := DataW.trod_array (show Tryd.prog.underlying 140 = some (.array 16 139) by kernel_rfl) a4
    rw [← Array.length_toList, hl]; kernel_rfl
  have s0 : cs2.size = 256 := by
    obtain ⟨_, _, _, _, hl, _⟩ := DataW.trod_array (show Tryd.prog.underlying 137 = some (.array 256 5) by kernel_rfl) b4'
    rw [← Array.length_toList, hl]; kernel_rfl
  intro gg c hc
  have key : ∀ (cs : Array Value) (n : String) (m : Nat), Tryd.prog.globalNamed n = some m → W.var? Tryd.prog n = some cs → cs.size = c.length → (∀ (j : Nat) (x : FV), c[j]? = some x → ∃ k, x = .sc (.int .u8 k) ∧ cs[j]? = some (.int .u8 k)) →
      (∃ us : Nat → Value, (∀ (j : Nat) (x : FV), c[j]? = some x → cellAt (heapOf W) m j = some (us j)) ∧ (∀ (j : Nat) (x : FV), c[j]? = some x → FR (heapOf W) x (us j))) ∧ ∃ cs t z, heapOf W m = some (.cells cs t z) ∧ cs.size = c.length := by
    intro cs n m h1 h2 hs h3
    obtain ⟨t, z, hh⟩ := var_heap h1 h2
    refine ⟨?_, cs, t, z, hh, hs⟩
    refine ⟨fun j => (cs[j]?).getD undef, fun j x hj => ?_, fun j x hj => ?_⟩
    · obtain ⟨k, rfl, h4⟩ := h3 j x hj
      have := World.var?_cell h1 h2 j
      rw [h4] at this
      have h5 := cellAt_of_cell this
      simp only [h4]
      exact h5
    · obtain ⟨k, rfl, h4⟩ := h3 j x hj
      simp only [h4]
      exact .sc _ rfl
  match gg with
  | 0 =>
    simp only [Gt] at hc
    injection hc with hc; subst hc
    refine key cs2 _ 0 b1 b3 (by rw [s0]; kernel_rfl) fun j x hj => ?_
    rw [gFirst_z, List.getElem?_map] at hj
    obtain ⟨n, hn, rfl⟩ := Option.map_eq_some_iff.1 hj
    exact ⟨n, rfl, by simpa using c0 j n hn⟩
  | 1 =>
    simp only [Gt] at hc
    injection hc with hc; subst hc
    refine key cs _ 1 a1 a3 (by rw [s1]; kernel_rfl) fun j x hj => ?_
    rw [gAcc_z] at hj
    obtain ⟨i, y, h1, h2⟩ := flat_get (fun n => FV.sc (.int .u8 n)) accP j x hj
    obtain ⟨d1, d2⟩ := c1 i y h1
    rcases h2 with ⟨rfl, h2⟩ | ⟨rfl, h2⟩
    · exact ⟨y.1, h2, by simpa using d1⟩
    · exact ⟨y.2, h2, by simpa using d2⟩
  | n + 2 => simp [Gt] at hc

def cellsOfG (c : List FV) : Array Value := (c.map fun
  | .sc v => v
  | _ => undef).toArray
noncomputable def laidW (os : Os) : World :=
  let w0 := World.holding Tryd.prog os ⟨#[], #[], []⟩
  { w0 with heap := (w0.heap.modify 0 fun
      | .cells _ t z => .cells (cellsOfG gFirst) t z
      | o => o).modify 1 fun
      | .cells _ t z => .cells (cellsOfG gAcc) t z
      | o => o }
theorem Tryd_own : ownKnob Tryd.prog.godebug = none := by kernel_rfl
theorem Tryd_laidOut : laidOutB Tryd.prog = true := by kernel_rfl
theorem laidW_met (os : Os) (args : Array Value) : laidMetH Tryd.prog laidL ((laidW os).forCall (fun _ _ => 0) ⟨#[], args, []⟩).memory :=
  (laidMet_of_run' 8 (by kernel_rfl) (by kernel_rfl) : laidMet Tryd.prog laidL ((laidW os).forCall (fun _ _ => 0) ⟨#[], args, []⟩).memory)
end Go.Vai

set_option linter.unusedVariables false
set_option linter.unusedSimpArgs false
set_option linter.unnecessarySimpa false
namespace Go.Vai
open Go.Deep Go.RowKit Go.ChangeShapes Go.WideShapes Go.Proofs Go.Proofs.YtfaomcaimppmeaaDoor
def tPt : Ty := .st [.i .i64, .i .i64]
def tOl : Ty := .sl tPt 2
def tOls : Ty := .sl tOl 1
theorem hasT_int {k : IntKind} {xs : List FV} (h : HasT (.i k) xs) : ∃ n : Int, xs = [.sc (.int k n)] ∧ (Lit.int k n).wf = true := by
  cases h with
  | i k n h => exact ⟨n, rfl, h⟩
theorem hasT_pt {xs : List FV} (h : HasT tPt xs) : ∃ p : Pt, xs = ePt p ∧ True := by
  cases h with
  | st _ _ hl hf =>
    match xs, hl with
    | [x, y], _ =>
      obtain ⟨a, ha, _⟩ := hasT_int (hf 0 _ x rfl rfl)
      obtain ⟨b, hb, _⟩ := hasT_int (hf 1 _ y rfl rfl)
      injection ha with ha
      injection hb with hb
      subst ha; subst hb
      exact ⟨(a, b), rfl, trivial⟩
theorem rows_of {α : Type} {enc : α → List FV} {Q : α → Prop} : ∀ (es : List (List FV)), (∀ c ∈ es, ∃ x, c = enc x ∧ Q x) → ∃ l : List α, es = l.map enc ∧ ∀ x ∈ l, Q x
  | [], _ => ⟨[], rfl, fun x h => by simp at h⟩
  | c :: r, h => by
    obtain ⟨x, rfl, hq⟩ := h c (by simp)
    obtain ⟨l, rfl, hl⟩ := rows_of r fun c hc => h c (by simp [hc])
    refine ⟨x :: l, rfl, fun y hy => ?_⟩
    rcases List.mem_cons.1 hy with rfl | hy
    · exact hq
    · exact hl y hy
theorem hasT_rows {α : Type} {enc : α → List FV} {Q : α → Prop} {e : Ty} {sz : Nat} {xs : List FV} (he : ∀ c, HasT e c → ∃ x, c = enc x ∧ Q x) (h : HasT (.sl e sz) xs) : ∃ l : List α, xs = [.sl (l.map enc)] ∧ l.length ≤ 140737488351232 ∧ ∀ x ∈ l, Q x := by
  cases h with
  | sl _ _ es h1 _ h3 =>
    obtain ⟨l, rfl, hl⟩ := rows_of (enc := enc) (Q := Q) es fun c hc => by
      obtain ⟨i, hi⟩ := List.mem_iff_getElem?.1 hc
      exact he c (h1 i c hi)
    exact ⟨l, rfl, by simpa using h3, hl⟩
theorem hasT_ol {xs : List FV} (h : HasT tOl xs) : ∃ o : Ol, xs = eOl o ∧ o.length ≤ 140737488351232 := by
  obtain ⟨l, rfl, h2, _⟩ := hasT_rows (enc := ePt) (fun c hc => hasT_pt hc) h
  exact ⟨l, rfl, h2⟩
theorem hasT_ols {xs : List FV} (h : HasT tOls xs) : ∃ l : List Ol, xs = [.sl (l.map eOl)] ∧ l.length ≤ 140737488351232 ∧ ∀ o ∈ l, o.length ≤ 140737488351232 := hasT_rows (enc := eOl) (fun c hc => hasT_ol hc) h
theorem ok_int : TyOk Tryd.prog (.i .i64) 3 := .i _ _ (by kernel_rfl)
theorem ok_pt : TyOk Tryd.prog tPt 75 := by
  refine .st [.i .i64, .i .i64] 75 _ Tryd.underlying75 (by kernel_rfl) (by kernel_rfl) rfl ?_
  intro i f g h1 h2
  match i with
  | 0 => simp at h1 h2; subst h1; subst h2; exact ok_int
  | 1 => simp at h1 h2; subst h1; subst h2; exact ok_int
  | n + 2 => simp at h1
theorem ok_ol : TyOk Tryd.prog tOl 42 := .sl _ _ 42 75 (by kernel_rfl) (by kernel_rfl) (by decide) (of_decide_eq_true (by kernel_rfl)) ok_pt
theorem ok_ols : TyOk Tryd.prog tOls 34 := .sl _ _ 34 42 (by kernel_rfl) (by kernel_rfl) (by decide) (of_decide_eq_true (by kernel_rfl)) ok_ol

def tPc : Ty := .st [.i .i64, .i .i64, .i .i64]
def tGl : Ty := .st [.i .i64, tOls, .sl tPc 3]
def tFont : Ty := .st [.sl tGl 3, .sl tPt 2]
def tInts : Ty := .sl (.i .i64) 1
abbrev maxL : Nat := 140737488351232
theorem hasT_str {xs : List FV} (h : HasT .s xs) : ∃ l : List UInt8, xs = [.sc (.string (mkB l))] ∧ l.length ≤ 140737488351232 := by
  cases h with
  | s q h => exact ⟨q.data.toList, by rw [mkB_data], by rw [Array.length_toList]; exact h⟩
theorem hasT_u8 {xs : List FV} (h : HasT (.i .u8) xs) : ∃ n : UInt8, xs = [.sc (.int .u8 n.toNat)] := by
  obtain ⟨n, rfl, hw⟩ := hasT_int h
  have h' : 0 ≤ n ∧ n < 256 := by
    have h2 : (decide ((0 : Int) ≤ n) && decide (n ≤ 255)) = true := hw
    simp only [Bool.and_eq_true, decide_eq_true_eq] at h2
    omega
  exact ⟨UInt8.ofNat n.toNat, by
    have : (UInt8.ofNat n.toNat).toNat = n.toNat := by simp; omega
    rw [this]; congr 3; omega⟩
theorem hasT_ints {xs : List FV} (h : HasT tInts xs) : ∃ l : List Int, xs = [.sl (l.map eI)] ∧ l.length ≤ 140737488351232 := by
  obtain ⟨l, rfl, h2, _⟩ := hasT_rows (enc := eI) (Q := fun _ => True) (fun c hc => by obtain ⟨n, rfl, _⟩ := hasT_int hc; exact ⟨n, rfl, trivial⟩) h
  exact ⟨l, rfl, h2⟩
theorem hasT_pc {xs : List FV} (h : HasT tPc xs) : ∃ p : Pc, xs = ePc p ∧ True := by
  cases h with
  | st _ _ hl hf =>
    match xs, hl with
    | [x, y, z], _ =>
      obtain ⟨a, ha, _⟩ := hasT_int (hf 0 _ x rfl rfl)
      obtain ⟨b, hb, _⟩ := hasT_int (hf 1 _ y rfl rfl)
      obtain ⟨c, hc, _⟩ := hasT_int (hf 2 _ z rfl rfl)
      injection ha with ha
      injection hb with hb
      injection hc with hc
      subst ha; subst hb; subst hc
      exact ⟨(a, b, c), rfl, trivial⟩
def roomGl (g : Gl) : Prop := g.2.1.length ≤ 140737488351232 ∧ (∀ o ∈ g.2.1, o.length ≤ 140737488351232) ∧ g.2.2.length ≤ 140737488351232
def roomFont (f : Font) : Prop := f.1.length ≤ 140737488351232 ∧ f.2.length ≤ 140737488351232 ∧ ∀ g ∈ f.1, roomGl g
theorem hasT_gl {xs : List FV} (h : HasT tGl xs) : ∃ g : Gl, xs = eGl g ∧ roomGl g := by
  cases h with
  | st _ _ hl hf =>
    match xs, hl with
    | [x, y, z], _ =>
      obtain ⟨a, ha, _⟩ := hasT_int (hf 0 _ x rfl rfl)
      obtain ⟨b, hb, hb2, hb3⟩ := hasT_ols (hf 1 _ y rfl rfl)
      obtain ⟨c, hc, hc2, _⟩ := hasT_rows (enc := ePc) (fun c hc => hasT_pc hc) (hf 2 _ z rfl rfl)
      injection ha with ha
      injection hb with hb
      injection hc with hc
      subst ha; subst hb; subst hc
      exact ⟨(a, b, c), rfl, hb2, hb3, hc2⟩
theorem hasT_font {xs : List FV} (h : HasT tFont xs) : ∃ f : Font, xs = [.sl (f.1.map eGl), .sl (f.2.map ePt)] ∧ roomFont f := by
  cases h with
  | st _ _ hl hf =>
    match xs, hl with
    | [x, y], _ =>
      obtain ⟨a, ha, ha2, ha3⟩ := hasT_rows (enc := eGl) (fun c hc => hasT_gl hc) (hf 0 _ x rfl rfl)
      obtain ⟨b, hb, hb2, _⟩ := hasT_rows (enc := ePt) (fun c hc => hasT_pt hc) (hf 1 _ y rfl rfl)
      injection ha with ha
      injection hb with hb
      subst ha; subst hb
      exact ⟨(a, b), rfl, ha2, hb2, ha3⟩
theorem ok_str : TyOk Tryd.prog .s 9 := .s _ (by kernel_rfl)
theorem ok_u8 : TyOk Tryd.prog (.i .u8) 5 := .i _ _ (by kernel_rfl)
theorem ok_u16 : TyOk Tryd.prog (.i .u16) 65 := .i _ _ (by kernel_rfl)
theorem ok_ints : TyOk Tryd.prog tInts 23 := .sl _ _ 23 3 (by kernel_rfl) (by kernel_rfl) (by decide) (of_decide_eq_true (by kernel_rfl)) ok_int
def gsOf : Option TypeDesc → Array Field
  | some (.struct gs) => gs
  | _ => #[]
theorem und89 : ∃ gs, Tryd.prog.underlying 89 = some (.struct gs) ∧ oneCellFields Tryd.prog gs = true ∧ Tryd.prog.cellsOf 89 = gs.size ∧ gs.size = 2 ∧ gs.toList.map (·.type) = [3, 3] := ⟨gsOf (Tryd.prog.underlying 89), by kernel_rfl, by kernel_rfl, by kernel_rfl, by kernel_rfl, by kernel_rfl⟩
theorem und73 : ∃ gs, Tryd.prog.underlying 73 = some (.struct gs) ∧ oneCellFields Tryd.prog gs = true ∧ Tryd.prog.cellsOf 73 = gs.size ∧ gs.size = 3 ∧ gs.toList.map (·.type) = [3, 3, 3] := ⟨gsOf (Tryd.prog.underlying 73), by kernel_rfl, by kernel_rfl, by kernel_rfl, by kernel_rfl, by kernel_rfl⟩
theorem und58 : ∃ gs, Tryd.prog.underlying 58 = some (.struct gs) ∧ oneCellFields Tryd.prog gs = true ∧ Tryd.prog.cellsOf 58 = gs.size ∧ gs.size = 3 ∧ gs.toList.map (·.type) = [3, 34, 50] := ⟨gsOf (Tryd.prog.underlying 58), by kernel_rfl, by kernel_rfl, by kernel_rfl, by kernel_rfl, by kernel_rfl⟩
theorem und31 : ∃ gs, Tryd.prog.underlying 31 = some (.struct gs) ∧ oneCellFields Tryd.prog gs = true ∧ Tryd.prog.cellsOf 31 = gs.size ∧ gs.size = 2 ∧ gs.toList.map (·.type) = [28, 29] := ⟨gsOf (Tryd.prog.underlying 31), by kernel_rfl, by kernel_rfl, by kernel_rfl, by kernel_rfl, by kernel_rfl⟩
theorem fld_ty {gs : Array Field} {l : List TypeId} (h : gs.toList.map (·.type) = l) {i : Nat} {g : Field} (hg : gs[i]? = some g) : l[i]? = some g.type := by
  rw [← h]; simp [hg]
theorem ok_pr : TyOk Tryd.prog tPt 89 := by
  obtain ⟨gs, h1, h2, h3, h4, h5⟩ := und89
  refine .st [.i .i64, .i .i64] 89 gs h1 h2 h3 h4 ?_
  intro i f g e1 e2
  have ht := fld_ty h5 e2
  match i with
  | 0 => simp at e1 ht; subst e1; rw [← ht]; exact ok_int
  | 1 => simp at e1 ht; subst e1; rw [← ht]; exact ok_int
  | n + 2 => simp at e1
theorem ok_pc : TyOk Tryd.prog tPc 73 := by
  obtain ⟨gs, h1, h2, h3, h4, h5⟩ := und73
  refine .st [.i .i64, .i .i64, .i .i64] 73 gs h1 h2 h3 h4 ?_
  intro i f g e1 e2
  have ht := fld_ty h5 e2
  match i with
  | 0 => simp at e1 ht; subst e1; rw [← ht]; exact ok_int
  | 1 => simp at e1 ht; subst e1; rw [← ht]; exact ok_int
  | 2 => simp at e1 ht; subst e1; rw [← ht]; exact ok_int
  | n + 3 => simp at e1
theorem ok_gl : TyOk Tryd.prog tGl 58 := by
  obtain ⟨gs, h1, h2, h3, h4, h5⟩ := und58
  refine .st [.i .i64, tOls, .sl tPc 3] 58 gs h1 h2 h3 h4 ?_
  intro i f g e1 e2
  have ht := fld_ty h5 e2
  match i with
  | 0 => simp at e1 ht; subst e1; rw [← ht]; exact ok_int
  | 1 => simp at e1 ht; subst e1; rw [← ht]; exact ok_ols
  | 2 => simp at e1 ht; subst e1; rw [← ht]; exact .sl _ _ 50 73 (by kernel_rfl) (by kernel_rfl) (by decide) (of_decide_eq_true (by kernel_rfl)) ok_pc
  | n + 3 => simp at e1
theorem ok_font : TyOk Tryd.prog tFont 31 := by
  obtain ⟨gs, h1, h2, h3, h4, h5⟩ := und31
  refine .st [.sl tGl 3, .sl tPt 2] 31 gs h1 h2 h3 h4 ?_
  intro i f g e1 e2
  have ht := fld_ty h5 e2
  match i with
  | 0 => simp at e1 ht; subst e1; rw [← ht]; exact .sl _ _ 28 58 (by kernel_rfl) (by kernel_rfl) (by decide) (of_decide_eq_true (by kernel_rfl)) ok_gl
  | 1 => simp at e1 ht; subst e1; rw [← ht]; exact .sl _ _ 29 89 (by kernel_rfl) (by kernel_rfl) (by decide) (of_decide_eq_true (by kernel_rfl)) ok_pr
  | n + 2 => simp at e1
end Go.Vai
