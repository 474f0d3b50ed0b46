/-
  What laid tables and arguments are to the abstract run; a world that meets the row's condition.
-/
import Derived.Test.YthejhdkdfjinbaaDoorTie
import Derived.Test.YthejhdkdfjinbaaDoorCards
import Derived.OpenShut
import Derived.ChangeArms
import Derived.LaidLaws
import Derived.LaidHandle
import Derived.JoinedOf
import Derived.Handed
import Derived.SevenTiedAt
import Derived.Stop.Joined
import Derived.Stop.LaidErr
import Derived.Test.YthejhdkdfjinbaaDoorM3
set_option linter.unusedVariables false
set_option linter.unusedSimpArgs false
set_option linter.unnecessarySimpa false
namespace Go.Vai
open Go.RowKit Go.ChangeShapes Go.WideShapes Go.Proofs Go.Proofs.YthejhdkdfjinbaaDoor

/-! From the laid tables to what the interpreter reads. -/
section
variable {H : Type} {enc : TypeId × Value → H} {P : Program} {w : World} {base : Nat} {spare : Nat → Bool} {held : Bool}
theorem take1 (cs : List Value) (i : Nat) (v : Value) (h : (cs.drop i).take 1 = [v]) : cs[i]? = some v := by
  have h1 : ((cs.drop i).take 1)[0]? = some v := by rw [h]; rfl
  rw [List.getElem?_take, if_pos (by omega), List.getElem?_drop] at h1
  simpa using h1
theorem cells_ints {t e : TypeId} {n fuel : Nat} {k : IntKind} {cs : List Value} {ns : List Int} {p : List MemPlace} (ht : P.underlying t = some (.array n e)) (he : P.underlying e = some (.int k)) (hc : P.cellsOf e = 1)
    (h : DataW.trod enc P w base spare held fuel t cs = some (.agg (ns.map fun x => .lit (.int k x)), p)) : ∀ (i : Nat) (x : Int), ns[i]? = some x → cs[i]? = some (.int k x) := by
  obtain ⟨xs, m, _, hx, hl, hn, hf⟩ := DataW.trod_array ht h
  injection hx with hx _
  injection hx with hx
  intro i x hi
  have hlen : ns.length = xs.length := by have := congrArg List.length hx; simpa using this
  have hlt := (List.getElem?_eq_some_iff.1 hi).1
  have hxi : xs[i]? = some xs[i] := List.getElem?_eq_getElem (by omega)
  have g := hf i (by omega)
  rw [hc, Nat.mul_one, hxi] at g
  obtain ⟨n', q1, q2, _⟩ := DataW.trod_int he g
  have h2 := congrArg (fun l => l[i]?) hx
  simp only [List.getElem?_map, hi, hxi, Option.map_some] at h2
  rw [q2] at h2
  injection h2 with h2
  injection h2 with h2
  injection h2 with _ h2
  rw [h2]
  exact take1 _ _ _ q1
end
theorem mixed : Tryd.prog.follows .mixedOrders = true := by kernel_rfl
theorem ints_head {P : Program} {n : String} {zs : List Int} {r : List (String × DataW Unit)} {W : World} {g : Nat} {t e : TypeId} {m : Nat} {k : IntKind}
    (h : laidMet P ((n, .agg (zs.map fun x => .lit (.int k x))) :: r) W) (hg : P.globalNamed n = some g) (ht : (P.globals[g]?).map (·.type) = some t) (hu : P.underlying t = some (.array m e)) (he : P.underlying e = some (.int k)) (hc : P.cellsOf e = 1) (hct : P.cellsOf t = zs.length) :
    ∃ t' z, W.heap[g]? = some (.cells (zs.map fun x => Value.int k x).toArray t' z) := by
  obtain ⟨ps, ⟨g0, t0, cs0, f0, p0, q0, hg0, ht0, hv0, hd0, _, e0⟩, _, hrows⟩ := h
  obtain rfl := Option.some.inj (hg.symm.trans hg0)
  obtain rfl := Option.some.inj (ht.symm.trans ht0)
  have h1 := cells_ints hu he hc hd0
  obtain ⟨_, _, _, _, hl, _⟩ := DataW.trod_array hu hd0
  have hcs : cs0 = (zs.map fun x => Value.int k x).toArray := by
    apply Array.ext
    · simpa [hct] using hl
    · intro i hi1 hi2
      have hi : i < zs.length := by simpa using hi2
      have h2 := h1 i zs[i] (List.getElem?_eq_getElem hi)
      rw [Array.getElem?_toList, Array.getElem?_eq_getElem hi1] at h2
      injection h2 with h2
      rw [h2]; simp
  subst hcs
  unfold World.var? at hv0
  rw [hg] at hv0
  simp only [Option.bind_some] at hv0
  split at hv0
  · rename_i cs t' z hh
    injection hv0 with hv0
    exact ⟨t', z, by rw [hh, hv0]⟩
  · cases hv0
theorem one_head {P : Program} {W : World} {n : String} {g : Nat} {v : Value} (hg : P.globalNamed n = some g) (h : W.var? P n = some #[v]) : ∃ t' z, W.heap[g]? = some (.cells [v].toArray t' z) := by
  unfold World.var? at h
  rw [hg] at h
  simp only [Option.bind_some] at h
  split at h
  · rename_i cs t' z hh
    injection h with h
    exact ⟨t', z, by rw [hh, h]⟩
  · cases h
theorem gr_one {W : World} {g : Nat} {vs : List Value} {t : TypeId} {z : Nat × Nat} (hl : ∀ v ∈ vs, leafV v = true) (h : W.heap[g]? = some (.cells vs.toArray t z)) : (∃ us : Nat → Value, (∀ (j : Nat) (x : FV), (vs.map FV.sc)[j]? = some x → cellAt (heapOf W) g j = some (us j)) ∧ (∀ (j : Nat) (x : FV), (vs.map FV.sc)[j]? = some x → FR (heapOf W) x (us j))) ∧
    ∃ cs t z, heapOf W g = some (.cells cs t z) ∧ cs.size = (vs.map FV.sc).length := by
  refine ⟨⟨fun j => (vs[j]?).getD undef, fun j x hj => ?_, fun j x hj => ?_⟩, vs.toArray, t, z, h, by simp⟩
  · rw [List.getElem?_map] at hj
    obtain ⟨v, hv, rfl⟩ := Option.map_eq_some_iff.1 hj
    simp only [cellAt, heapOf, h, hv, Option.getD_some]
    simpa using hv
  · rw [List.getElem?_map] at hj
    obtain ⟨v, hv, rfl⟩ := Option.map_eq_some_iff.1 hj
    simp only [hv, Option.getD_some]
    exact .sc _ (hl v (List.mem_of_getElem? hv))
theorem leaf_ints (k : IntKind) (zs : List Int) : ∀ v ∈ zs.map (fun z => Value.int k z), leafV v = true := by
  intro v hv
  obtain ⟨z, _, rfl⟩ := List.mem_map.1 hv
  rfl
theorem d_nib : (Rows.laid_sterilizer_measure_nibbles : DataW Unit) = .agg (nibL.map fun x => .lit (.int .u32 x)) := by kernel_rfl
theorem d_pow : (Rows.laid_internal_strconv_uint64pow10 : DataW Unit) = .agg (Lib.pow10Tab.map fun x => .lit (.int .u64 x)) := by kernel_rfl
theorem d_32 : (Rows.laid_math_bits_deBruijn32tab : DataW Unit) = .agg (db32L.map fun x => .lit (.int .u8 x)) := by kernel_rfl
theorem d_64 : (Rows.laid_math_bits_deBruijn64tab : DataW Unit) = .agg (db64L.map fun x => .lit (.int .u8 x)) := by kernel_rfl
theorem starE : "*" ++ "errors.errorString" = "*errors.errorString" := by decide
theorem rowE (u : TypeId) (h : Tryd.prog.typeName? 3 u = some "*errors.errorString") : u = 106 :=
  typeName_ptr_named (nm := "errors.errorString") (by rw [starE]; kernel_rfl) (by kernel_rfl) (by decide) u (by rw [starE]; exact h)
theorem und108 : ∃ f, Tryd.prog.underlying 108 = some (.struct #[f]) ∧ f.type = 9 ∧ f.offset = 0 := by
  have h : ∃ gs : Array Field, Tryd.prog.underlying 108 = some (.struct gs) ∧ gs.size = 1 ∧ gs.toList.map (·.type) = [9] ∧ gs.toList.map (·.offset) = [0] :=
    ⟨(match Tryd.prog.underlying 108 with | some (.struct gs) => gs | _ => #[]), by kernel_rfl, by kernel_rfl, by kernel_rfl, by kernel_rfl⟩
  obtain ⟨⟨l⟩, h1, h2, h3, h4⟩ := h
  match l, h2 with
  | [f], _ => exact ⟨f, h1, by simpa using h3, by simpa using h4⟩
abbrev laidL : List (String × DataW Unit) := [("math/bits.deBruijn32tab", Rows.laid_math_bits_deBruijn32tab), ("math/bits.deBruijn64tab", Rows.laid_math_bits_deBruijn64tab), ("internal/strconv.uint64pow10", Rows.laid_internal_strconv_uint64pow10), ("strconv.ErrRange", Rows.laid_strconv_ErrRange), ("strconv.ErrSyntax", Rows.laid_strconv_ErrSyntax), ("sterilizer/measure.nibbles", Rows.laid_sterilizer_measure_nibbles)]
theorem laidL_met {W : World} (h : laidMetH Tryd.prog laidL W) : laidMet Tryd.prog laidL W := h
theorem gr_of_laid {W : World} (h : laidMetH Tryd.prog laidL W) : ∃ e3 e4, isIf e3 ∧ isIf e4 ∧ GR (Gm e3 e4) (heapOf W) := by
  have h0 := laidL_met h
  unfold laidL at h0
  rw [d_32, d_64, d_pow, d_nib] at h0
  obtain ⟨t5, z5, b5⟩ := ints_head h0 (g := 5) (by kernel_rfl) (t := 109) (by kernel_rfl) (m := 32) (e := 5) (by kernel_rfl) (by kernel_rfl) (by kernel_rfl) (by kernel_rfl)
  obtain ⟨t6, z6, b6⟩ := ints_head h0.tail (g := 6) (by kernel_rfl) (t := 110) (by kernel_rfl) (m := 64) (e := 5) (by kernel_rfl) (by kernel_rfl) (by kernel_rfl) (by kernel_rfl)
  obtain ⟨t1, z1, b1⟩ := ints_head h0.tail.tail (g := 1) (by kernel_rfl) (t := 92) (by kernel_rfl) (m := 20) (e := 48) (by kernel_rfl) (by kernel_rfl) (by kernel_rfl) (by kernel_rfl)
  obtain ⟨f, u1, u2, u3⟩ := und108
  obtain ⟨a4, s4, v4, _⟩ := laid_sentinel h0.tail.tail.tail (g := 4) (ti := 61) (tp := 106) (te := 108) (ts := 9) (ms := (match Tryd.prog.underlying 61 with | some (.interface ms) => ms | _ => #[])) (by kernel_rfl) (by kernel_rfl) (by kernel_rfl) rowE (by kernel_rfl) u1 u2 u3 (by kernel_rfl) (by kernel_rfl) (by kernel_rfl)
  obtain ⟨a3, s3, v3, _⟩ := laid_sentinel h0.tail.tail.tail.tail (g := 3) (ti := 61) (tp := 106) (te := 108) (ts := 9) (ms := (match Tryd.prog.underlying 61 with | some (.interface ms) => ms | _ => #[])) (by kernel_rfl) (by kernel_rfl) (by kernel_rfl) rowE (by kernel_rfl) u1 u2 u3 (by kernel_rfl) (by kernel_rfl) (by kernel_rfl)
  obtain ⟨t0, z0, b0⟩ := ints_head h0.tail.tail.tail.tail.tail (g := 0) (by kernel_rfl) (t := 47) (by kernel_rfl) (m := 16) (e := 30) (by kernel_rfl) (by kernel_rfl) (by kernel_rfl) (by kernel_rfl)
  obtain ⟨t3, z3, b3⟩ := one_head (g := 3) (by kernel_rfl) v3
  obtain ⟨t4, z4, b4⟩ := one_head (g := 4) (by kernel_rfl) v4
  refine ⟨.iface 106 (.pointer (some a3)), .iface 106 (.pointer (some a4)), ⟨106, _, rfl⟩, ⟨106, _, rfl⟩, ?_⟩
  intro g c hc
  match g with
  | 0 => simp only [Gm] at hc; injection hc with hc; subst hc; exact gr_one (leaf_ints _ _) b0
  | 1 => simp only [Gm] at hc; injection hc with hc; subst hc; exact gr_one (leaf_ints _ _) b1
  | 2 => simp [Gm] at hc
  | 3 => simp only [Gm] at hc; injection hc with hc; subst hc; exact gr_one (vs := [Value.iface 106 (.pointer (some a3))]) (by simp [leafV]) b3
  | 4 => simp only [Gm] at hc; injection hc with hc; subst hc; exact gr_one (vs := [Value.iface 106 (.pointer (some a4))]) (by simp [leafV]) b4
  | 5 => simp only [Gm] at hc; injection hc with hc; subst hc; exact gr_one (leaf_ints _ _) b5
  | 6 => simp only [Gm] at hc; injection hc with hc; subst hc; exact gr_one (leaf_ints _ _) b6
  | n + 7 => simp [Gm] at hc

/-! A world that meets the condition. -/
noncomputable def low : Nat := (World.holding Tryd.prog default ⟨#[], #[], []⟩).heap.size
def setCells (cs : Array Value) : Obj → Obj
  | .cells _ t z => .cells cs t z
  | o => o
def intsA (k : IntKind) (l : List Int) : Array Value := (l.map fun z => Value.int k z).toArray
noncomputable def laidW (os : Os) : World :=
  let w0 := World.holding Tryd.prog os ⟨#[.cells #[.string ⟨#[118, 97, 108, 117, 101, 32, 111, 117, 116, 32, 111, 102, 32, 114, 97, 110, 103, 101]⟩] 108, .cells #[.string ⟨#[105, 110, 118, 97, 108, 105, 100, 32, 115, 121, 110, 116, 97, 120]⟩] 108], #[], []⟩
  { w0 with heap := (((((w0.heap.modify 0 (setCells (intsA .u32 nibL))).modify 1 (setCells (intsA .u64 Lib.pow10Tab))).modify 3 (setCells #[.iface 106 (.pointer (some ⟨low + 1, 0, none⟩))])).modify 4 (setCells #[.iface 106 (.pointer (some ⟨low, 0, none⟩))])).modify 5 (setCells (intsA .u8 db32L))).modify 6 (setCells (intsA .u8 db64L)) }
theorem Tryd_own : ownKnob Tryd.prog.godebug = none := by kernel_rfl
theorem Tryd_laidOut : laidOutB Tryd.prog = true := by kernel_rfl
theorem laidW_met (os : Os) (args : Array Value) : laidMetH Tryd.prog laidL ((laidW os).forCall (fun _ _ => 0) ⟨#[], args, []⟩).memory :=
  (laidMet_of_run' 8 (by kernel_rfl) (by kernel_rfl) : laidMet Tryd.prog laidL ((laidW os).forCall (fun _ _ => 0) ⟨#[], args, []⟩).memory)
end Go.Vai
