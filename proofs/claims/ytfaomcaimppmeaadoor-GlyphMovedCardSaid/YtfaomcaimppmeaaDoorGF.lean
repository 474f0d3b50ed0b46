/-
  What laid tables and arguments are to the abstract run.
-/
import Derived.Test.YtfaomcaimppmeaaDoorTie
import Derived.Test.YtfaomcaimppmeaaDoorCards
import Derived.OpenShut
import Derived.ChangeArms
import Derived.LaidLaws
import Derived.LaidHandle
import Derived.JoinedOf
import Derived.Handed
import Derived.SevenTiedAt
import Derived.Stop.Joined
import Derived.Test.YtfaomcaimppmeaaDoorGE
set_option linter.unusedVariables false
set_option linter.unusedSimpArgs false
set_option linter.unnecessarySimpa false
namespace Go.Vai
open Go.RowKit Go.ChangeShapes Go.WideShapes Go.Proofs Go.Proofs.YtfaomcaimppmeaaDoor

/-! From the laid tables to what the interpreter reads. -/
section
variable {H : Type} {enc : TypeId × Value → H} {P : Program} {w : World} {base : Nat} {spare : Nat → Bool} {held : Bool}
theorem take1 (cs : List Value) (i : Nat) (v : Value) (h : (cs.drop i).take 1 = [v]) : cs[i]? = some v := by
  have h1 : ((cs.drop i).take 1)[0]? = some v := by rw [h]; rfl
  rw [List.getElem?_take, if_pos (by omega), List.getElem?_drop] at h1
  simpa using h1
theorem cells_ints {t e : TypeId} {n fuel : Nat} {k : IntKind} {cs : List Value} {ns : List Int} {p : List MemPlace} (ht : P.underlying t = some (.array n e)) (he : P.underlying e = some (.int k)) (hc : P.cellsOf e = 1)
    (h : DataW.trod enc P w base spare held fuel t cs = some (.agg (ns.map fun x => .lit (.int k x)), p)) : ∀ (i : Nat) (x : Int), ns[i]? = some x → cs[i]? = some (.int k x) := by
  obtain ⟨xs, m, _, hx, hl, hn, hf⟩ := DataW.trod_array ht h
  injection hx with hx _
  injection hx with hx
  intro i x hi
  have hlen : ns.length = xs.length := by have := congrArg List.length hx; simpa using this
  have hlt := (List.getElem?_eq_some_iff.1 hi).1
  have hxi : xs[i]? = some xs[i] := List.getElem?_eq_getElem (by omega)
  have g := hf i (by omega)
  rw [hc, Nat.mul_one, hxi] at g
  obtain ⟨n', q1, q2, _⟩ := DataW.trod_int he g
  have h2 := congrArg (fun l => l[i]?) hx
  simp only [List.getElem?_map, hi, hxi, Option.map_some] at h2
  rw [q2] at h2
  injection h2 with h2
  injection h2 with h2
  injection h2 with _ h2
  rw [h2]
  exact take1 _ _ _ q1
theorem cells_pairs {t e : TypeId} {n fuel : Nat} {k : IntKind} {f0 f1 : Field} {cs : List Value} {ns : List (Int × Int)} {p : List MemPlace} (ht : P.underlying t = some (.array n e)) (he : P.underlying e = some (.struct #[f0, f1])) (hc : P.cellsOf e = 2)
    (o0 : f0.offset = 0) (o1 : f1.offset = 1) (u0 : P.underlying f0.type = some (.int k)) (u1 : P.underlying f1.type = some (.int k)) (c0 : P.cellsOf f0.type = 1) (c1 : P.cellsOf f1.type = 1)
    (h : DataW.trod enc P w base spare held fuel t cs = some (.agg (ns.map fun x => .agg [.lit (.int k x.1), .lit (.int k x.2)]), p)) : ∀ (i : Nat) (x : Int × Int), ns[i]? = some x → cs[2 * i]? = some (.int k x.1) ∧ cs[2 * i + 1]? = some (.int k x.2) := by
  obtain ⟨xs, m, _, hx, hl, hn, hf⟩ := DataW.trod_array ht h
  injection hx with hx _
  injection hx with hx
  intro i x hi
  have hlen : ns.length = xs.length := by have := congrArg List.length hx; simpa using this
  have hlt := (List.getElem?_eq_some_iff.1 hi).1
  have hxi : xs[i]? = some xs[i] := List.getElem?_eq_getElem (by omega)
  have g := hf i (by omega)
  rw [hc, hxi] at g
  have h2 := congrArg (fun l => l[i]?) hx
  simp only [List.getElem?_map, hi, hxi, Option.map_some] at h2
  injection h2 with h2
  obtain ⟨ys, m2, _, hy, hyl, hyn, hyf⟩ := DataW.trod_struct he g
  have g0 := hyf 0 f0 rfl
  have g1 := hyf 1 f1 rfl
  have hy1 : xs[i].1 = .agg (ys.map (·.1)) := by rw [hy]
  rw [hy1] at h2
  injection h2 with h2
  have hys : ys.length = 2 := by simpa using hyn
  obtain ⟨y0, y1, rfl⟩ : ∃ y0 y1, ys = [y0, y1] := by
    match ys, hys with
    | [y0, y1], _ => exact ⟨y0, y1, rfl⟩
  simp only [List.map_cons, List.map_nil, List.cons.injEq, and_true] at h2
  rw [o0, c0] at g0
  rw [o1, c1] at g1
  have g0 : DataW.trod enc P w base spare held m2 f0.type (List.take 1 (List.drop 0 _)) = some y0 := g0
  have g1 : DataW.trod enc P w base spare held m2 f1.type (List.take 1 (List.drop 1 _)) = some y1 := g1
  obtain ⟨n0, q0, r0, _⟩ := DataW.trod_int u0 g0
  obtain ⟨n1, q1, r1, _⟩ := DataW.trod_int u1 g1
  rw [r0, r1] at h2
  obtain ⟨s0, s1⟩ := h2
  injection s0 with s0; injection s0 with _ s0
  injection s1 with s1; injection s1 with _ s1
  have t0 := take1 _ _ _ q0
  have t1 := take1 _ _ _ q1
  rw [List.getElem?_take, if_pos (by omega), List.getElem?_drop] at t0 t1
  rw [s0, s1]
  refine ⟨?_, ?_⟩
  · rw [← t0]; congr 1; omega
  · rw [← t1]; congr 1; omega
end
end Go.Vai
