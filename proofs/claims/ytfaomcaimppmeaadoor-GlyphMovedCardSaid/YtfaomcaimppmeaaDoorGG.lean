/-
  The laid tables; a world that meets the row's condition.
-/
import Derived.Test.YtfaomcaimppmeaaDoorGF
set_option linter.unusedVariables false
set_option linter.unusedSimpArgs false
set_option linter.unnecessarySimpa false
namespace Go.Vai
open Go.RowKit Go.ChangeShapes Go.WideShapes Go.Proofs Go.Proofs.YtfaomcaimppmeaaDoor

def accP : List (Int × Int) := [(128, 191), (160, 191), (128, 159), (144, 191), (128, 143)] ++ List.replicate 11 (0, 0)
def firstZ : List Int := Pinned.utf8FirstZ.map fun (n : Nat) => (n : Int)
theorem gFirst_z : gFirst = firstZ.map fun n => .sc (.int .u8 n) := by kernel_rfl
theorem gAcc_z : gAcc = accP.flatMap fun x => [.sc (.int .u8 x.1), .sc (.int .u8 x.2)] := by kernel_rfl
theorem first_d : Pinned.utf8First = .agg (firstZ.map fun x => .lit (.int .u8 x)) := by kernel_rfl
theorem acc_d : (Rows.laid_unicode_utf8_acceptRanges : DataW Unit) = .agg (accP.map fun x => .agg [.lit (.int .u8 x.1), .lit (.int .u8 x.2)]) := by kernel_rfl
theorem flat_get {α : Type} (f : Int → α) : ∀ (l : List (Int × Int)) (j : Nat) (z : α), (l.flatMap fun x => [f x.1, f x.2])[j]? = some z → ∃ i y, l[i]? = some y ∧ ((j = 2 * i ∧ z = f y.1) ∨ (j = 2 * i + 1 ∧ z = f y.2))
  | [], j, z, h => by simp at h
  | y :: r, 0, z, h => ⟨0, y, rfl, .inl ⟨rfl, by simpa using h.symm⟩⟩
  | y :: r, 1, z, h => ⟨0, y, rfl, .inr ⟨rfl, by simpa using h.symm⟩⟩
  | y :: r, j + 2, z, h => by
    have h' : (r.flatMap fun x => [f x.1, f x.2])[j]? = some z := by simpa using h
    obtain ⟨i, y', h1, h2⟩ := flat_get f r j z h'
    refine ⟨i + 1, y', by simpa using h1, ?_⟩
    rcases h2 with ⟨rfl, h2⟩ | ⟨rfl, h2⟩
    · exact .inl ⟨by omega, h2⟩
    · exact .inr ⟨by omega, h2⟩

abbrev laidL : List (String × DataW Unit) := [("unicode/utf8.acceptRanges", Rows.laid_unicode_utf8_acceptRanges), ("unicode/utf8.first", Rows.laid_unicode_utf8_first)]
theorem laidL_met {W : World} (h : laidMetH Tryd.prog laidL W) : laidMet Tryd.prog laidL W := h
theorem gr_of_laid {W : World} (h : laidMetH Tryd.prog laidL W) : GR Gt (heapOf W) := by
  obtain ⟨ps, hv, _, _⟩ := laidL_met h
  obtain ⟨g, t, cs, fuel, p, q, a1, a2, a3, a4, hv2, _⟩ := hv
  obtain ⟨g2, t2, cs2, fuel2, p2, q2, b1, b2, b3, b4, _, _⟩ := hv2
  obtain rfl : 1 = g := Option.some.inj ((show Tryd.prog.globalNamed "unicode/utf8.acceptRanges" = some 1 by kernel_rfl).symm.trans a1)
  obtain rfl : 0 = g2 := Option.some.inj ((show Tryd.prog.globalNamed "unicode/utf8.first" = some 0 by kernel_rfl).symm.trans b1)
  obtain rfl : 140 = t := Option.some.inj ((show (Tryd.prog.globals[1]?).map (·.type) = some 140 by kernel_rfl).symm.trans a2)
  obtain rfl : 137 = t2 := Option.some.inj ((show (Tryd.prog.globals[0]?).map (·.type) = some 137 by kernel_rfl).symm.trans b2)
  rw [acc_d] at a4
  have b4' := b4
  rw [show (Rows.laid_unicode_utf8_first : DataW Unit) = Pinned.utf8First from rfl, first_d] at b4'
  have c1 := cells_pairs (k := .u8) (show Tryd.prog.underlying 140 = some (.array 16 139) by kernel_rfl) Tryd.underlying139 (by kernel_rfl) rfl rfl (by kernel_rfl) (by kernel_rfl) (by kernel_rfl) (by kernel_rfl) a4
  have c0 := cells_ints (k := .u8) (show Tryd.prog.underlying 137 = some (.array 256 5) by kernel_rfl) (by kernel_rfl) (by kernel_rfl) b4'
  intro gg c hc
  have key : ∀ (cs : Array Value) (n : String) (m : Nat), Tryd.prog.globalNamed n = some m → W.var? Tryd.prog n = some cs → (∀ (j : Nat) (x : FV), c[j]? = some x → ∃ k, x = .sc (.int .u8 k) ∧ cs[j]? = some (.int .u8 k)) →
      ∃ us : Nat → Value, (∀ (j : Nat) (x : FV), c[j]? = some x → cellAt (heapOf W) m j = some (us j)) ∧ (∀ (j : Nat) (x : FV), c[j]? = some x → FR (heapOf W) x (us j)) := by
    intro cs n m h1 h2 h3
    refine ⟨fun j => (cs[j]?).getD undef, fun j x hj => ?_, fun j x hj => ?_⟩
    · obtain ⟨k, rfl, h4⟩ := h3 j x hj
      have := World.var?_cell h1 h2 j
      rw [h4] at this
      have h5 := cellAt_of_cell this
      simp only [h4]
      exact h5
    · obtain ⟨k, rfl, h4⟩ := h3 j x hj
      simp only [h4]
      exact .sc _ rfl
  match gg with
  | 0 =>
    simp only [Gt] at hc
    injection hc with hc; subst hc
    refine key cs2 _ 0 b1 b3 fun j x hj => ?_
    rw [gFirst_z, List.getElem?_map] at hj
    obtain ⟨n, hn, rfl⟩ := Option.map_eq_some_iff.1 hj
    exact ⟨n, rfl, by simpa using c0 j n hn⟩
  | 1 =>
    simp only [Gt] at hc
    injection hc with hc; subst hc
    refine key cs _ 1 a1 a3 fun j x hj => ?_
    rw [gAcc_z] at hj
    obtain ⟨i, y, h1, h2⟩ := flat_get (fun n => FV.sc (.int .u8 n)) accP j x hj
    obtain ⟨d1, d2⟩ := c1 i y h1
    rcases h2 with ⟨rfl, h2⟩ | ⟨rfl, h2⟩
    · exact ⟨y.1, h2, by simpa using d1⟩
    · exact ⟨y.2, h2, by simpa using d2⟩
  | n + 2 => simp [Gt] at hc

/-! A world that meets the condition. -/
def cellsOfG (c : List FV) : Array Value := (c.map fun
  | .sc v => v
  | _ => undef).toArray
noncomputable def laidW (os : Os) : World :=
  let w0 := World.holding Tryd.prog os ⟨#[], #[], []⟩
  { w0 with heap := (w0.heap.modify 0 fun
      | .cells _ t z => .cells (cellsOfG gFirst) t z
      | o => o).modify 1 fun
      | .cells _ t z => .cells (cellsOfG gAcc) t z
      | o => o }
theorem Tryd_own : ownKnob Tryd.prog.godebug = none := by kernel_rfl
theorem Tryd_laidOut : laidOutB Tryd.prog = true := by kernel_rfl
theorem laidW_met (os : Os) (args : Array Value) : laidMetH Tryd.prog laidL ((laidW os).forCall (fun _ _ => 0) ⟨#[], args, []⟩).memory :=
  (laidMet_of_run' 8 (by kernel_rfl) (by kernel_rfl) : laidMet Tryd.prog laidL ((laidW os).forCall (fun _ _ => 0) ⟨#[], args, []⟩).memory)
end Go.Vai
