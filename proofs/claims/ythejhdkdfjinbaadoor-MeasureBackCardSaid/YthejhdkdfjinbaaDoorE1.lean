/-
  A function that is known by a contract, to the abstract run.
-/
import Derived.Below
import Derived.Test.YthejhdkdfjinbaaDoorVaW
import Derived.Test.YthejhdkdfjinbaaDoorVaZ
set_option linter.unusedVariables false
set_option linter.unusedSimpArgs false
set_option linter.unnecessarySimpa false
set_option linter.unusedSectionVars false
namespace Go.Vai
open Go.RowKit
/-! A function that is known by a contract: memory only grows, the answer is plain. -/
theorem Does.mono {P : Program} {f : FuncId} {args : Array Value} {w : World} {K K' : Ending → World → Prop} (h : Does P f args w K) (hk : ∀ e w', K e w' → K' e w') : Does P f args w K' := by
  rcases h with ⟨h1, h2⟩ | ⟨v, w', h1, h2⟩
  · exact .inl ⟨h1, h2.mono hk⟩
  · exact .inr ⟨v, w', h1, hk _ _ h2⟩
def Gives0 (r : AV) (w : World) (e : Ending) (w' : World) : Prop := ∃ u, e = .returned u ∧ (∀ σ h, VR σ h r u) ∧ Below w.heap.size w w'
theorem rf_of_calls {P : Program} {G : Nat → Option (List FV)} {f : FuncId} {xs : List AV} {r : AV}
    (H : ∀ (C : Ctx) (σ : Nat → Option Loc) (w : World) (vs : List Value), GR G (frz (hk []) σ C.X w) → xs.length = vs.length → (∀ (i : Nat) (x : AV) (v : Value), xs[i]? = some x → vs[i]? = some v → VR σ (frz (hk []) σ C.X w) x v) → Does P f vs.toArray w (Gives0 r w)) :
    ([] : List (Option Blk)).length ≤ ([] : List (Option Blk)).length ∧
    ∀ (C : Ctx) (σ : Nat → Option Loc) (w : World) (vs : List Value), C.G = G → C.w0 = w → C.own0 = (fun k => ∃ b, Live (hk (numd 0 [])) σ b k) → (∀ b, ([] : List (Option Blk)).length ≤ b → σ b = none) → HRel C σ (hk (numd 0 [])) w →
      xs.length = vs.length → (∀ (i : Nat) (x : AV) (v : Value), xs[i]? = some x → vs[i]? = some v → VR σ (frz (hk (numd 0 [])) σ C.X w) x v) →
      ∀ K : Ending → World → Prop,
        (∀ u σ' w', VR σ' (frz (hk (numd 0 [])) σ' C.X w') r u → HRel C σ' (hk (numd 0 [])) w' → (∀ b, b < ([] : List (Option Blk)).length → σ' b = σ b) → (∀ b, ([] : List (Option Blk)).length ≤ b → σ' b = none) → K (.returned u) w') →
        Does P f vs.toArray w K := by
  refine ⟨Nat.le_refl _, fun C σ w vs hG hw hown hfr R hl hv K hK => ?_⟩
  have hG' : GR G (frz (hk []) σ C.X w) := hG ▸ R.gl
  refine (H C σ w vs hG' hl hv).mono ?_
  rintro e w' ⟨u, rfl, hu, hb⟩
  have hnl : ∀ b k, ¬ Live (hk (numd 0 [])) σ b k := by
    rintro b k ⟨blk, d, n, sz, h1, _⟩
    simp [numd, hk] at h1
  have hle : HLe (frz (hk (numd 0 [])) σ C.X w) (frz (hk (numd 0 [])) σ C.X w') := by
    intro k o h
    rw [frz_some] at h ⊢
    refine ⟨h.1, ?_⟩
    have hk := (Array.getElem?_eq_some_iff.1 h.2).1
    rw [hb.block k hk]; exact h.2
  refine hK u σ w' (hu _ _) ⟨fun b blk h => ?_, fun b b' k h => absurd h (hnl _ _), fun b k h => absurd h (hnl _ _), ⟨?_, fun k h1 h2 => ?_, ?_, ?_, ?_⟩, R.gl.mono hle, R.xl⟩ (fun b hb => by simp at hb) hfr
  · simp [numd, hk] at h
  · rw [hw]; exact hb.size
  · rw [hw] at h1 ⊢; exact hb.block k h1
  · rw [hw]; exact hb.os
  · rw [hw]; exact hb.tape
  · rw [hw]; exact hb.output
/-- A table's block, read off what is known of the tables. -/
theorem GR.tab {G : Nat → Option (List FV)} {σ : Nat → Option Loc} {hp : Nat → Option Blk} {X : Nat → Prop} {w : World} (h : GR G (frz hp σ X w)) {g : Nat} {zs : List Value} (hg : G g = some (zs.map .sc)) : ∃ t z, w.heap[g]? = some (.cells zs.toArray t z) := by
  obtain ⟨⟨us, h1, h2⟩, cs, t, z, h3, h4⟩ := h g _ hg
  have h5 := h3
  rw [frz_some] at h3
  refine ⟨t, z, ?_⟩
  rw [h3.2]
  have : cs = zs.toArray := by
    apply Array.ext
    · simpa using h4
    · intro i hi1 hi2
      have hi : i < zs.length := by simpa using hi2
      have e1 := h1 i (.sc zs[i]) (by simp [hi])
      have e2 := h2 i (.sc zs[i]) (by simp [hi])
      unfold cellAt at e1
      rw [h5] at e1
      simp only at e1
      have e3 : us i = zs[i] := by
        generalize us i = u at e2
        cases e2 with
        | sc _ _ => rfl
      rw [e3, Array.getElem?_eq_getElem hi1] at e1
      injection e1 with e1
  rw [this]
end Go.Vai
