/-
  A part of the abstract run of Go functions and of the proof that it tells the truth.
-/
import Derived.Test.YthejhdkdfjinbaaDoorVaJ
set_option linter.unusedVariables false
set_option linter.unusedSimpArgs false
namespace Go.Vai
variable {P : Program} {C : Ctx} {σ : Nat → Option Loc} {w : World} {a : Act}

/-! ## 24. Operations in their order -/

theorem compOpers_get {ops : Array Oper} {N : Nat} : ∀ (os : List Oper) (ls : List LOper), compOpers P ops N os = some ls → ls.length = os.length ∧ ∀ (i : Nat) (o : Oper), os[i]? = some o → ∃ lo, ls[i]? = some lo ∧ compOper P ops N o = some lo
  | [], ls, h => by
    simp only [compOpers] at h
    injection h with h; subst h
    exact ⟨rfl, fun i o e => by simp at e⟩
  | o :: os, ls, h => by
    simp only [compOpers] at h
    split at h
    · rename_i l ls' h1 h2
      injection h with h; subst h
      obtain ⟨g1, g2⟩ := compOpers_get os ls' h2
      refine ⟨by simp [g1], fun i o' e => ?_⟩
      cases i with
      | zero => simp at e; subst e; exact ⟨l, rfl, h1⟩
      | succ i => simpa using g2 i o' (by simpa using e)
    · cases h

/-- What stays true of the places. -/
structure Fresh (σ : Nat → Option Loc) (nx : Nat) : Prop where
  hi : ∀ b, nx ≤ b → σ b = none

theorem ops_sound {rf : RF} (RS : RFSound P C.G rf) {ops : Array Oper} {L : List LOper} (hL : compOpers P ops C.N ops.toList = some L) {Q : Exit → Act → World → Prop} {m : Nat} : ∀ (n k nm : Nat) (st st' : St) (σ : Nat → Option Loc) (a : Act) (w : World), k + n = L.length → stepOps C.G rf (L.drop k) nm st = some st' →
    Rel C σ st a w → (∀ j, j < n → σ (nm + j) = none) → nm + n ≤ st.nx → m ≤ nm → Fresh σ st.nx →
    (∀ σ' a' w', Rel C σ' st' a' w' → (∀ b, b < m → σ' b = σ b) → Fresh σ' st'.nx → Q .normal a' w') → wpOps P ops Q (List.range' k n) a w
  | 0, k, nm, st, st', σ, a, w, hk, e, R, h1, h2, h3, h4, hK => by
    have : L.drop k = [] := List.drop_eq_nil_of_le (by omega)
    rw [this] at e
    simp only [stepOps] at e
    injection e with e; subst e
    exact hK σ a w R (fun _ _ => rfl) h4
  | n + 1, k, nm, st, st', σ, a, w, hk, e, R, h1, h2, h3, h4, hK => by
    have hkl : k < L.length := by omega
    obtain ⟨hlen, hget⟩ := compOpers_get _ _ hL
    have hko : k < ops.toList.length := by omega
    have ho : ops[k]? = some ops.toList[k] := by
      rw [← Array.getElem?_toList, List.getElem?_eq_getElem hko]
    obtain ⟨lo, hlo, hc⟩ := hget k _ (List.getElem?_eq_getElem hko)
    have hd : L.drop k = lo :: L.drop (k + 1) := by
      rw [List.drop_eq_getElem_cons hkl]
      congr 1
      rw [List.getElem?_eq_getElem hkl] at hlo
      injection hlo
    rw [hd] at e
    simp only [stepOps, stepOp] at e
    cases hco : coreOp C.G rf lo nm st with
    | none => rw [hco] at e; cases e
    | some p =>
      rw [hco] at e
      simp only at e
      rw [List.range'_succ, wpOps_cons]
      refine step_sound RS (nm := nm) ho hc R (by simpa using h1 0 (by omega)) (by omega) h4.hi hco fun σ' a' w' R' s1 s2 s3 => ?_
      refine ops_sound (m := m) RS hL n (k + 1) (nm + 1) _ st' σ' a' w' (by omega) e R' (fun j hj => ?_) ?_ (by omega) ⟨s3⟩ fun σ2 a2 w2 q1 q2 q3 => hK σ2 a2 w2 q1 (fun b hb => ?_) q3
      · rw [s2 _ (by omega) (by omega)]
        have := h1 (j + 1) (by omega)
        rw [← this]; congr 1; omega
      · show nm + 1 + n ≤ st.nx + p.2.2; omega
      · rw [q2 b hb, s2 b (by omega) (by omega)]

theorem region_sound {rf : RF} (RS : RFSound P C.G rf) {ops : Array Oper} {L : List LOper} (hL : compOpers P ops C.N ops.toList = some L) {Q : Exit → Act → World → Prop} {m : Nat} {st st' : St} (e : runOps C.G rf L st = some st') (R : Rel C σ st a w) (hm : m ≤ st.nx) (hF : Fresh σ st.nx) {id : Nat}
    (hK : ∀ σ' a' w', Rel C σ' st' a' w' → (∀ b, b < m → σ' b = σ b) → Fresh σ' st'.nx → Q .normal a' w') : (Code.region id ops false).wp P Q a w := by
  have hl := (compOpers_get _ _ hL).1
  refine wp_region ?_
  rw [List.range_eq_range']
  have hs : ops.size = L.length := by rw [hl]; simp
  rw [hs]
  have R2 : Rel C σ { st with nx := st.nx + L.length } a w := ⟨R.sl, R.bk, R.inj, R.ow, R.fr, R.gl, R.xl, R.df, R.tz⟩
  exact ops_sound RS hL L.length 0 st.nx _ st' σ a w (by omega) (by simpa [runOps] using e) R2 (fun j _ => hF.hi _ (by omega)) (Nat.le_refl _) hm ⟨fun b hb => hF.hi b (by have : st.nx + L.length ≤ b := hb; omega)⟩ hK

end Go.Vai
