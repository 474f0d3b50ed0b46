/-
  The row of the law of moved outlines.
-/
import Derived.Test.YtfaomcaimppmeaaDoorGG
set_option linter.unusedVariables false
set_option linter.unusedSimpArgs false
set_option linter.unnecessarySimpa false
namespace Go.Vai
open Go.RowKit Go.ChangeShapes Go.WideShapes Go.Proofs Go.Proofs.YtfaomcaimppmeaaDoor

/-! Arguments by their types. -/
def tPt : Ty := .st [.i .i64, .i .i64]
def tOl : Ty := .sl tPt 2
def tOls : Ty := .sl tOl 1
theorem hasT_int {k : IntKind} {xs : List FV} (h : HasT (.i k) xs) : ∃ n : Int, xs = [.sc (.int k n)] ∧ (Lit.int k n).wf = true := by
  cases h with
  | i k n h => exact ⟨n, rfl, h⟩
theorem hasT_pt {xs : List FV} (h : HasT tPt xs) : ∃ p : Pt, xs = ePt p ∧ True := by
  cases h with
  | st _ _ hl hf =>
    match xs, hl with
    | [x, y], _ =>
      obtain ⟨a, ha, _⟩ := hasT_int (hf 0 _ x rfl rfl)
      obtain ⟨b, hb, _⟩ := hasT_int (hf 1 _ y rfl rfl)
      injection ha with ha
      injection hb with hb
      subst ha; subst hb
      exact ⟨(a, b), rfl, trivial⟩
theorem rows_of {α : Type} {enc : α → List FV} {Q : α → Prop} : ∀ (es : List (List FV)), (∀ c ∈ es, ∃ x, c = enc x ∧ Q x) → ∃ l : List α, es = l.map enc ∧ ∀ x ∈ l, Q x
  | [], _ => ⟨[], rfl, fun x h => by simp at h⟩
  | c :: r, h => by
    obtain ⟨x, rfl, hq⟩ := h c (by simp)
    obtain ⟨l, rfl, hl⟩ := rows_of r fun c hc => h c (by simp [hc])
    refine ⟨x :: l, rfl, fun y hy => ?_⟩
    rcases List.mem_cons.1 hy with rfl | hy
    · exact hq
    · exact hl y hy
theorem hasT_rows {α : Type} {enc : α → List FV} {Q : α → Prop} {e : Ty} {sz : Nat} {xs : List FV} (he : ∀ c, HasT e c → ∃ x, c = enc x ∧ Q x) (h : HasT (.sl e sz) xs) : ∃ l : List α, xs = [.sl (l.map enc)] ∧ l.length ≤ 140737488351232 ∧ ∀ x ∈ l, Q x := by
  cases h with
  | sl _ _ es h1 _ h3 =>
    obtain ⟨l, rfl, hl⟩ := rows_of (enc := enc) (Q := Q) es fun c hc => by
      obtain ⟨i, hi⟩ := List.mem_iff_getElem?.1 hc
      exact he c (h1 i c hi)
    exact ⟨l, rfl, by simpa using h3, hl⟩
theorem hasT_ol {xs : List FV} (h : HasT tOl xs) : ∃ o : Ol, xs = eOl o ∧ o.length ≤ 140737488351232 := by
  obtain ⟨l, rfl, h2, _⟩ := hasT_rows (enc := ePt) (fun c hc => hasT_pt hc) h
  exact ⟨l, rfl, h2⟩
theorem hasT_ols {xs : List FV} (h : HasT tOls xs) : ∃ l : List Ol, xs = [.sl (l.map eOl)] ∧ l.length ≤ 140737488351232 ∧ ∀ o ∈ l, o.length ≤ 140737488351232 := hasT_rows (enc := eOl) (fun c hc => hasT_ol hc) h
theorem ok_int : TyOk Tryd.prog (.i .i64) 3 := .i _ _ (by kernel_rfl)
theorem ok_pt : TyOk Tryd.prog tPt 75 := by
  refine .st [.i .i64, .i .i64] 75 _ Tryd.underlying75 (by kernel_rfl) (by kernel_rfl) rfl ?_
  intro i f g h1 h2
  match i with
  | 0 => simp at h1 h2; subst h1; subst h2; exact ok_int
  | 1 => simp at h1 h2; subst h1; subst h2; exact ok_int
  | n + 2 => simp at h1
theorem ok_ol : TyOk Tryd.prog tOl 42 := .sl _ _ 42 75 (by kernel_rfl) (by kernel_rfl) (by decide) (of_decide_eq_true (by kernel_rfl)) ok_pt
theorem ok_ols : TyOk Tryd.prog tOls 34 := .sl _ _ 34 42 (by kernel_rfl) (by kernel_rfl) (by decide) (of_decide_eq_true (by kernel_rfl)) ok_ol

theorem mixed : Tryd.prog.follows .mixedOrders = true := by kernel_rfl

/-! The law of moved outlines. -/
def tsMoved : List Ty := [tOls, .i .i64, .i .i64]
theorem hrun_moved : ∀ xss : List (List FV), xss.length = tsMoved.length → (∀ (i : Nat) (T : Ty) (xs : List FV), tsMoved[i]? = some T → xss[i]? = some xs → HasT T xs) → ∃ bl, V.run 6 (List.zipWith argAV tsMoved xss) [] = some (.fz (.sc (.bool true)), bl) := by
  intro xss hl h
  match xss, hl with
  | [x0, x1, x2], _ =>
    obtain ⟨l, rfl, h1, h2⟩ := hasT_ols (h 0 _ x0 rfl rfl)
    obtain ⟨a, rfl, _⟩ := hasT_int (h 1 _ x1 rfl rfl)
    obtain ⟨b, rfl, _⟩ := hasT_int (h 2 _ x2 rfl rfl)
    exact ⟨[], law_moved l a b h1 h2⟩
set_option maxRecDepth 100000 in
theorem lifted_moved (os : Os) (started : os.Started) (H : Type) (enc : TypeId × Value → H) :
    ReturnsInHanded {} Tryd.checked os 6 .any (fun w args => (Rows.glyphMovedSpec.pre enc Tryd.prog Tryd.f6 [] false w args ∧ laidMetH Tryd.prog laidL w) ∧ sizedMet enc Tryd.prog Tryd.f6 (OpenSpec.ofChange Rows.glyphMovedSpec) false w args)
      (Rows.glyphMovedSpec.post enc Tryd.prog Tryd.f6 false true false false) := by
  refine returnsInHanded_of_change_and (C := Tryd.checked) (X := fun w _ => laidMetH Tryd.prog laidL w) (fun _ _ _ hh h => h.of_heap hh) Tryd_own started (by kernel_rfl) Tryd.func6
    (ChangeSpec.witness_at (enc := enc) (C := Tryd.checked) (os := os) (X := fun w _ => laidMetH Tryd.prog laidL w) false (laidW os) #[.slice none 0 0, .int .i64 0, .int .i64 0] 8 rfl (by kernel_rfl) (by kernel_rfl) (by kernel_rfl) (by kernel_rfl) (by kernel_rfl) (laidW_met os _)) ?_
  intro W base args ds gs before hval hW _ hwt hL _
  exact contract_true V mixed tok noE_sound Tryd_laidOut Tryd.func6 (by kernel_rfl) rfl (Ts := tsMoved) (by kernel_rfl) (by
      intro i T t h1 h2
      rw [Tryd.params6] at h2
      match i with
      | 0 => simp [tsMoved] at h1 h2; subst h1; subst h2; exact ok_ols
      | 1 => simp [tsMoved] at h1 h2; subst h1; subst h2; exact ok_int
      | 2 => simp [tsMoved] at h1 h2; subst h1; subst h2; exact ok_int
      | n + 3 => simp [tsMoved] at h1)
    (by
      intro t ht
      rw [Tryd.params6] at ht
      simp at ht
      rcases ht with rfl | rfl
      · exact ⟨by kernel_rfl, of_decide_eq_true (by kernel_rfl)⟩
      · exact ⟨by kernel_rfl, of_decide_eq_true (by kernel_rfl)⟩)
    rfl (tb := 4) (by kernel_rfl) (by kernel_rfl) (by
      intro ds hd
      match ds, hd with
      | [d0, d1, d2], _ => rfl)
    hrun_moved (gr_of_laid hL) hval hW hwt
end Go.Vai
