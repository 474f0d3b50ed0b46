/-
  A part of the abstract run of Go functions and of the proof that it tells the truth.
-/
import Derived.Test.YtfaomcaimppmeaaDoorVaP
set_option linter.unusedVariables false
set_option linter.unusedSimpArgs false
namespace Go.Vai


theorem sem_bind_pure {α : Type} (x : Sem α) : x.bind Sem.pure = x := by
  induction x with
  | pure a => rfl
  | load m a k ih => simp only [Sem.bind]; congr 1; funext v; exact ih v
  | store m a v k ih => simp only [Sem.bind]; rw [ih]
  | new o k ih => simp only [Sem.bind]; congr 1; funext v; exact ih v
  | shape r k ih => simp only [Sem.bind]; congr 1; funext v; exact ih v
  | freeze a n k ih => simp only [Sem.bind]; rw [ih]
  | frozen a k ih => simp only [Sem.bind]; congr 1; funext v; exact ih v
  | getObj r k ih => simp only [Sem.bind]; congr 1; funext v; exact ih v
  | setObj r o k ih => simp only [Sem.bind]; rw [ih]
  | choose q k ih => simp only [Sem.bind]; congr 1; funext v; exact ih v
  | sys c k ih => simp only [Sem.bind]; congr 1; funext v; exact ih v
  | program k ih => simp only [Sem.bind]; congr 1; funext v; exact ih v
  | mark m k ih => simp only [Sem.bind]; rw [ih]
  | halt h => rfl
theorem sem_bind_assoc {α β γ : Type} (x : Sem α) (f : α → Sem β) (g : β → Sem γ) : (x.bind f).bind g = x.bind fun a => (f a).bind g := by
  induction x with
  | pure a => rfl
  | load m a k ih => simp only [Sem.bind]; congr 1; funext v; exact ih v
  | store m a v k ih => simp only [Sem.bind]; rw [ih]
  | new o k ih => simp only [Sem.bind]; congr 1; funext v; exact ih v
  | shape r k ih => simp only [Sem.bind]; congr 1; funext v; exact ih v
  | freeze a n k ih => simp only [Sem.bind]; rw [ih]
  | frozen a k ih => simp only [Sem.bind]; congr 1; funext v; exact ih v
  | getObj r k ih => simp only [Sem.bind]; congr 1; funext v; exact ih v
  | setObj r o k ih => simp only [Sem.bind]; rw [ih]
  | choose q k ih => simp only [Sem.bind]; congr 1; funext v; exact ih v
  | sys c k ih => simp only [Sem.bind]; congr 1; funext v; exact ih v
  | program k ih => simp only [Sem.bind]; congr 1; funext v; exact ih v
  | mark m k ih => simp only [Sem.bind]; rw [ih]
  | halt h => rfl
theorem sem_lawful : LawfulMonad Sem := LawfulMonad.mk' (m := Sem) (id_map := fun x => sem_bind_pure x) (pure_bind := fun _ _ => rfl) (bind_assoc := sem_bind_assoc)

theorem run_mapL {α : Type} {P : Program} {w : World} (f : α → Sem Value) : ∀ (as : List α) (vs : List Value), vs.length = as.length → (∀ (i : Nat) (x : α) (v : Value), as[i]? = some x → vs[i]? = some v → (f x).run P w = .ok v w) → (as.mapM f).run P w = .ok vs w
  | [], [], hl, h => by
    haveI := sem_lawful
    rw [List.mapM_nil]; rfl
  | [], _ :: _, hl, h => by simp at hl
  | _ :: _, [], hl, h => by simp at hl
  | x :: as, v :: vs, hl, h => by
    haveI := sem_lawful
    have ih := run_mapL (P := P) (w := w) f as vs (by simpa using hl) fun i y u e1 e2 => h (i + 1) y u (by simpa using e1) (by simpa using e2)
    rw [List.mapM_cons, Sem.run_bind, h 0 x v rfl rfl, Result.andThen_ok, Sem.run_bind, ih, Result.andThen_ok]
    rfl
theorem run_mapM {α : Type} {P : Program} {w : World} (f : α → Sem Value) (as : Array α) (vs : List Value) (hl : vs.length = as.size) (h : ∀ (i : Nat) (x : α) (v : Value), as[i]? = some x → vs[i]? = some v → (f x).run P w = .ok v w) :
    (as.mapM f).run P w = .ok vs.toArray w := by
  haveI := sem_lawful
  rw [Array.mapM_eq_mapM_toList]
  have := run_mapL (P := P) (w := w) f as.toList vs (by simpa using hl) fun i x v e1 e2 => h i x v (by simpa using e1) e2
  show Sem.run P (Sem.bind (as.toList.mapM f) fun l => Sem.pure l.toArray) w = _
  have hb := Sem.run_bind (P := P) (w := w) (as.toList.mapM f) (fun l => (pure l.toArray : Sem (Array Value)))
  rw [this, Result.andThen_ok] at hb
  exact hb

variable {P : Program} {C : Ctx} {σ : Nat → Option Loc} {a : Act} {w : World} {m : Nat}

theorem compRes_get : ∀ (rs : List ResultVar) (l : List LRes), compRes P rs = some l → l.length = rs.length ∧ ∀ (i : Nat) (r : ResultVar), rs[i]? = some r → (∃ t, r = .tmp t ∧ l[i]? = some (.t t)) ∨ ∃ t ty g, r = .cell t ty ∧ agT P ty = some g ∧ l[i]? = some (.cell t g)
  | [], l, h => by simp only [compRes] at h; injection h with h; subst h; exact ⟨rfl, fun i r e => by simp at e⟩
  | .tmp t :: rs, l, h => by
    simp only [compRes] at h
    split at h
    · rename_i l' hl'
      injection h with h; subst h
      obtain ⟨h1, h2⟩ := compRes_get rs l' hl'
      refine ⟨by simp [h1], fun i r e => ?_⟩
      cases i with
      | zero => simp at e; subst e; exact .inl ⟨t, rfl, rfl⟩
      | succ i => simpa using h2 i r (by simpa using e)
    · cases h
  | .cell t ty :: rs, l, h => by
    simp only [compRes] at h
    split at h
    · rename_i g l' hg hl'
      injection h with h; subst h
      obtain ⟨h1, h2⟩ := compRes_get rs l' hl'
      refine ⟨by simp [h1], fun i r e => ?_⟩
      cases i with
      | zero => simp at e; subst e; exact .inr ⟨t, ty, g, rfl, hg, rfl⟩
      | succ i => simpa using h2 i r (by simpa using e)
    · cases h
theorem resL_get {st : St} : ∀ (rs : List LRes) (l : List AV), resL st rs = some l → l.length = rs.length ∧ ∀ (i : Nat) (r : LRes), rs[i]? = some r → ∃ x, l[i]? = some x ∧ resOf st r = some x
  | [], l, h => by simp only [resL] at h; injection h with h; subst h; exact ⟨rfl, fun i r e => by simp at e⟩
  | r :: rs, l, h => by
    simp only [resL] at h
    split at h
    · rename_i x y hx hy
      injection h with h; subst h
      obtain ⟨h1, h2⟩ := resL_get rs y hy
      refine ⟨by simp [h1], fun i r' e => ?_⟩
      cases i with
      | zero => simp at e; subst e; exact ⟨x, rfl, hx⟩
      | succ i => simpa using h2 i r' (by simpa using e)
    · cases h

def resRun (a : Act) : ResultVar → Sem Value
  | .tmp t => pure (a.tmps.getD t undef)
  | .cell b t => do loadVar t (← asAddr (a.tmps.getD b undef))
theorem res_sound {st : St} (R : Rel C σ st a w) {r : ResultVar} {lr : LRes} {x : AV} (hr : (∃ t, r = .tmp t ∧ lr = .t t) ∨ ∃ t ty g, r = .cell t ty ∧ agT P ty = some g ∧ lr = .cell t g) (h : resOf st lr = some x) :
    ∃ u, VR σ (frz (hk st.hp) σ C.X w) x u ∧ (resRun a r).run P w = .ok u w := by
  rcases hr with ⟨t, rfl, rfl⟩ | ⟨t, ty, g, rfl, hg, rfl⟩
  · simp only [resOf] at h
    injection h with h; subst h
    exact ⟨_, R.sl t, rfl⟩
  · simp only [resOf] at h
    split at h
    · rename_i b o hb
      split at h
      · rename_i cs hbk
        have hp := R.sl t
        rw [hb] at hp
        obtain ⟨k, n, hσ, hv⟩ := hp.bp_inv
        have B := R.bk b _ hbk
        cases B with
        | box _ k1 cc ty1 z g1 g2 g3 g4 g5 =>
          have hkm : k = k1 := by
            rw [hσ] at g1
            injection g1 with g1; injection g1
          subst hkm
          have hl : loadC g cs o = some x := by
            cases g <;> exact h
          obtain ⟨u, q1, q2⟩ := loadC_sound (P := P) (w := w) (σ := σ) (h := frz (hk st.hp) σ C.X w) hg hl (k := k) (q := 0) (fun j => cc.getD j undef) (fun j y hj => by
            have hjl := (List.getElem?_eq_some_iff.1 hj).1
            have hjc : cc[j]? = some (cc.getD j undef) := by
              have : j < cc.size := by omega
              simp [Array.getD, this]
            exact ⟨by rw [cell_block g2, Nat.zero_add]; exact hjc, g5 j y _ hj hjc⟩)
          refine ⟨u, q1, ?_⟩
          rw [Nat.zero_add] at q2
          simp only [resRun, hv, Sem.run_bind, asAddr, Sem.run_pure, Result.andThen_ok, q2]
      · cases h
    · cases h

theorem results_sound {fn : Func} {lr : List LRes} {st : St} {l : List AV} (hc : compRes P fn.results.toList = some lr) (hl : resL st lr = some l) (R : Rel C σ st a w) :
    ∃ vs : List Value, l.length = vs.length ∧ (∀ (i : Nat) (x : AV) (u : Value), l[i]? = some x → vs[i]? = some u → VR σ (frz (hk st.hp) σ C.X w) x u) ∧ (results fn a.tmps).run P w = .ok (match vs with | [v] => v | vs => .tuple vs.toArray) w := by
  obtain ⟨c1, c2⟩ := compRes_get _ _ hc
  obtain ⟨r1, r2⟩ := resL_get _ _ hl
  have key : ∀ i, i < fn.results.toList.length → ∃ u x, l[i]? = some x ∧ VR σ (frz (hk st.hp) σ C.X w) x u ∧ ∀ r, fn.results[i]? = some r → (resRun a r).run P w = .ok u w := by
    intro i hi
    have hr := c2 i _ (List.getElem?_eq_getElem hi)
    have : ∃ lri, lr[i]? = some lri ∧ ((∃ t, fn.results.toList[i] = .tmp t ∧ lri = .t t) ∨ ∃ t ty g, fn.results.toList[i] = .cell t ty ∧ agT P ty = some g ∧ lri = .cell t g) := by
      rcases hr with ⟨t, h1, h2⟩ | ⟨t, ty, g, h1, h2, h3⟩
      · exact ⟨_, h2, .inl ⟨t, h1, rfl⟩⟩
      · exact ⟨_, h3, .inr ⟨t, ty, g, h1, h2, rfl⟩⟩
    obtain ⟨lri, h1, h2⟩ := this
    obtain ⟨x, h3, h4⟩ := r2 i lri h1
    obtain ⟨u, q1, q2⟩ := res_sound (P := P) R h2 h4
    refine ⟨u, x, h3, q1, fun r hr => ?_⟩
    have : r = fn.results.toList[i] := by
      rw [← Array.getElem?_toList, List.getElem?_eq_getElem hi] at hr
      injection hr with hr; exact hr.symm
    rw [this]; exact q2
  have hex : ∃ vs : List Value, vs.length = fn.results.size ∧ ∀ (i : Nat) (u : Value), vs[i]? = some u → ∃ x, l[i]? = some x ∧ VR σ (frz (hk st.hp) σ C.X w) x u ∧ ∀ r, fn.results[i]? = some r → (resRun a r).run P w = .ok u w := by
    have : ∀ n, n ≤ fn.results.size → ∃ vs : List Value, vs.length = n ∧ ∀ (i : Nat) (u : Value), vs[i]? = some u → ∃ x, l[i]? = some x ∧ VR σ (frz (hk st.hp) σ C.X w) x u ∧ ∀ r, fn.results[i]? = some r → (resRun a r).run P w = .ok u w := by
      intro n
      induction n with
      | zero => exact fun _ => ⟨[], rfl, fun i u e => by simp at e⟩
      | succ n ih =>
        intro hn
        obtain ⟨vs, h1, h2⟩ := ih (by omega)
        obtain ⟨u, x, q1, q2, q3⟩ := key n (by rw [Array.length_toList]; omega)
        refine ⟨vs ++ [u], by simp [h1], fun i v e => ?_⟩
        rw [List.getElem?_append] at e
        split at e
        · exact h2 i v e
        · rename_i hi
          have : i = n := by
            have := (List.getElem?_eq_some_iff.1 e).1
            simp at this; omega
          subst this
          rw [h1] at e
          simp at e
          subst e
          exact ⟨x, q1, q2, q3⟩
    exact this _ (Nat.le_refl _)
  obtain ⟨vs, v1, v2⟩ := hex
  refine ⟨vs, by rw [r1, c1, v1]; simp, fun i x u e1 e2 => ?_, ?_⟩
  · obtain ⟨y, h1, h2, _⟩ := v2 i u e2
    rw [e1] at h1
    injection h1 with h1; subst h1; exact h2
  · have hm := run_mapM (P := P) (w := w) (resRun a) fn.results vs v1 (fun i r u e1 e2 => by
        obtain ⟨_, _, _, h⟩ := v2 i u e2
        exact h r e1)
    have hru : results fn a.tmps = (do
        let vs ← fn.results.mapM (resRun a)
        pure (if h : vs.size = 1 then vs[0] else .tuple vs)) := by
      unfold results
      congr 2
    rw [hru, Sem.run_bind, hm, Result.andThen_ok]
    cases vs with
    | nil => rfl
    | cons v r => cases r with
      | nil => rfl
      | cons v2 r => rfl


theorem fro1_sound {hp : HW} (R : HRel C σ (hk hp) w) {x : AV} {u : Value} (r : VR σ (frz (hk hp) σ C.X w) x u) :
    HRel C σ (hk (fro1 m hp x).2) w ∧ HLe (frz (hk hp) σ C.X w) (frz (hk (fro1 m hp x).2) σ C.X w) ∧ VR σ (frz (hk (fro1 m hp x).2) σ C.X w) (fro1 m hp x).1 u := by
  unfold fro1
  split
  · rename_i b sz off len
    split
    · exact ⟨R, HLe.refl _, r⟩
    · split
      · rename_i es hes
        have e : toFV hp (.osl b sz off len) = some (.sl es, [(b, none)]) := by simp only [toFV, hes]
        obtain ⟨h1, h2, _⟩ := toFV_sound R e r
        exact ⟨R.shrink h1, frz_shrink h1 C.X, .fz _ _ h2⟩
      · exact ⟨R, HLe.refl _, r⟩
  · obtain ⟨A, rfl⟩ := r.emp_inv
    exact ⟨R, HLe.refl _, .fz _ _ (.sl0 _ _)⟩
  · exact ⟨R, HLe.refl _, r⟩
theorem froC_sound : ∀ (l : List AV) (hp : HW) (vs : List Value), HRel C σ (hk hp) w → l.length = vs.length → (∀ (i : Nat) (x : AV) (u : Value), l[i]? = some x → vs[i]? = some u → VR σ (frz (hk hp) σ C.X w) x u) →
    HRel C σ (hk (froC m hp l).2) w ∧ HLe (frz (hk hp) σ C.X w) (frz (hk (froC m hp l).2) σ C.X w) ∧ (froC m hp l).1.length = vs.length ∧ ∀ (i : Nat) (x : AV) (u : Value), (froC m hp l).1[i]? = some x → vs[i]? = some u → VR σ (frz (hk (froC m hp l).2) σ C.X w) x u
  | [], hp, vs, R, hl, h => ⟨R, HLe.refl _, hl, fun i x u e1 e2 => by simp [froC] at e1⟩
  | x :: r, hp, [], R, hl, h => by simp at hl
  | x :: r, hp, v :: vs, R, hl, h => by
    obtain ⟨h1, h2, h3⟩ := fro1_sound (m := m) R (h 0 x v rfl rfl)
    obtain ⟨g1, g2, g3, g4⟩ := froC_sound r (fro1 m hp x).2 vs h1 (by simpa using hl) (fun i y u e1 e2 => (h (i + 1) y u (by simpa using e1) (by simpa using e2)).mono (SLe.refl _) h2)
    refine ⟨g1, h2.trans g2, by simp [froC, g3], fun i y u e1 e2 => ?_⟩
    cases i with
    | zero => simp [froC] at e1 e2; subst e1; subst e2; exact h3.mono (SLe.refl _) g2
    | succ i => exact g4 i y u (by simpa [froC] using e1) (by simpa using e2)
theorem froA_sound {hp : HW} (R : HRel C σ (hk hp) w) {x : AV} {u : Value} (r : VR σ (frz (hk hp) σ C.X w) x u) :
    HRel C σ (hk (froA m hp x).2) w ∧ HLe (frz (hk hp) σ C.X w) (frz (hk (froA m hp x).2) σ C.X w) ∧ VR σ (frz (hk (froA m hp x).2) σ C.X w) (froA m hp x).1 u := by
  unfold froA
  split
  · rename_i l
    obtain ⟨vs, rfl, hl, h⟩ := r.agg_inv
    obtain ⟨g1, g2, g3, g4⟩ := froC_sound (m := m) l hp vs R hl h
    exact ⟨g1, g2, .agg _ vs g3 g4⟩
  · exact fro1_sound R r
theorem froL_sound : ∀ (l : List AV) (hp : HW) (vs : List Value), HRel C σ (hk hp) w → l.length = vs.length → (∀ (i : Nat) (x : AV) (u : Value), l[i]? = some x → vs[i]? = some u → VR σ (frz (hk hp) σ C.X w) x u) →
    HRel C σ (hk (froL m hp l).2) w ∧ HLe (frz (hk hp) σ C.X w) (frz (hk (froL m hp l).2) σ C.X w) ∧ (froL m hp l).1.length = vs.length ∧ ∀ (i : Nat) (x : AV) (u : Value), (froL m hp l).1[i]? = some x → vs[i]? = some u → VR σ (frz (hk (froL m hp l).2) σ C.X w) x u
  | [], hp, vs, R, hl, h => ⟨R, HLe.refl _, hl, fun i x u e1 e2 => by simp [froL] at e1⟩
  | x :: r, hp, [], R, hl, h => by simp at hl
  | x :: r, hp, v :: vs, R, hl, h => by
    obtain ⟨h1, h2, h3⟩ := froA_sound (m := m) R (h 0 x v rfl rfl)
    obtain ⟨g1, g2, g3, g4⟩ := froL_sound r (froA m hp x).2 vs h1 (by simpa using hl) (fun i y u e1 e2 => (h (i + 1) y u (by simpa using e1) (by simpa using e2)).mono (SLe.refl _) h2)
    refine ⟨g1, h2.trans g2, by simp [froL, g3], fun i y u e1 e2 => ?_⟩
    cases i with
    | zero => simp [froL] at e1 e2; subst e1; subst e2; exact h3.mono (SLe.refl _) g2
    | succ i => exact g4 i y u (by simpa [froL] using e1) (by simpa using e2)

theorem tup_sound {h : PH} : ∀ (l : List AV) (vs : List Value), l.length = vs.length → (∀ (i : Nat) (x : AV) (u : Value), l[i]? = some x → vs[i]? = some u → VR σ h x u) → VR σ h (tupOf l) (match vs with | [v] => v | vs => .tuple vs.toArray)
  | [], [], hl, hr => .tup [] [] rfl hr
  | [], _ :: _, hl, hr => by simp at hl
  | _ :: _, [], hl, hr => by simp at hl
  | [x], [v], hl, hr => hr 0 x v rfl rfl
  | [x], _ :: _ :: _, hl, hr => by simp at hl
  | _ :: _ :: _, [v], hl, hr => by simp at hl
  | x :: y :: r, v :: u :: vs, hl, hr => .tup _ _ hl hr

theorem finish_sound {fn : Func} {L : LFunc} {st : St} {r : AV} {bl : List (Option Blk)} (hc : compRes P fn.results.toList = some L.res) (R : Rel C σ st a w) (e : finish L m st = some (r, bl)) :
    m ≤ bl.length ∧ ∃ u σ', (results fn a.tmps).run P w = .ok u w ∧ VR σ' (frz (hk (numd 0 bl)) σ' C.X w) r u ∧ HRel C σ' (hk (numd 0 bl)) w ∧ (∀ b, b < m → σ' b = σ b) ∧ ∀ b, bl.length ≤ b → σ' b = none := by
  unfold finish at e
  split at e
  · rename_i l hl
    obtain ⟨vs, h1, h2, h3⟩ := results_sound hc hl R
    have hp : ∃ l' hp', (if L.own = true then (l, st.hp) else froL m st.hp l) = (l', hp') ∧ HRel C σ (hk hp') w ∧ l'.length = vs.length ∧ ∀ (i : Nat) (x : AV) (u : Value), l'[i]? = some x → vs[i]? = some u → VR σ (frz (hk hp') σ C.X w) x u := by
      by_cases ho : L.own = true
      · rw [if_pos ho]; exact ⟨l, st.hp, rfl, R.heap, h1, h2⟩
      · rw [if_neg ho]
        obtain ⟨g1, g2, g3, g4⟩ := froL_sound (m := m) l st.hp vs R.heap h1 h2
        exact ⟨_, _, rfl, g1, g3, g4⟩
    obtain ⟨l', hp', hpe, g1, g2, g3⟩ := hp
    rw [hpe] at e
    simp only at e
    generalize hns : clos hp' 1000 (argNames m hp' ++ (tupOf l').names) (upTo m) = ns at e
    injection e with e; injection e with e1 e2; subst e1; subst e2
    have hnd : ns.Nodup := hns ▸ clos_nodup _ _ _ _ (upTo_nodup m)
    obtain ⟨q, hq⟩ := clos_pre hp' 1000 (argNames m hp' ++ (tupOf l').names) (upTo m)
    rw [hns] at hq
    obtain ⟨hR, hle⟩ := g1.norm hnd
    have hget : ∀ b, b < m → ns[b]? = some b := fun b hb => by
      rw [hq, List.getElem?_append_left (by rw [upTo_length]; exact hb)]
      exact upTo_get m b hb
    refine ⟨by rw [blks_length, hq, List.length_append, upTo_length]; omega, _, σr σ ns, h3, ?_, hR, fun b hb => σr_get (hget b hb), fun b hb => ?_⟩
    · exact ((tup_sound l' vs g2 g3).mono (SLe.refl _) hle).ren fun b j h => σr_idx h
    · rw [blks_length] at hb
      simp [σr, List.getElem?_eq_none hb]
  · cases e


theorem slots_get : ∀ (xs : List AV) (i t : Nat), lk (slots0 i xs) t = if i ≤ t then (xs[t - i]?).getD .dead else .dead
  | [], i, t => by simp [slots0, lk]
  | x :: r, i, t => by
    simp only [slots0, lk]
    by_cases h : i = t
    · subst h; simp
    · rw [if_neg h, slots_get r (i + 1) t]
      by_cases h2 : i ≤ t
      · rw [if_pos (by omega), if_pos h2]
        have : t - i = (t - (i + 1)) + 1 := by omega
        rw [this, List.getElem?_cons_succ]
      · rw [if_neg (by omega), if_neg h2]

def TOk (P : Program) (T : FuncId → Option LFunc) : Prop := ∀ f L, T f = some L → ∃ fn h, P.funcs[f]? = some fn ∧ (fn.name == "runtime.NumGoroutine") = false ∧ compF P fn h = some L

theorem compF_inv {fn : Func} {hh : Hint} {L : LFunc} (h : compF P fn hh = some L) : ∃ b lv', fn.body = some b ∧ compC P fn.ntmps hh.pr b hh.lv = some (L.body, lv') ∧ compRes P fn.results.toList = some L.res ∧ L.own = hh.own ∧ L.n = fn.ntmps := by
  unfold compF at h
  split at h
  · rename_i b hb
    split at h
    · rename_i c r hc hr
      split at h
      · injection h with h; subst h
        exact ⟨b, [], hb, hc, hr, rfl, rfl⟩
      · cases h
    · cases h
  · cases h

theorem runN_sound {G : Nat → Option (List FV)} {T : FuncId → Option LFunc} {E : RF} (hmix : P.follows .mixedOrders = true) (hT : TOk P T) (hE : RFSound P G E) : ∀ n, RFSound P G (runN G T E n)
  | 0 => fun f xs bl r bl' e => by simp [runN] at e
  | n + 1 => by
    intro f xs bl r bl' e
    have RS := runN_sound hmix hT hE n
    simp only [runN] at e
    split at e
    · rename_i L hL
      obtain ⟨fn, hh, hf, hnm, hc⟩ := hT f L hL
      obtain ⟨b, lv', hb, hbody, hres, _, _⟩ := compF_inv hc
      have hfin : ∃ ex st, exec G (runN G T E n) bl.length n L.body (coSts L.ent { sl := slots0 0 xs, hp := numd 0 bl, nx := bl.length }) = some (ex, st) ∧ (ex = .nor ∨ ex = .ret) ∧ finish L bl.length (coSts L.fin st) = some (r, bl') := by
        split at e
        · rename_i st hs; exact ⟨.nor, st, hs, .inl rfl, e⟩
        · rename_i st hs; exact ⟨.ret, st, hs, .inr rfl, e⟩
        · cases e
      obtain ⟨ex, st, hex, hex2, hfi⟩ := hfin
      have hlen : bl.length ≤ bl'.length := by
        unfold finish at hfi
        split at hfi
        · injection hfi with hfi; injection hfi with _ h2; subst h2
          rw [blks_length]
          obtain ⟨q, hq⟩ := clos_pre (if L.own = true then ((_ : List AV), (coSts L.fin st).hp) else froL bl.length (coSts L.fin st).hp _).2 1000 (argNames bl.length (if L.own = true then ((_ : List AV), (coSts L.fin st).hp) else froL bl.length (coSts L.fin st).hp _).2 ++ (tupOf (if L.own = true then ((_ : List AV), (coSts L.fin st).hp) else froL bl.length (coSts L.fin st).hp _).1).names) (upTo bl.length)
          rw [hq, List.length_append, upTo_length]; omega
        · cases hfi
      refine ⟨hlen, ?_⟩
      intro C σ w vs hG hw0 hown hnone R hxl hxs K hK
      subst hG
      refine .inl ⟨?_, ?_⟩
      · simp only [callFunc]
        have hnm' : ¬ fn.name = "runtime.NumGoroutine" := by simpa using hnm
        simp [hf, hnm', hb, Sem.run_bind]
      · refine calls_of_wp hf hb ?_
        let C' : Ctx := { G := C.G, X := C.X, own0 := C.own0, w0 := C.w0, N := fn.ntmps }
        have R0 : Rel { C with N := fn.ntmps } σ { sl := slots0 0 xs, hp := numd 0 bl, nx := bl.length } { tmps := vs.toArray ++ Array.replicate (fn.ntmps - vs.toArray.size) undef, defers := [] } w := by
          refine HRel.rel (C := { C with N := fn.ntmps }) (st := { sl := slots0 0 xs, hp := numd 0 bl, nx := bl.length }) ⟨R.bk, R.inj, R.ow, R.fr, R.gl, R.xl⟩ (fun t => ?_) rfl (by show fn.ntmps ≤ _; simp; omega)
          show VR σ (frz (hk (numd 0 bl)) σ C.X w) (lk (slots0 0 xs) t) _
          rw [slots_get, if_pos (Nat.zero_le _), Nat.sub_zero]
          cases hx : xs[t]? with
          | none => exact .dead _
          | some x =>
            have ht := (List.getElem?_eq_some_iff.1 hx).1
            have hv : vs[t]? = some vs[t] := List.getElem?_eq_getElem (by omega)
            have := hxs t x _ hx hv
            have hg : (vs.toArray ++ Array.replicate (fn.ntmps - vs.toArray.size) undef).getD t undef = vs[t] := by
              rw [Array.getD_eq_getD_getElem?, Array.getElem?_append_left (by simp; omega)]
              simp [hv]
            rw [hg]; exact this
        obtain ⟨σ0, R00, d1, d2, d3⟩ := coSts_sound (m := bl.length) L.ent R0 ⟨hnone⟩ (Nat.le_refl _)
        refine (exec_sound (C := { C with N := fn.ntmps }) (m := bl.length) hmix RS n).1 b L.body hh.pr hh.lv lv' _ st ex σ0 _ w _ hbody hex R00 d2 d3 fun σ' a' w' q1 q2 q3 q4 => ?_
        obtain ⟨σ1, R1, c1, c2, c3⟩ := coSts_sound (m := bl.length) L.fin q1 q3 q4
        obtain ⟨_, u, σ2, f1, f2, f3, f4, f5⟩ := finish_sound (P := P) (fn := fn) hres R1 hfi
        have hk := hK u σ2 w' f2 ⟨f3.bk, f3.inj, f3.ow, f3.fr, f3.gl, f3.xl⟩ (fun b hb => by rw [f4 b hb, c1 b hb, q2 b hb, d1 b hb]) f5
        rcases hex2 with rfl | rfl
        · exact ⟨q1.df, u, f1, hk⟩
        · exact ⟨q1.df, u, f1, hk⟩
    · exact hE f xs bl r bl' e

end Go.Vai
