/-
  A part of the abstract run of Go functions and of the proof that it tells the truth.
-/
import Derived.Test.YthejhdkdfjinbaaDoorVa8
set_option linter.unusedVariables false
set_option linter.unusedSimpArgs false
namespace Go.Vai

/-! ## 14. The heap's part of the relation -/

structure HRel (C : Ctx) (σ : Nat → Option Loc) (hp : Nat → Option Blk) (w : World) : Prop where
  bk : ∀ b blk, hp b = some blk → BR σ (frz hp σ C.X w) w b blk
  inj : ∀ b b' k, Live hp σ b k → Live hp σ b' k → b = b'
  ow : ∀ b k, Live hp σ b k → ¬ C.X k ∧ k < w.heap.size ∧ (C.own0 k ∨ C.w0.heap.size ≤ k)
  fr : Frame0 C.own0 C.w0 w
  gl : GR C.G (frz hp σ C.X w)
  xl : ∀ k, C.X k → k < C.w0.heap.size

variable {C : Ctx} {σ : Nat → Option Loc} {hp : Nat → Option Blk} {w : World}

theorem Rel.heap {st : St} {a : Act} (R : Rel C σ st a w) : HRel C σ (hk st.hp) w := ⟨R.bk, R.inj, R.ow, R.fr, R.gl, R.xl⟩
theorem HRel.rel {st : St} {a : Act} (R : HRel C σ (hk st.hp) w) (hs : ∀ t, VR σ (frz (hk st.hp) σ C.X w) (lk st.sl t) (a.tmps.getD t undef)) (hd : a.defers = []) (hz : C.N ≤ a.tmps.size) : Rel C σ st a w :=
  ⟨hs, R.bk, R.inj, R.ow, R.fr, R.gl, R.xl, hd, hz⟩

/-- Names are let go. -/
theorem frz_shrink {hp' : Nat → Option Blk} (hsub : ∀ b blk, hp' b = some blk → hp b = some blk) (X : Nat → Prop) : HLe (frz hp σ X w) (frz hp' σ X w) := by
  intro k o e
  rw [frz_some] at e ⊢
  refine ⟨⟨fun ⟨b, blk, d, n, sz, h1, h2⟩ => e.1.1 ⟨b, blk, d, n, sz, hsub _ _ h1, h2⟩, e.1.2⟩, e.2⟩
theorem HRel.shrink (R : HRel C σ hp w) {hp' : Nat → Option Blk} (hsub : ∀ b blk, hp' b = some blk → hp b = some blk) : HRel C σ hp' w := by
  have hl := frz_shrink (σ := σ) (w := w) hsub C.X
  have hlv : ∀ b k, Live hp' σ b k → Live hp σ b k := fun b k ⟨blk, d, n, sz, h1, h2⟩ => ⟨blk, d, n, sz, hsub _ _ h1, h2⟩
  exact ⟨fun b blk e => (R.bk b blk (hsub _ _ e)).mono (SLe.refl _) hl fun _ _ _ _ _ => rfl, fun b b' k h1 h2 => R.inj b b' k (hlv _ _ h1) (hlv _ _ h2), fun b k h1 => R.ow b k (hlv _ _ h1), R.fr, R.gl.mono hl, R.xl⟩

def upd {α : Type} (f : Nat → α) (b : Nat) (v : α) : Nat → α := fun i => if i = b then v else f i
theorem upd_same {α : Type} (f : Nat → α) (b : Nat) (v : α) : upd f b v b = v := by simp [upd]
theorem upd_ne {α : Type} (f : Nat → α) {b i : Nat} (v : α) (e : i ≠ b) : upd f b v i = f i := by simp [upd, e]
theorem hk_cons (b : Nat) (v : Option Blk) (hp : HW) : hk ((b, v) :: hp) = upd (hk hp) b v := by
  funext i
  simp only [hk, upd]
  by_cases e : b = i
  · subst e; simp
  · rw [if_neg e, if_neg (fun h => e h.symm)]

theorem SLe.upd {nm : Nat} (e : σ nm = none) (l : Loc) : SLe σ (upd σ nm (some l)) := by
  intro b l' h
  by_cases hb : b = nm
  · subst hb; rw [e] at h; cases h
  · rw [upd_ne _ _ hb]; exact h

theorem heap_alloc_lt {o : Obj} {k : Nat} (hk : k < w.heap.size) : (w.alloc o).heap[k]? = w.heap[k]? := by
  show (w.heap.push o)[k]? = _
  rw [Array.getElem?_push, if_neg (by omega)]
theorem heap_alloc_new {o : Obj} : (w.alloc o).heap[w.heap.size]? = some o := by
  show (w.heap.push o)[w.heap.size]? = _
  simp
theorem size_alloc' {o : Obj} : (w.alloc o).heap.size = w.heap.size + 1 := by
  show (w.heap.push o).size = _
  simp

theorem Frame0.alloc {own0 : Nat → Prop} {w0 : World} (F : Frame0 own0 w0 w) (o : Obj) : Frame0 own0 w0 (w.alloc o) :=
  ⟨by have := F.size; rw [size_alloc']; omega, fun k h1 h2 => by rw [heap_alloc_lt (by have := F.size; omega)]; exact F.keep k h1 h2, F.os, F.tape, F.output⟩

theorem fresh_live {nm : Nat} {d n sz : Nat} {blk : Blk} {b k : Nat} (hb : Live (upd hp nm (some blk)) (upd σ nm (some (.here w.heap.size d n sz))) b k) : (b = nm ∧ k = w.heap.size) ∨ (b ≠ nm ∧ Live hp σ b k) := by
  obtain ⟨blk', d', n', sz', h1, h2⟩ := hb
  by_cases e : b = nm
  · subst e
    rw [upd_same] at h2
    injection h2 with h2; injection h2 with h2
    exact .inl ⟨rfl, h2.symm⟩
  · rw [upd_ne _ _ e] at h1 h2
    exact .inr ⟨e, blk', d', n', sz', h1, h2⟩
theorem frz_fresh (X : Nat → Prop) (nm : Nat) (o : Obj) (d n sz : Nat) (blk : Blk) : HLe (frz hp σ X w) (frz (upd hp nm (some blk)) (upd σ nm (some (.here w.heap.size d n sz))) X (w.alloc o)) := by
  intro k ob e
  rw [frz_some] at e ⊢
  have hk : k < w.heap.size := (Array.getElem?_eq_some_iff.1 e.2).1
  refine ⟨⟨?_, e.1.2⟩, by rw [heap_alloc_lt hk]; exact e.2⟩
  rintro ⟨b, hb⟩
  rcases fresh_live hb with ⟨_, h⟩ | ⟨_, h⟩
  · omega
  · exact e.1.1 ⟨b, h⟩
/-- A new block under a new name. -/
theorem HRel.fresh (R : HRel C σ hp w) {nm : Nat} (hn : σ nm = none) (o : Obj) (d n sz : Nat) (blk : Blk)
    (hb : BR (upd σ nm (some (.here w.heap.size d n sz))) (frz (upd hp nm (some blk)) (upd σ nm (some (.here w.heap.size d n sz))) C.X (w.alloc o)) (w.alloc o) nm blk) :
    HRel C (upd σ nm (some (.here w.heap.size d n sz))) (upd hp nm (some blk)) (w.alloc o) := by
  have hl := frz_fresh (hp := hp) (σ := σ) (w := w) C.X nm o d n sz blk
  have hs := SLe.upd hn (.here w.heap.size d n sz)
  refine ⟨fun b blk' e => ?_, fun b b' k h1 h2 => ?_, fun b k h1 => ?_, R.fr.alloc o, R.gl.mono hl, R.xl⟩
  · by_cases hbn : b = nm
    · subst hbn
      rw [upd_same] at e
      injection e with e; subst e
      exact hb
    · rw [upd_ne _ _ hbn] at e
      refine (R.bk b blk' e).mono hs hl fun k d' n' sz' hσ => ?_
      have := (R.ow b k ⟨blk', d', n', sz', e, hσ⟩).2.1
      exact heap_alloc_lt this
  · rcases fresh_live h1 with ⟨rfl, rfl⟩ | ⟨_, g1⟩ <;> rcases fresh_live h2 with ⟨rfl, e⟩ | ⟨_, g2⟩
    · rfl
    · have := (R.ow _ _ g2).2.1; omega
    · have := (R.ow _ _ g1).2.1; omega
    · exact R.inj _ _ _ g1 g2
  · rcases fresh_live h1 with ⟨rfl, rfl⟩ | ⟨_, g1⟩
    · refine ⟨fun hx => ?_, by rw [size_alloc']; omega, .inr R.fr.size⟩
      have := R.xl _ hx
      have := R.fr.size
      omega
    · have := R.ow _ _ g1
      exact ⟨this.1, by rw [size_alloc']; omega, this.2.2⟩
theorem HRel.freshBox (R : HRel C σ hp w) {nm : Nat} (hn : σ nm = none) (t : TypeId) (c : Array Value) (cs : List AV) (hc : c.size = cs.length) (hr : ∀ (i : Nat) (x : AV) (v : Value), cs[i]? = some x → c[i]? = some v → VR σ (frz hp σ C.X w) x v) :
    HRel C (upd σ nm (some (.here w.heap.size 0 cs.length 1))) (upd hp nm (some (.box cs))) (w.alloc (.cells c t)) :=
  R.fresh hn _ 0 cs.length 1 _ (.box cs w.heap.size c t (0, 0) (upd_same _ _ _) heap_alloc_new (.inl rfl) hc fun i x v e1 e2 => (hr i x v e1 e2).mono (SLe.upd hn _) (frz_fresh C.X nm _ 0 cs.length 1 _))
theorem HRel.freshArr (R : HRel C σ hp w) {nm : Nat} (hn : σ nm = none) (t : TypeId) (c : Array Value) (z : Nat × Nat) (hz : NoFz c z) (sz : Nat) (es : List (List FV)) (hl : ∀ (i : Nat) (cl : List FV), es[i]? = some cl → cl.length = sz)
    (hr : ∀ (i : Nat) (cl : List FV) (j : Nat) (x : FV), es[i]? = some cl → cl[j]? = some x → ∃ v, c[i * sz + j]? = some v ∧ FR (frz hp σ C.X w) x v) :
    HRel C (upd σ nm (some (.here w.heap.size 0 c.size sz))) (upd hp nm (some (.arr sz es))) (w.alloc (.cells c t z)) :=
  R.fresh hn _ 0 c.size sz _ (.arr sz es w.heap.size 0 c t z (upd_same _ _ _) heap_alloc_new hz hl fun i cl j x e1 e2 => by
    obtain ⟨v, hv, r⟩ := hr i cl j x e1 e2
    exact ⟨v, by simpa using hv, r.mono (frz_fresh C.X nm _ 0 c.size sz _)⟩)

/-- A new nil row under a new name: the world stays. -/
theorem HRel.virt (R : HRel C σ hp w) {nm : Nat} (hn : σ nm = none) (sz : Nat) :
    HRel C (upd σ nm (some .vir)) (upd hp nm (some (.arr sz []))) w ∧ HLe (frz hp σ C.X w) (frz (upd hp nm (some (.arr sz []))) (upd σ nm (some .vir)) C.X w) := by
  have hlv : ∀ b k, Live (upd hp nm (some (.arr sz []))) (upd σ nm (some .vir)) b k → Live hp σ b k := by
    rintro b k ⟨blk', d', n', sz', h1, h2⟩
    by_cases e : b = nm
    · subst e
      rw [upd_same] at h2
      injection h2 with h2; cases h2
    · rw [upd_ne _ _ e] at h1 h2
      exact ⟨blk', d', n', sz', h1, h2⟩
  have hl : HLe (frz hp σ C.X w) (frz (upd hp nm (some (.arr sz []))) (upd σ nm (some .vir)) C.X w) := by
    intro k ob e
    rw [frz_some] at e ⊢
    exact ⟨⟨fun ⟨b, hb⟩ => e.1.1 ⟨b, hlv b k hb⟩, e.1.2⟩, e.2⟩
  have hs := SLe.upd hn .vir
  refine ⟨⟨fun b blk' e => ?_, fun b b' k h1 h2 => R.inj b b' k (hlv _ _ h1) (hlv _ _ h2), fun b k h1 => R.ow b k (hlv _ _ h1), R.fr, R.gl.mono hl, R.xl⟩, hl⟩
  by_cases hbn : b = nm
  · subst hbn
    rw [upd_same] at e
    injection e with e; subst e
    exact .vir sz (upd_same _ _ _)
  · rw [upd_ne _ _ hbn] at e
    exact (R.bk b blk' e).mono hs hl fun _ _ _ _ _ => rfl

/-- A live block, as it stands in the world. -/
def World.setBlock (w : World) (k : Nat) (o : Obj) : World := { w with heap := w.heap.setIfInBounds k o }
theorem setBlock_ne {k i : Nat} {o : Obj} (e : i ≠ k) : (World.setBlock w k o).heap[i]? = w.heap[i]? := by
  simp [World.setBlock, Array.getElem?_setIfInBounds, Ne.symm e]
theorem setBlock_same {k : Nat} {o : Obj} (e : k < w.heap.size) : (World.setBlock w k o).heap[k]? = some o := by
  simp [World.setBlock, Array.getElem?_setIfInBounds, e]
theorem setBlock_size {k : Nat} {o : Obj} : (World.setBlock w k o).heap.size = w.heap.size := by simp [World.setBlock]

theorem frz_write {b k : Nat} (hb : Live hp σ b k) (o : Obj) {hp' : Nat → Option Blk} {σ' : Nat → Option Loc} (X : Nat → Prop) (hlv : ∀ b' k', Live hp' σ' b' k' → Live hp σ b' k' ∨ k' = k) :
    HLe (frz hp σ X w) (frz hp' σ' X (World.setBlock w k o)) := by
  intro i ob e
  rw [frz_some] at e ⊢
  have hne : i ≠ k := fun e' => e.1.1 ⟨b, e' ▸ hb⟩
  refine ⟨⟨fun ⟨b', hb'⟩ => ?_, e.1.2⟩, by rw [setBlock_ne hne]; exact e.2⟩
  rcases hlv _ _ hb' with g | g
  · exact e.1.1 ⟨b', g⟩
  · exact hne g
/-- A live block is written; its name, and perhaps others, are told anew (hp'), none that was let go lives. -/
theorem HRel.write (R : HRel C σ hp w) {b k : Nat} (hb : Live hp σ b k) (o : Obj) {hp' : Nat → Option Blk} {σ' : Nat → Option Loc} (hs : SLe σ σ')
    (hlv : ∀ b' k', Live hp' σ' b' k' → Live hp σ b' k' ∨ k' = k) (hinj : ∀ b1 b2 k', Live hp' σ' b1 k' → Live hp' σ' b2 k' → b1 = b2)
    (hblk : ∀ b' blk, hp' b' = some blk → (hp b' = some blk ∧ σ' b' = σ b' ∧ b' ≠ b) ∨ BR σ' (frz hp' σ' C.X (World.setBlock w k o)) (World.setBlock w k o) b' blk) :
    HRel C σ' hp' (World.setBlock w k o) := by
  have hkk := R.ow b k hb
  have hl := frz_write (w := w) hb o C.X hlv
  refine ⟨fun b' blk e => ?_, hinj, fun b' k' h1 => ?_, ⟨by rw [setBlock_size]; exact R.fr.size, fun i h1 h2 => ?_, R.fr.os, R.fr.tape, R.fr.output⟩, R.gl.mono hl, R.xl⟩
  · rcases hblk b' blk e with ⟨g1, g2, g3⟩ | g
    · refine (R.bk b' blk g1).mono hs hl fun k' d n sz hσ => ?_
      refine setBlock_ne fun e' => g3 ?_
      subst e'
      exact R.inj _ _ _ ⟨blk, d, n, sz, g1, hσ⟩ hb
    · exact g
  · rw [setBlock_size]
    rcases hlv _ _ h1 with g | rfl
    · exact R.ow _ _ g
    · exact hkk
  · by_cases hik : i = k
    · subst hik
      rcases hkk.2.2 with g | g
      · exact absurd g h2
      · omega
    · rw [setBlock_ne hik]; exact R.fr.keep i h1 h2
/-- One name's block is written in place. -/
theorem HRel.write1 (R : HRel C σ hp w) {b k d n sz : Nat} {blk0 : Blk} (h0 : hp b = some blk0) (hσ : σ b = some (.here k d n sz)) (o : Obj) (blk : Blk)
    (hblk : HLe (frz hp σ C.X w) (frz (upd hp b (some blk)) σ C.X (World.setBlock w k o)) → BR σ (frz (upd hp b (some blk)) σ C.X (World.setBlock w k o)) (World.setBlock w k o) b blk) :
    HRel C σ (upd hp b (some blk)) (World.setBlock w k o) ∧ HLe (frz hp σ C.X w) (frz (upd hp b (some blk)) σ C.X (World.setBlock w k o)) := by
  have hb : Live hp σ b k := ⟨blk0, d, n, sz, h0, hσ⟩
  have hlv : ∀ b' k', Live (upd hp b (some blk)) σ b' k' → Live hp σ b' k' := by
    rintro b' k' ⟨blk', d', n', sz', h1, h2⟩
    by_cases e : b' = b
    · subst e; exact ⟨blk0, d', n', sz', h0, h2⟩
    · rw [upd_ne _ _ e] at h1; exact ⟨blk', d', n', sz', h1, h2⟩
  have hl := frz_write (w := w) hb o C.X (hp' := upd hp b (some blk)) (σ' := σ) fun b' k' h => .inl (hlv _ _ h)
  refine ⟨R.write hb o (SLe.refl _) (fun b' k' h => .inl (hlv _ _ h)) (fun b1 b2 k' h1 h2 => R.inj _ _ _ (hlv _ _ h1) (hlv _ _ h2)) (fun b' blk' e => ?_), hl⟩
  by_cases e' : b' = b
  · subst e'
    rw [upd_same] at e
    injection e with e; subst e
    exact .inr (hblk hl)
  · rw [upd_ne _ _ e'] at e
    exact .inl ⟨e, rfl, e'⟩

end Go.Vai
