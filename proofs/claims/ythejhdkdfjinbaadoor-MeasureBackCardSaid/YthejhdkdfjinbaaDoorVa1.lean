/-
  A part of the abstract run of Go functions and of the proof that it tells the truth.
-/
import Derived.Orders
import Derived.WalkKit
import Derived.KernelRfl
import Derived.Laws.Entries
import Derived.Laws.Cells
import Derived.Laws.World
set_option linter.unusedVariables false
set_option linter.unusedSimpArgs false
namespace Go.Vai

/-! ## 1. Values: frozen data by content, owned memory by name -/

/-- Frozen data: a cell's value, or a slice by its content (each element its cells). -/
inductive FV where
  | sc (v : Value)
  | sl (es : List (List FV))

/-- What a temporary or a cell of an owned variable holds. -/
inductive AV where
  | dead
  | fz (x : FV)
  | agg (l : List AV)
  | tup (l : List AV)
  | osl (b sz off len : Nat)
  | bp (b off : Nat)
  | ep (b i f : Nat)
  | fp (c : List FV) (f : Nat)
  | fn (f : FuncId) (cap : List AV)
  | emp
  | err

inductive Blk where
  | box (cs : List AV)
  | arr (sz : Nat) (es : List (List FV))

/-- Where a name lies: nowhere (an empty nil row), or in a block, behind so many cells, the block's size, an element's cells. -/
inductive Loc where
  | vir
  | here (k d n sz : Nat)

abbrev PH := Nat → Option Obj
def cellAt (h : PH) (k o : Nat) : Option Value :=
  match h k with
  | some (.cells c _ _) => c[o]?
  | _ => none

def leafV : Value → Bool
  | .agg _ => false
  | .tuple _ => false
  | _ => true

inductive FR (h : PH) : FV → Value → Prop
  | sc (v : Value) : leafV v = true → FR h (.sc v) v
  | sl0 (A : Option Addr) (cap : Nat) : FR h (.sl []) (.slice A 0 cap)
  | sl (es : List (List FV)) (sz : Nat) (k o : Nat) (sp : Option Nat) (cap : Nat) (vs : Nat → Nat → Value)
      (hsz : ∀ (i : Nat) (c : List FV), es[i]? = some c → c.length = sz)
      (hcap : es.length ≤ cap)
      (hsp : es ≠ [] → sp = none)
      (hat : ∀ (i : Nat) (c : List FV) (j : Nat) (x : FV), es[i]? = some c → c[j]? = some x → cellAt h k (o + (i * sz + j)) = some (vs i j))
      (hr : ∀ (i : Nat) (c : List FV) (j : Nat) (x : FV), es[i]? = some c → c[j]? = some x → FR h x (vs i j)) :
      FR h (.sl es) (.slice (some ⟨k, o, sp⟩) es.length cap)

inductive VR (σ : Nat → Option Loc) (h : PH) : AV → Value → Prop
  | dead (v : Value) : VR σ h .dead v
  | fz (x : FV) (v : Value) : FR h x v → VR σ h (.fz x) v
  | agg (l : List AV) (vs : List Value) : l.length = vs.length → (∀ (i : Nat) (x : AV) (v : Value), l[i]? = some x → vs[i]? = some v → VR σ h x v) → VR σ h (.agg l) (.agg vs.toArray)
  | tup (l : List AV) (vs : List Value) : l.length = vs.length → (∀ (i : Nat) (x : AV) (v : Value), l[i]? = some x → vs[i]? = some v → VR σ h x v) → VR σ h (.tup l) (.tuple vs.toArray)
  | vir (b sz off : Nat) (A : Option Addr) : σ b = some .vir → VR σ h (.osl b sz off 0) (.slice A 0 0)
  | osl (b sz off len k d n : Nat) (a : Addr) (cap : Nat) : σ b = some (.here k d n sz) → len ≤ cap → (cap = 0 ∨ a = ⟨k, d + off * sz, none⟩) → d + off * sz + cap * sz ≤ n →
      VR σ h (.osl b sz off len) (.slice (some a) len cap)
  | bp (b off k n : Nat) : σ b = some (.here k 0 n 1) → VR σ h (.bp b off) (.pointer (some ⟨k, off, none⟩))
  | ep (b i f k d n sz : Nat) : σ b = some (.here k d n sz) → VR σ h (.ep b i f) (.pointer (some ⟨k, d + (i * sz + f), none⟩))
  | fp (c : List FV) (f k o : Nat) (us : Nat → Value) : (∀ (j : Nat) (x : FV), c[j]? = some x → cellAt h k (o + j) = some (us j)) → (∀ (j : Nat) (x : FV), c[j]? = some x → FR h x (us j)) →
      VR σ h (.fp c f) (.pointer (some ⟨k, o + f, none⟩))
  | fn (f : FuncId) (cap : List AV) (vs : List Value) : cap.length = vs.length → (∀ (i : Nat) (x : AV) (v : Value), cap[i]? = some x → vs[i]? = some v → VR σ h x v) → VR σ h (.fn f cap) (.func (.func f) #[] vs.toArray)
  | emp (A : Option Addr) : VR σ h .emp (.slice A 0 0)
  | err (t : TypeId) (v : Value) : VR σ h .err (.iface t v)

def HLe (h h' : PH) : Prop := ∀ k o, h k = some o → h' k = some o
def SLe (σ σ' : Nat → Option Loc) : Prop := ∀ b l, σ b = some l → σ' b = some l
theorem HLe.refl (h : PH) : HLe h h := fun _ _ e => e
theorem SLe.refl (σ : Nat → Option Loc) : SLe σ σ := fun _ _ e => e
theorem HLe.trans {a b c : PH} (h : HLe a b) (k : HLe b c) : HLe a c := fun i o e => k i o (h i o e)
theorem SLe.trans {a b c : Nat → Option Loc} (h : SLe a b) (k : SLe b c) : SLe a c := fun i o e => k i o (h i o e)

theorem cellAt_mono {h h' : PH} (hl : HLe h h') {k o : Nat} {v : Value} (e : cellAt h k o = some v) : cellAt h' k o = some v := by
  unfold cellAt at *
  cases hk : h k with
  | none => rw [hk] at e; cases e
  | some ob => rw [hl k ob hk]; rw [hk] at e; exact e

theorem FR.mono {h h' : PH} (hl : HLe h h') {x : FV} {v : Value} (r : FR h x v) : FR h' x v := by
  induction r with
  | sc v hv => exact .sc v hv
  | sl0 A cap => exact .sl0 A cap
  | sl es sz k o sp cap vs hsz hcap hsp hat hr ih =>
    exact .sl es sz k o sp cap vs hsz hcap hsp (fun i c j x e e' => cellAt_mono hl (hat i c j x e e')) ih

theorem VR.mono {σ σ' : Nat → Option Loc} {h h' : PH} (hs : SLe σ σ') (hl : HLe h h') {x : AV} {v : Value} (r : VR σ h x v) : VR σ' h' x v := by
  induction r with
  | dead v => exact .dead v
  | fz x v r => exact .fz x v (r.mono hl)
  | agg l vs e r ih => exact .agg l vs e ih
  | tup l vs e r ih => exact .tup l vs e ih
  | vir b sz off A e => exact .vir b sz off A (hs _ _ e)
  | osl b sz off len k d n a cap e e1 e2 e3 => exact .osl b sz off len k d n a cap (hs _ _ e) e1 e2 e3
  | bp b off k n e => exact .bp b off k n (hs _ _ e)
  | ep b i f k d n sz e => exact .ep b i f k d n sz (hs _ _ e)
  | fp c f k o us e r => exact .fp c f k o us (fun j x e' => cellAt_mono hl (e j x e')) (fun j x e' => (r j x e').mono hl)
  | fn f cap vs e r ih => exact .fn f cap vs e ih
  | emp A => exact .emp A
  | err t v => exact .err t v

/-! ## 2. The abstract state -/

def lk : List (Nat × AV) → Nat → AV
  | [], _ => .dead
  | (k, v) :: r, t => if k = t then v else lk r t
def hk : List (Nat × Option Blk) → Nat → Option Blk
  | [], _ => none
  | (k, v) :: r, t => if k = t then v else hk r t

structure St where
  sl : List (Nat × AV)
  hp : List (Nat × Option Blk)
  nx : Nat

def Live (hp : Nat → Option Blk) (σ : Nat → Option Loc) (b k : Nat) : Prop := ∃ blk d n sz, hp b = some blk ∧ σ b = some (.here k d n sz)
open Classical in
noncomputable def frz (hp : Nat → Option Blk) (σ : Nat → Option Loc) (X : Nat → Prop) (w : World) : PH :=
  fun k => if (∃ b, Live hp σ b k) ∨ X k then none else w.heap[k]?

theorem frz_some {hp : Nat → Option Blk} {σ : Nat → Option Loc} {X : Nat → Prop} {w : World} {k : Nat} {o : Obj} :
    frz hp σ X w k = some o ↔ ((¬ ∃ b, Live hp σ b k) ∧ ¬ X k) ∧ w.heap[k]? = some o := by
  unfold frz
  split
  · rename_i h
    constructor
    · intro e; cases e
    · rintro ⟨⟨h1, h2⟩, _⟩; rcases h with h | h
      · exact absurd h h1
      · exact absurd h h2
  · rename_i h
    rw [not_or] at h
    exact ⟨fun e => ⟨h, e⟩, fun e => e.2⟩

/-- No cell is marked as shared with a string. -/
def NoFz (c : Array Value) (z : Nat × Nat) : Prop := z = (0, 0) ∨ c.size ≤ z.1
theorem NoFz.no {c : Array Value} {z : Nat × Nat} (h : NoFz c z) (i : Nat) (hi : i < c.size) : ¬ (z.1 ≤ i ∧ i < z.2) := by
  rcases h with rfl | h
  · simp
  · omega
theorem NoFz.of_size {c c' : Array Value} {z : Nat × Nat} (h : NoFz c z) (e : c'.size = c.size) : NoFz c' z := h.imp id fun h => by omega

inductive BR (σ : Nat → Option Loc) (h : PH) (w : World) (b : Nat) : Blk → Prop
  | box (cs : List AV) (k : Nat) (c : Array Value) (e : TypeId) (z : Nat × Nat) : σ b = some (.here k 0 cs.length 1) → w.heap[k]? = some (.cells c e z) → NoFz c z → c.size = cs.length →
      (∀ (i : Nat) (x : AV) (v : Value), cs[i]? = some x → c[i]? = some v → VR σ h x v) → BR σ h w b (.box cs)
  | vir (sz : Nat) : σ b = some .vir → BR σ h w b (.arr sz [])
  | arr (sz : Nat) (es : List (List FV)) (k d : Nat) (c : Array Value) (e : TypeId) (z : Nat × Nat) : σ b = some (.here k d c.size sz) → w.heap[k]? = some (.cells c e z) → NoFz c z →
      (∀ (i : Nat) (cl : List FV), es[i]? = some cl → cl.length = sz) → (∀ (i : Nat) (cl : List FV) (j : Nat) (x : FV), es[i]? = some cl → cl[j]? = some x → ∃ v, c[d + (i * sz + j)]? = some v ∧ FR h x v) → BR σ h w b (.arr sz es)

theorem BR.mono {σ σ' : Nat → Option Loc} {h h' : PH} {w w' : World} {b : Nat} {blk : Blk} (hs : SLe σ σ') (hl : HLe h h') (hw : ∀ k d n sz, σ b = some (.here k d n sz) → w'.heap[k]? = w.heap[k]?)
    (r : BR σ h w b blk) : BR σ' h' w' b blk := by
  cases r with
  | box cs k c e z h1 h2 h3 h4 h5 => exact .box cs k c e z (hs _ _ h1) ((hw _ _ _ _ h1).trans h2) h3 h4 fun i x v e1 e2 => (h5 i x v e1 e2).mono hs hl
  | vir sz h1 => exact .vir sz (hs _ _ h1)
  | arr sz es k d c e z h1 h2 h3 h4 h5 =>
    refine .arr sz es k d c e z (hs _ _ h1) ((hw _ _ _ _ h1).trans h2) h3 h4 fun i cl j x e1 e2 => ?_
    obtain ⟨v, hv, r⟩ := h5 i cl j x e1 e2
    exact ⟨v, hv, r.mono hl⟩

structure Frame0 (own0 : Nat → Prop) (w0 w : World) : Prop where
  size : w0.heap.size ≤ w.heap.size
  keep : ∀ k, k < w0.heap.size → ¬ own0 k → w.heap[k]? = w0.heap[k]?
  os : w.os = w0.os
  tape : w.tape = w0.tape
  output : w.output = w0.output

theorem Frame0.refl (own0 : Nat → Prop) (w : World) : Frame0 own0 w w := ⟨Nat.le_refl _, fun _ _ _ => rfl, rfl, rfl, rfl⟩

/-- The contents of the package-level variables that are read. -/
def GR (G : Nat → Option (List FV)) (h : PH) : Prop := ∀ g c, G g = some c → (∃ us : Nat → Value, (∀ (j : Nat) (x : FV), c[j]? = some x → cellAt h g j = some (us j)) ∧ (∀ (j : Nat) (x : FV), c[j]? = some x → FR h x (us j))) ∧
  ∃ cs t z, h g = some (.cells cs t z) ∧ cs.size = c.length
theorem GR.mono {G : Nat → Option (List FV)} {h h' : PH} (hl : HLe h h') (r : GR G h) : GR G h' := fun g c e =>
  let ⟨⟨us, h1, h2⟩, cs, t, z, h3, h4⟩ := r g c e
  ⟨⟨us, fun j x e' => cellAt_mono hl (h1 j x e'), fun j x e' => (h2 j x e').mono hl⟩, cs, t, z, hl _ _ h3, h4⟩

/-- What a run knows that doesn't change: the tables, who else owns what, what came in as owned, the world at the begin, the temporaries. -/
structure Ctx where
  G : Nat → Option (List FV)
  X : Nat → Prop
  own0 : Nat → Prop
  w0 : World
  N : Nat

structure Rel (C : Ctx) (σ : Nat → Option Loc) (st : St) (a : Act) (w : World) : Prop where
  sl : ∀ t, VR σ (frz (hk st.hp) σ C.X w) (lk st.sl t) (a.tmps.getD t undef)
  bk : ∀ b blk, hk st.hp b = some blk → BR σ (frz (hk st.hp) σ C.X w) w b blk
  inj : ∀ b b' k, Live (hk st.hp) σ b k → Live (hk st.hp) σ b' k → b = b'
  ow : ∀ b k, Live (hk st.hp) σ b k → ¬ C.X k ∧ k < w.heap.size ∧ (C.own0 k ∨ C.w0.heap.size ≤ k)
  fr : Frame0 C.own0 C.w0 w
  gl : GR C.G (frz (hk st.hp) σ C.X w)
  xl : ∀ k, C.X k → k < C.w0.heap.size
  df : a.defers = []
  tz : C.N ≤ a.tmps.size

end Go.Vai
