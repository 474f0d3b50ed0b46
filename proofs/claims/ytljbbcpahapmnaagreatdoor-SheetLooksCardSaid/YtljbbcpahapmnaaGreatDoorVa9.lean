/-
  A part of the abstract run of Go functions and of the proof that it tells the truth.
-/
import Derived.Test.YtljbbcpahapmnaaGreatDoorVa8
set_option linter.unusedVariables false
set_option linter.unusedSimpArgs false
namespace Go.Vai
structure HRel (C:Ctx) (σ:Nat→Option Loc) (hp:Nat→Option Blk) (w:World):Prop where
 bk : ∀ b blk,hp b=some blk→BR C.rc σ (frz hp σ C.X w) w b blk
 inj : ∀ b b' k,Live hp σ w b k→Live hp σ w b' k→b=b'
 ow : ∀ b k,Live hp σ w b k→¬ C.X k∧k < w.heap.size∧(C.own0 k∨C.w0.heap.size≤k)
 fr:Frame0 C.own0 C.w0 w
 gl:GR C.G (frz hp σ C.X w)
 xl : ∀ k,C.X k→k < C.w0.heap.size
variable {C:Ctx} {σ:Nat→Option Loc} {hp:Nat→Option Blk} {w:World}
theorem Rel.heap {st:St} {a:Act} (R:Rel C σ st a w):HRel C σ (hk st.hp) w:=⟨R.bk,R.inj,R.ow,R.fr,R.gl,R.xl⟩
theorem HRel.rel {st:St} {a:Act} (R:HRel C σ (hk st.hp) w) (hs : ∀ t,VR σ (frz (hk st.hp) σ C.X w) (lk st.sl t) (a.tmps.getD t undef)) (hd:DfOk C (frz (hk st.hp) σ C.X w) a) (hz:C.N≤a.tmps.size):Rel C σ st a w :=
 ⟨hs,R.bk,R.inj,R.ow,R.fr,R.gl,R.xl,hd,hz⟩
theorem frz_shrink {hp':Nat→Option Blk} (hsub : ∀ b blk,hp' b=some blk→hp b=some blk) (X:Nat→Prop):HLe (frz hp σ X w) (frz hp' σ X w):=by
 intro k o e
 rw [frz_some] at e ⊢
 refine ⟨⟨fun ⟨b,blk,h1,h2⟩ => e.1.1 ⟨b,blk,hsub _ _ h1,h2⟩,e.1.2⟩,e.2⟩
theorem HRel.shrink (R:HRel C σ hp w) {hp':Nat→Option Blk} (hsub : ∀ b blk,hp' b=some blk→hp b=some blk):HRel C σ hp' w:=by
 have hl:=frz_shrink (σ:=σ) (w:=w) hsub C.X
 have hlv : ∀ b k,Live hp' σ w b k→Live hp σ w b k:=fun b k ⟨blk,h1,h2⟩ => ⟨blk,hsub _ _ h1,h2⟩
 exact ⟨fun b blk e => (R.bk b blk (hsub _ _ e)).mono (SLe.refl _) hl fun _ _ => rfl,fun b b' k h1 h2 => R.inj b b' k (hlv _ _ h1) (hlv _ _ h2),fun b k h1 => R.ow b k (hlv _ _ h1),R.fr,R.gl.mono hl,R.xl⟩
def upd {α:Type} (f:Nat→α) (b:Nat) (v:α):Nat→α:=fun i => if i=b then v else f i
theorem upd_same {α:Type} (f:Nat→α) (b:Nat) (v:α):upd f b v b=v:=by simp [upd]
theorem upd_ne {α:Type} (f:Nat→α) {b i:Nat} (v:α) (e:i≠b):upd f b v i=f i:=by simp [upd,e]
theorem hk_cons (b:Nat) (v:Option Blk) (hp:HW):hk ((b,v) :: hp)=upd (hk hp) b v:=by
 funext i
 simp only [hk,upd]
 by_cases e:b=i
 ·subst e; simp
 ·rw [if_neg e,if_neg (fun h => e h.symm)]
theorem SLe.upd {nm:Nat} (e:σ nm=none) (l:Loc):SLe σ (upd σ nm (some l)):=by
 intro b l' h
 by_cases hb:b=nm
 ·subst hb; rw [e] at h; cases h
 ·rw [upd_ne _ _ hb]; exact h
theorem heap_alloc_lt {o:Obj} {k:Nat} (hk:k < w.heap.size):(w.alloc o).heap[k]? = w.heap[k]? := by
 show (w.heap.push o)[k]? = _
 rw [Array.getElem?_push,if_neg (by omega)]
theorem heap_alloc_new {o:Obj}:(w.alloc o).heap[w.heap.size]? = some o:=by
 show (w.heap.push o)[w.heap.size]? = _
 simp
theorem size_alloc' {o:Obj}:(w.alloc o).heap.size=w.heap.size + 1:=by
 show (w.heap.push o).size=_
 simp
theorem Frame0.alloc {own0:Nat→Prop} {w0:World} (F:Frame0 own0 w0 w) (o:Obj):Frame0 own0 w0 (w.alloc o) :=
 ⟨by have:=F.size; rw [size_alloc']; omega,fun k h1 h2 => by rw [heap_alloc_lt (by have:=F.size; omega)]; exact F.keep k h1 h2,F.os,F.tape,F.output⟩
theorem Owns.loc {b:Nat} {blk:Blk} {q:Nat} (h:Owns σ w b blk q) : ∃ k d n sz,σ b=some (.here k d n sz):=by
 cases h with
 | «at» _ _ d n sz h => exact ⟨_,d,n,sz,h⟩
 | sub sz es k d n c e z i j _ h1 h2 h3 => exact ⟨_,d,n,sz,h1⟩
 | buf T U l k d n sz c e z q o sp len cap h1 h2 h3 => exact ⟨_,d,n,sz,h1⟩
theorem Live.size (R:HRel C σ hp w) {b k:Nat} (h:Live hp σ w b k):k < w.heap.size:=(R.ow b k h).2.1
theorem fresh_live (R:HRel C σ hp w) {nm:Nat} {d n sz:Nat} {blk:Blk} {o:Obj} {b k:Nat} (hb:Live (upd hp nm (some blk)) (upd σ nm (some (.here w.heap.size d n sz))) (w.alloc o) b k):(b=nm∧Owns (upd σ nm (some (.here w.heap.size d n sz))) (w.alloc o) nm blk k)∨(b≠nm∧Live hp σ w b k):=by
 obtain ⟨blk',h1,h2⟩:=hb
 by_cases e:b=nm
 ·subst e
  rw [upd_same] at h1
  injection h1 with h1; subst h1
  exact .inl ⟨rfl,h2⟩
 ·rw [upd_ne _ _ e] at h1
  refine .inr ⟨e,blk',h1,h2.keep (upd_ne _ _ e) fun k d n sz hσ => heap_alloc_lt ?_⟩
  exact (R.ow b k ⟨blk',h1,.at _ _ _ _ _ hσ⟩).2.1
theorem frz_fresh0 (R:HRel C σ hp w) (nm:Nat) (o:Obj) (d n sz:Nat) (blk:Blk) (ho : ∀ q,Owns (upd σ nm (some (.here w.heap.size d n sz))) (w.alloc o) nm blk q→q=w.heap.size∨∃ b,Live hp σ w b q):HLe (frz hp σ C.X w) (frz (upd hp nm (some blk)) (upd σ nm (some (.here w.heap.size d n sz))) C.X (w.alloc o)):=by
 intro k ob e
 rw [frz_some] at e ⊢
 have hk:k < w.heap.size:=(Array.getElem?_eq_some_iff.1 e.2).1
 refine ⟨⟨?_,e.1.2⟩,by rw [heap_alloc_lt hk]; exact e.2⟩
 rintro ⟨b,hb⟩
 rcases fresh_live R hb with ⟨_,h⟩ | ⟨_,h⟩
 ·rcases ho _ h with h | h
  ·omega
  ·exact e.1.1 h
 ·exact e.1.1 ⟨b,h⟩
def NoOwn (blk:Blk):Prop:=(∀ (sz:Nat) (es:List (List AV)),blk=.row sz es→∀ (i j:Nat) (cl:List AV) (sz':Nat) (ys:List (List FV)),es[i]? = some cl→cl[j]?≠some (.own sz' ys))∧∀ (T U:TypeId) (l:List UInt8),blk≠.bld T U l
theorem Owns.plain {b:Nat} {blk:Blk} {k q d n sz:Nat} (hn:NoOwn blk) (hσ:σ b=some (.here k d n sz)) (h:Owns σ w b blk q):q=k:=by
 cases h with
 | «at» _ _ d n sz h => rw [hσ] at h; injection h with h; injection h with h; exact h.symm
 | sub sz es k d n c e z i j _ h1 h2 h3 =>
  obtain ⟨cl,sz',ys,o,sp,n',cap,g1,g2,_⟩:=h3
  exact absurd g2 (hn.1 sz es rfl i j cl sz' ys g1)
 | buf T U l k d n sz c e z q o sp len cap h1 h2 h3 => exact absurd rfl (hn.2 T U l)
theorem frz_fresh (R:HRel C σ hp w) (nm:Nat) (o:Obj) (d n sz:Nat) (blk:Blk) (hr:NoOwn blk:=by exact ⟨(by intro _ _ h; cases h),(by intro _ _ _ h; cases h)⟩):HLe (frz hp σ C.X w) (frz (upd hp nm (some blk)) (upd σ nm (some (.here w.heap.size d n sz))) C.X (w.alloc o)) :=
 frz_fresh0 R nm o d n sz blk fun q h => .inl (h.plain hr (upd_same _ _ _))
theorem HRel.fresh' (R:HRel C σ hp w) {nm:Nat} (hn:σ nm=none) (o:Obj) (d n sz:Nat) (blk:Blk)
 (hb:BR C.rc (upd σ nm (some (.here w.heap.size d n sz))) (frz (upd hp nm (some blk)) (upd σ nm (some (.here w.heap.size d n sz))) C.X (w.alloc o)) (w.alloc o) nm blk) (own : ∀ q,Owns (upd σ nm (some (.here w.heap.size d n sz))) (w.alloc o) nm blk q→q=w.heap.size) :
 HRel C (upd σ nm (some (.here w.heap.size d n sz))) (upd hp nm (some blk)) (w.alloc o):=by
 have hl:=frz_fresh0 R nm o d n sz blk fun q h => .inl (own q h)
 have hs:=SLe.upd hn (.here w.heap.size d n sz)
 refine ⟨fun b blk' e => ?_,fun b b' k h1 h2 => ?_,fun b k h1 => ?_,R.fr.alloc o,R.gl.mono hl,R.xl⟩
 ·by_cases hbn:b=nm
  ·subst hbn
   rw [upd_same] at e
   injection e with e; subst e
   exact hb
  ·rw [upd_ne _ _ hbn] at e
   refine (R.bk b blk' e).mono hs hl fun k hσ => ?_
   have:=(R.ow b k ⟨blk',e,hσ⟩).2.1
   exact heap_alloc_lt this
 ·rcases fresh_live R h1 with ⟨rfl,g1⟩ | ⟨_,g1⟩ <;> rcases fresh_live R h2 with ⟨rfl,g2⟩ | ⟨_,g2⟩
  ·rfl
  ·have:=(R.ow _ _ g2).2.1; have:=own _ g1; omega
  ·have:=(R.ow _ _ g1).2.1; have:=own _ g2; omega
  ·exact R.inj _ _ _ g1 g2
 ·rcases fresh_live R h1 with ⟨rfl,g1⟩ | ⟨_,g1⟩
  ·have:=own _ g1
   subst this
   refine ⟨fun hx => ?_,by rw [size_alloc']; omega,.inr R.fr.size⟩
   have:=R.xl _ hx
   have:=R.fr.size
   omega
  ·have:=R.ow _ _ g1
   exact ⟨this.1,by rw [size_alloc']; omega,this.2.2⟩
theorem HRel.fresh (R:HRel C σ hp w) {nm:Nat} (hn:σ nm=none) (o:Obj) (d n sz:Nat) (blk:Blk)
 (hb:BR C.rc (upd σ nm (some (.here w.heap.size d n sz))) (frz (upd hp nm (some blk)) (upd σ nm (some (.here w.heap.size d n sz))) C.X (w.alloc o)) (w.alloc o) nm blk) (hr:NoOwn blk:=by exact ⟨(by intro _ _ h; cases h),(by intro _ _ _ h; cases h)⟩) :
 HRel C (upd σ nm (some (.here w.heap.size d n sz))) (upd hp nm (some blk)) (w.alloc o) :=
 R.fresh' hn o d n sz blk hb fun q h => h.plain hr (upd_same _ _ _)
theorem HRel.freshBox (R:HRel C σ hp w) {nm:Nat} (hn:σ nm=none) (t:TypeId) (c:Array Value) (cs:List AV) (hc:c.size=cs.length) (hr : ∀ (i:Nat) (x:AV) (v:Value),cs[i]? = some x→c[i]? = some v→VR σ (frz hp σ C.X w) x v) :
 HRel C (upd σ nm (some (.here w.heap.size 0 cs.length 1))) (upd hp nm (some (.box cs))) (w.alloc (.cells c t)) :=
 R.fresh hn _ 0 cs.length 1 _ (.box cs w.heap.size c t (0,0) (upd_same _ _ _) heap_alloc_new (.inl rfl) hc fun i x v e1 e2 => (hr i x v e1 e2).mono (SLe.upd hn _) (frz_fresh R nm _ 0 cs.length 1 _))
theorem HRel.freshArr (R:HRel C σ hp w) {nm:Nat} (hn:σ nm=none) (t:TypeId) (c:Array Value) (z:Nat × Nat) (hz:NoFz c z) (sz:Nat) (es:List (List FV)) (hl : ∀ (i:Nat) (cl:List FV),es[i]? = some cl→cl.length=sz)
 (hr : ∀ (i:Nat) (cl:List FV) (j:Nat) (x:FV),es[i]? = some cl→cl[j]? = some x→∃ v,c[i * sz + j]? = some v∧FR (frz hp σ C.X w) x v) :
 HRel C (upd σ nm (some (.here w.heap.size 0 c.size sz))) (upd hp nm (some (.arr sz es))) (w.alloc (.cells c t z)) :=
 R.fresh hn _ 0 c.size sz _ (.arr sz es w.heap.size 0 c t z (upd_same _ _ _) heap_alloc_new hz hl fun i cl j x e1 e2 => by
  obtain ⟨v,hv,r⟩:=hr i cl j x e1 e2
  exact ⟨v,by simpa using hv,r.mono (frz_fresh R nm _ 0 c.size sz _)⟩)
theorem HRel.virt0 (R:HRel C σ hp w) {nm:Nat} (hn:σ nm=none) (blk:Blk) (hblk : ∀ σ h w,σ nm=some .vir→BR C.rc σ h w nm blk) :
 HRel C (upd σ nm (some .vir)) (upd hp nm (some blk)) w∧HLe (frz hp σ C.X w) (frz (upd hp nm (some blk)) (upd σ nm (some .vir)) C.X w):=by
 have hlv : ∀ b k,Live (upd hp nm (some blk)) (upd σ nm (some .vir)) w b k→Live hp σ w b k:=by
  rintro b k ⟨blk',h1,h2⟩
  by_cases e:b=nm
  ·subst e
   obtain ⟨_,_,_,_,h2⟩:=h2.loc
   rw [upd_same] at h2
   injection h2 with h2; cases h2
  ·rw [upd_ne _ _ e] at h1
   exact ⟨blk',h1,h2.keep (upd_ne _ _ e) fun _ _ _ _ _ => rfl⟩
 have hl:HLe (frz hp σ C.X w) (frz (upd hp nm (some blk)) (upd σ nm (some .vir)) C.X w):=by
  intro k ob e
  rw [frz_some] at e ⊢
  exact ⟨⟨fun ⟨b,hb⟩ => e.1.1 ⟨b,hlv b k hb⟩,e.1.2⟩,e.2⟩
 have hs:=SLe.upd hn .vir
 refine ⟨⟨fun b blk' e => ?_,fun b b' k h1 h2 => R.inj b b' k (hlv _ _ h1) (hlv _ _ h2),fun b k h1 => R.ow b k (hlv _ _ h1),R.fr,R.gl.mono hl,R.xl⟩,hl⟩
 by_cases hbn:b=nm
 ·subst hbn
  rw [upd_same] at e
  injection e with e; subst e
  exact hblk _ _ _ (upd_same _ _ _)
 ·rw [upd_ne _ _ hbn] at e
  exact (R.bk b blk' e).mono hs hl fun _ _ => rfl
theorem HRel.virt (R:HRel C σ hp w) {nm:Nat} (hn:σ nm=none) (sz:Nat) :
 HRel C (upd σ nm (some .vir)) (upd hp nm (some (.arr sz []))) w∧HLe (frz hp σ C.X w) (frz (upd hp nm (some (.arr sz []))) (upd σ nm (some .vir)) C.X w) :=
 R.virt0 hn _ fun _ _ _ h => .vir sz h
def World.setBlock (w:World) (k:Nat) (o:Obj):World:={ w with heap:=w.heap.setIfInBounds k o }
theorem setBlock_ne {k i:Nat} {o:Obj} (e:i≠k):(World.setBlock w k o).heap[i]? = w.heap[i]? := by
 simp [World.setBlock,Array.getElem?_setIfInBounds,Ne.symm e]
theorem setBlock_same {k:Nat} {o:Obj} (e:k < w.heap.size):(World.setBlock w k o).heap[k]? = some o:=by
 simp [World.setBlock,Array.getElem?_setIfInBounds,e]
theorem setBlock_size {k:Nat} {o:Obj}:(World.setBlock w k o).heap.size=w.heap.size:=by simp [World.setBlock]
theorem Live.frame (R:HRel C σ hp w) {b k:Nat} (hb:Live hp σ w b k) {o:Obj} {hp':Nat→Option Blk} {σ':Nat→Option Loc} {b' k':Nat} (hne:b'≠b) (h0:hp' b'=hp b') (hs:σ' b'=σ b')
 (h:Live hp' σ' (World.setBlock w k o) b' k'):Live hp σ w b' k':=by
 obtain ⟨blk,h1,h2⟩:=h
 rw [h0] at h1
 refine ⟨blk,h1,h2.keep hs fun k1 d n sz hσ => setBlock_ne fun e => hne ?_⟩
 subst e
 exact R.inj _ _ _ ⟨blk,h1,.at _ _ _ _ _ hσ⟩ hb
theorem frz_write {b k:Nat} (hb:Live hp σ w b k) (o:Obj) {hp':Nat→Option Blk} {σ':Nat→Option Loc} (X:Nat→Prop) (hlv : ∀ b' k',Live hp' σ' (World.setBlock w k o) b' k'→(∃ b1,Live hp σ w b1 k')∨k'=k) :
 HLe (frz hp σ X w) (frz hp' σ' X (World.setBlock w k o)):=by
 intro i ob e
 rw [frz_some] at e ⊢
 have hne:i≠k:=fun e' => e.1.1 ⟨b,e' ▸ hb⟩
 refine ⟨⟨fun ⟨b',hb'⟩ => ?_,e.1.2⟩,by rw [setBlock_ne hne]; exact e.2⟩
 rcases hlv _ _ hb' with g | g
 ·exact e.1.1 g
 ·exact hne g
theorem HRel.write (R:HRel C σ hp w) {b k:Nat} (hb:Live hp σ w b k) (o:Obj) {hp':Nat→Option Blk} {σ':Nat→Option Loc} (hs:SLe σ σ')
 (hlv : ∀ b' k',Live hp' σ' (World.setBlock w k o) b' k'→(∃ b1,Live hp σ w b1 k')∨k'=k) (hinj : ∀ b1 b2 k',Live hp' σ' (World.setBlock w k o) b1 k'→Live hp' σ' (World.setBlock w k o) b2 k'→b1=b2)
 (hblk : ∀ b' blk,hp' b'=some blk→(hp b'=some blk∧σ' b'=σ b'∧b'≠b)∨BR C.rc σ' (frz hp' σ' C.X (World.setBlock w k o)) (World.setBlock w k o) b' blk) :
 HRel C σ' hp' (World.setBlock w k o):=by
 have hkk:=R.ow b k hb
 have hl:=frz_write (w:=w) hb o C.X hlv
 refine ⟨fun b' blk e => ?_,hinj,fun b' k' h1 => ?_,⟨by rw [setBlock_size]; exact R.fr.size,fun i h1 h2 => ?_,R.fr.os,R.fr.tape,R.fr.output⟩,R.gl.mono hl,R.xl⟩
 ·rcases hblk b' blk e with ⟨g1,g2,g3⟩ | g
  ·refine (R.bk b' blk g1).mono hs hl fun k' hσ => ?_
   refine setBlock_ne fun e' => g3 ?_
   subst e'
   exact R.inj _ _ _ ⟨blk,g1,hσ⟩ hb
  ·exact g
 ·rw [setBlock_size]
  rcases hlv _ _ h1 with ⟨b1,g⟩ | rfl
  ·exact R.ow _ _ g
  ·exact hkk
 ·by_cases hik:i=k
  ·subst hik
   rcases hkk.2.2 with g | g
   ·exact absurd g h2
   ·omega
  ·rw [setBlock_ne hik]; exact R.fr.keep i h1 h2
theorem HRel.write1' (R:HRel C σ hp w) {b k d n sz:Nat} {blk0:Blk} (h0:hp b=some blk0) (hσ:σ b=some (.here k d n sz)) (o:Obj) (blk:Blk)
 (hown : ∀ q,Owns σ (World.setBlock w k o) b blk q→Owns σ w b blk0 q)
 (hblk:HLe (frz hp σ C.X w) (frz (upd hp b (some blk)) σ C.X (World.setBlock w k o))→BR C.rc σ (frz (upd hp b (some blk)) σ C.X (World.setBlock w k o)) (World.setBlock w k o) b blk) :
 HRel C σ (upd hp b (some blk)) (World.setBlock w k o)∧HLe (frz hp σ C.X w) (frz (upd hp b (some blk)) σ C.X (World.setBlock w k o)):=by
 have hb:Live hp σ w b k:=⟨blk0,h0,.at _ _ _ _ _ hσ⟩
 have hlv : ∀ b' k',Live (upd hp b (some blk)) σ (World.setBlock w k o) b' k'→Live hp σ w b' k':=by
  intro b' k' h
  by_cases e:b'=b
  ·subst e
   obtain ⟨blk',h1,h2⟩:=h
   rw [upd_same] at h1
   injection h1 with h1; subst h1
   exact ⟨blk0,h0,hown _ h2⟩
  ·exact Live.frame R hb e (upd_ne _ _ e) rfl h
 have hl:=frz_write (w:=w) hb o C.X (hp':=upd hp b (some blk)) (σ':=σ) fun b' k' h => .inl ⟨b',hlv _ _ h⟩
 refine ⟨R.write hb o (SLe.refl _) (fun b' k' h => .inl ⟨b',hlv _ _ h⟩) (fun b1 b2 k' h1 h2 => R.inj _ _ _ (hlv _ _ h1) (hlv _ _ h2)) (fun b' blk' e => ?_),hl⟩
 by_cases e':b'=b
 ·subst e'
  rw [upd_same] at e
  injection e with e; subst e
  exact .inr (hblk hl)
 ·rw [upd_ne _ _ e'] at e
  exact .inl ⟨e,rfl,e'⟩
theorem HRel.write1 (R:HRel C σ hp w) {b k d n sz:Nat} {blk0:Blk} (h0:hp b=some blk0) (hσ:σ b=some (.here k d n sz)) (o:Obj) (blk:Blk)
 (hblk:HLe (frz hp σ C.X w) (frz (upd hp b (some blk)) σ C.X (World.setBlock w k o))→BR C.rc σ (frz (upd hp b (some blk)) σ C.X (World.setBlock w k o)) (World.setBlock w k o) b blk) (hr:NoOwn blk:=by exact ⟨(by intro _ _ h; cases h),(by intro _ _ _ h; cases h)⟩) :
 HRel C σ (upd hp b (some blk)) (World.setBlock w k o)∧HLe (frz hp σ C.X w) (frz (upd hp b (some blk)) σ C.X (World.setBlock w k o)) :=
 R.write1' h0 hσ o blk (fun q h => by rw [h.plain hr hσ]; exact .at _ _ _ _ _ hσ) hblk
theorem HRel.same (R:HRel C σ hp w) {hp':Nat→Option Blk} {σ':Nat→Option Loc} (hs:SLe σ σ') (hlv : ∀ b' k,Live hp' σ' w b' k→∃ b,Live hp σ w b k)
 (hinj : ∀ b1 b2 k,Live hp' σ' w b1 k→Live hp' σ' w b2 k→b1=b2) (hblk : ∀ b' blk,hp' b'=some blk→hp b'=some blk∨(HLe (frz hp σ C.X w) (frz hp' σ' C.X w)→BR C.rc σ' (frz hp' σ' C.X w) w b' blk)) :
 HRel C σ' hp' w∧HLe (frz hp σ C.X w) (frz hp' σ' C.X w):=by
 have hl:HLe (frz hp σ C.X w) (frz hp' σ' C.X w):=by
  intro i ob e
  rw [frz_some] at e ⊢
  exact ⟨⟨fun ⟨b',hb'⟩ => e.1.1 (hlv _ _ hb'),e.1.2⟩,e.2⟩
 refine ⟨⟨fun b' blk e => ?_,hinj,fun b' k h => ?_,R.fr,R.gl.mono hl,R.xl⟩,hl⟩
 ·rcases hblk b' blk e with g | g
  ·exact (R.bk b' blk g).mono hs hl fun _ _ => rfl
  ·exact g hl
 ·obtain ⟨b,hb⟩:=hlv _ _ h
  exact R.ow b k hb
theorem HRel.step (R:HRel C σ hp w) {hp':Nat→Option Blk} {σ':Nat→Option Loc} {w':World} (T:Nat→Prop) (hs:SLe σ σ') (hF:Frame0 C.own0 C.w0 w') (hsz:w.heap.size≤w'.heap.size)
 (hkeep : ∀ k,k < w.heap.size→¬ T k→w'.heap[k]? = w.heap[k]?) (hT : ∀ k,T k→k < w.heap.size→∃ b,Live hp σ w b k)
 (hlv : ∀ b' k,Live hp' σ' w' b' k→k < w'.heap.size∧((∃ b,Live hp σ w b k)∨w.heap.size≤k))
 (hinj : ∀ b1 b2 k,Live hp' σ' w' b1 k→Live hp' σ' w' b2 k→b1=b2)
 (hblk : ∀ b' blk,hp' b'=some blk→(hp b'=some blk∧∀ k,Owns σ w b' blk k→¬ T k)∨(HLe (frz hp σ C.X w) (frz hp' σ' C.X w')→BR C.rc σ' (frz hp' σ' C.X w') w' b' blk)) :
 HRel C σ' hp' w'∧HLe (frz hp σ C.X w) (frz hp' σ' C.X w'):=by
 have hl:HLe (frz hp σ C.X w) (frz hp' σ' C.X w'):=by
  intro i ob e
  rw [frz_some] at e ⊢
  have hi:i < w.heap.size:=(Array.getElem?_eq_some_iff.1 e.2).1
  refine ⟨⟨fun ⟨b',hb'⟩ => ?_,e.1.2⟩,?_⟩
  ·rcases (hlv _ _ hb').2 with h | h
   ·exact e.1.1 h
   ·omega
  ·rw [hkeep i hi fun h => e.1.1 (hT i h hi)]; exact e.2
 refine ⟨⟨fun b' blk e => ?_,hinj,fun b' k h => ?_,hF,R.gl.mono hl,R.xl⟩,hl⟩
 ·rcases hblk b' blk e with ⟨g1,g2⟩ | g
  ·exact (R.bk b' blk g1).mono hs hl fun k hk => hkeep k (R.ow b' k ⟨blk,g1,hk⟩).2.1 (g2 k hk)
  ·exact g hl
 ·obtain ⟨h1,h2⟩:=hlv _ _ h
  rcases h2 with ⟨b,hb⟩ | h2
  ·have:=R.ow b k hb
   exact ⟨this.1,h1,this.2.2⟩
  ·have:=R.fr.size
   exact ⟨fun hx => by have:=R.xl k hx; omega,h1,.inr (by omega)⟩
theorem HRel.same1 (R:HRel C σ hp w) {b:Nat} {blk0:Blk} (h0:hp b=some blk0) (blk:Blk) (hown : ∀ q,Owns σ w b blk q→Owns σ w b blk0 q)
 (hbr:HLe (frz hp σ C.X w) (frz (upd hp b (some blk)) σ C.X w)→BR C.rc σ (frz (upd hp b (some blk)) σ C.X w) w b blk) :
 HRel C σ (upd hp b (some blk)) w∧HLe (frz hp σ C.X w) (frz (upd hp b (some blk)) σ C.X w):=by
 have hlv : ∀ b' k',Live (upd hp b (some blk)) σ w b' k'→Live hp σ w b' k':=by
  rintro b' k' ⟨blk',h1,h2⟩
  by_cases e:b'=b
  ·subst e
   rw [upd_same] at h1
   injection h1 with h1; subst h1
   exact ⟨blk0,h0,hown _ h2⟩
  ·rw [upd_ne _ _ e] at h1
   exact ⟨blk',h1,h2⟩
 refine R.same (SLe.refl _) (fun b' k h => ⟨b',hlv _ _ h⟩) (fun b1 b2 k h1 h2 => R.inj _ _ _ (hlv _ _ h1) (hlv _ _ h2)) fun b' blk' e => ?_
 by_cases e1:b'=b
 ·subst e1
  rw [upd_same] at e
  injection e with e; subst e
  exact .inr hbr
 ·rw [upd_ne _ _ e1] at e
  exact .inl e
theorem HRel.part (R:HRel C σ hp w) {b nm:Nat} {blk0:Blk} (h0:hp b=some blk0) (hn:σ nm=none) (hbn:b≠nm) (l:Loc) (blk blkn:Blk) (hown : ∀ q,Owns σ w b blk q→Owns σ w b blk0 q)
 (hnew : ∀ q,Owns (upd σ nm (some l)) w nm blkn q→Owns σ w b blk0 q∧¬ Owns σ w b blk q)
 (hbr:HLe (frz hp σ C.X w) (frz (upd (upd hp b (some blk)) nm (some blkn)) (upd σ nm (some l)) C.X w)→BR C.rc (upd σ nm (some l)) (frz (upd (upd hp b (some blk)) nm (some blkn)) (upd σ nm (some l)) C.X w) w b blk)
 (hbn':HLe (frz hp σ C.X w) (frz (upd (upd hp b (some blk)) nm (some blkn)) (upd σ nm (some l)) C.X w)→BR C.rc (upd σ nm (some l)) (frz (upd (upd hp b (some blk)) nm (some blkn)) (upd σ nm (some l)) C.X w) w nm blkn) :
 HRel C (upd σ nm (some l)) (upd (upd hp b (some blk)) nm (some blkn)) w∧HLe (frz hp σ C.X w) (frz (upd (upd hp b (some blk)) nm (some blkn)) (upd σ nm (some l)) C.X w):=by
 have hlv : ∀ b' k',Live (upd (upd hp b (some blk)) nm (some blkn)) (upd σ nm (some l)) w b' k'→(b'=nm∧Owns σ w b blk0 k'∧¬ Owns σ w b blk k')∨(b'=b∧Owns σ w b blk k')∨(b'≠b∧b'≠nm∧Live hp σ w b' k'):=by
  rintro b' k' ⟨blk',h1,h2⟩
  by_cases e:b'=nm
  ·subst e
   rw [upd_same] at h1
   injection h1 with h1; subst h1
   exact .inl ⟨rfl,hnew _ h2⟩
  ·rw [upd_ne _ _ e] at h1
   have h2':=h2.keep (upd_ne _ _ e) fun _ _ _ _ _ => rfl
   by_cases e2:b'=b
   ·subst e2
    rw [upd_same] at h1
    injection h1 with h1; subst h1
    exact .inr (.inl ⟨rfl,h2'⟩)
   ·rw [upd_ne _ _ e2] at h1
    exact .inr (.inr ⟨e2,e,blk',h1,h2'⟩)
 refine R.same (SLe.upd hn l) (fun b' k h => ?_) (fun b1 b2 k h1 h2 => ?_) fun b' blk' e => ?_
 ·rcases hlv _ _ h with ⟨_,h,_⟩ | ⟨_,h⟩ | ⟨_,_,h⟩
  ·exact ⟨b,blk0,h0,h⟩
  ·exact ⟨b,blk0,h0,hown _ h⟩
  ·exact ⟨b',h⟩
 ·rcases hlv _ _ h1 with ⟨rfl,g1,g1'⟩ | ⟨rfl,g1⟩ | ⟨e1,e1',g1⟩ <;> rcases hlv _ _ h2 with ⟨rfl,g2,g2'⟩ | ⟨rfl,g2⟩ | ⟨e2,e2',g2⟩
  ·rfl
  ·exact absurd g2 g1'
  ·exact absurd (R.inj _ _ _ ⟨blk0,h0,g1⟩ g2).symm e2
  ·exact absurd g1 g2'
  ·rfl
  ·exact absurd (R.inj _ _ _ ⟨blk0,h0,hown _ g1⟩ g2).symm e2
  ·exact absurd (R.inj _ _ _ g1 ⟨blk0,h0,g2⟩) e1
  ·exact absurd (R.inj _ _ _ g1 ⟨blk0,h0,hown _ g2⟩) e1
  ·exact R.inj _ _ _ g1 g2
 ·by_cases e1:b'=nm
  ·subst e1
   rw [upd_same] at e
   injection e with e; subst e
   exact .inr hbn'
  ·rw [upd_ne _ _ e1] at e
   by_cases e2:b'=b
   ·subst e2
    rw [upd_same] at e
    injection e with e; subst e
    exact .inr hbr
   ·rw [upd_ne _ _ e2] at e
    exact .inl e
theorem HRel.join (R:HRel C σ hp w) {b nm:Nat} {blk0:Blk} (h0:hp b=some blk0) (hbn:b≠nm) (blk:Blk) (hown : ∀ q,Owns σ w b blk q→Owns σ w b blk0 q∨Live hp σ w nm q)
 (hbr:HLe (frz hp σ C.X w) (frz (upd (upd hp nm none) b (some blk)) σ C.X w)→BR C.rc σ (frz (upd (upd hp nm none) b (some blk)) σ C.X w) w b blk) :
 HRel C σ (upd (upd hp nm none) b (some blk)) w∧HLe (frz hp σ C.X w) (frz (upd (upd hp nm none) b (some blk)) σ C.X w):=by
 have hlv : ∀ b' k',Live (upd (upd hp nm none) b (some blk)) σ w b' k'→(b'=b∧(Live hp σ w b k'∨Live hp σ w nm k'))∨(b'≠b∧b'≠nm∧Live hp σ w b' k'):=by
  rintro b' k' ⟨blk',h1,h2⟩
  by_cases e:b'=b
  ·subst e
   rw [upd_same] at h1
   injection h1 with h1; subst h1
   exact .inl ⟨rfl,(hown _ h2).imp (fun h => ⟨blk0,h0,h⟩) id⟩
  ·rw [upd_ne _ _ e] at h1
   by_cases e2:b'=nm
   ·subst e2; rw [upd_same] at h1; cases h1
   ·rw [upd_ne _ _ e2] at h1
    exact .inr ⟨e,e2,blk',h1,h2⟩
 refine R.same (SLe.refl _) (fun b' k h => ?_) (fun b1 b2 k h1 h2 => ?_) fun b' blk' e => ?_
 ·rcases hlv _ _ h with ⟨_,h | h⟩ | ⟨_,_,h⟩
  ·exact ⟨b,h⟩
  ·exact ⟨nm,h⟩
  ·exact ⟨b',h⟩
 ·rcases hlv _ _ h1 with ⟨rfl,g1⟩ | ⟨e1,e1',g1⟩ <;> rcases hlv _ _ h2 with ⟨rfl,g2⟩ | ⟨e2,e2',g2⟩
  ·rfl
  ·rcases g1 with g1 | g1
   ·exact absurd (R.inj _ _ _ g1 g2).symm e2
   ·exact absurd (R.inj _ _ _ g1 g2).symm e2'
  ·rcases g2 with g2 | g2
   ·exact absurd (R.inj _ _ _ g1 g2) e1
   ·exact absurd (R.inj _ _ _ g1 g2) e1'
  ·exact R.inj _ _ _ g1 g2
 ·by_cases e1:b'=b
  ·subst e1
   rw [upd_same] at e
   injection e with e; subst e
   exact .inr hbr
  ·rw [upd_ne _ _ e1] at e
   by_cases e2:b'=nm
   ·subst e2; rw [upd_same] at e; cases e
   ·rw [upd_ne _ _ e2] at e
    exact .inl e
theorem HRel.retell (R:HRel C σ hp w) {b nm:Nat} {blk0:Blk} (h0:hp b=some blk0) (hn:σ nm=none) (l:Loc) (blk:Blk) (hown : ∀ q,Owns (upd σ nm (some l)) w nm blk q→Owns σ w b blk0 q)
 (hbr:HLe (frz hp σ C.X w) (frz (upd (upd hp b none) nm (some blk)) (upd σ nm (some l)) C.X w)→BR C.rc (upd σ nm (some l)) (frz (upd (upd hp b none) nm (some blk)) (upd σ nm (some l)) C.X w) w nm blk) :
 HRel C (upd σ nm (some l)) (upd (upd hp b none) nm (some blk)) w∧HLe (frz hp σ C.X w) (frz (upd (upd hp b none) nm (some blk)) (upd σ nm (some l)) C.X w):=by
 have hlv : ∀ b' k',Live (upd (upd hp b none) nm (some blk)) (upd σ nm (some l)) w b' k'→(b'=nm∧Live hp σ w b k')∨(b'≠b∧b'≠nm∧Live hp σ w b' k'):=by
  rintro b' k' ⟨blk',h1,h2⟩
  by_cases e:b'=nm
  ·subst e
   rw [upd_same] at h1
   injection h1 with h1; subst h1
   exact .inl ⟨rfl,blk0,h0,hown _ h2⟩
  ·rw [upd_ne _ _ e] at h1
   by_cases e2:b'=b
   ·subst e2; rw [upd_same] at h1; cases h1
   ·rw [upd_ne _ _ e2] at h1
    exact .inr ⟨e2,e,blk',h1,h2.keep (upd_ne _ _ e) fun _ _ _ _ _ => rfl⟩
 refine R.same (SLe.upd hn l) (fun b' k h => ?_) (fun b1 b2 k h1 h2 => ?_) fun b' blk' e => ?_
 ·rcases hlv _ _ h with ⟨_,h⟩ | ⟨_,_,h⟩
  ·exact ⟨b,h⟩
  ·exact ⟨b',h⟩
 ·rcases hlv _ _ h1 with ⟨rfl,g1⟩ | ⟨e1,e2,g1⟩ <;> rcases hlv _ _ h2 with ⟨rfl,g2⟩ | ⟨e3,e4,g2⟩
  ·rfl
  ·exact absurd (R.inj _ _ _ g1 g2).symm e3
  ·exact absurd (R.inj _ _ _ g2 g1).symm e1
  ·exact R.inj _ _ _ g1 g2
 ·by_cases e1:b'=nm
  ·subst e1
   rw [upd_same] at e
   injection e with e; subst e
   exact .inr hbr
  ·rw [upd_ne _ _ e1] at e
   by_cases e2:b'=b
   ·subst e2; rw [upd_same] at e; cases e
   ·rw [upd_ne _ _ e2] at e
    exact .inl e
end Go.Vai
