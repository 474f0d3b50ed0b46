/-
  A part of the abstract run of Go functions and of the proof that it tells the truth.
-/
import Derived.Orders
import Derived.WalkKit
import Derived.KernelRfl
import Derived.Laws.Entries
import Derived.Laws.Cells
import Derived.Laws.World
set_option linter.unusedVariables false
set_option linter.unusedSimpArgs false
namespace Go.Vai
inductive FV where
 | sc (v:Value)
 | sl (es:List (List FV))
inductive AV where
 | dead
 | fz (x:FV)
 | agg (l:List AV)
 | tup (l:List AV)
 | osl (b sz off len:Nat)
 | bp (b off:Nat)
 | ep (b i f:Nat)
 | fp (c:List FV) (f:Nat)
 | fn (f:FuncId) (cap:List AV)
 | emp
 | err
 | mp (b:Nat)
 | own (sz:Nat) (es:List (List FV))
 | ifc (t:TypeId) (x:AV)
 | bm (f:FuncId) (fst:List AV)
 | yl (b:Nat)
inductive Ex where
 | nor
 | exit (id:Nat)
 | ret
def Ex.jump:Ex→Option Code
 | .nor => none
 | .exit i => some (.exit i)
 | .ret => some .ret
abbrev RC:=FuncId→Option (Nat × Array Nat × Code × Code)
inductive Blk where
 | box (cs:List AV)
 | arr (sz:Nat) (es:List (List FV))
 | map (es:List (Nat × Value × FV)) (clock:Nat)
 | row (sz:Nat) (es:List (List AV))
 | iter (mb:Option Nat) (since:Nat) (seen:List Nat) (last:Nat)
 | loop (pf:FuncId) (caps:List (Nat × AV)) (st:Option Ex)
 | bld (T U:TypeId) (l:List UInt8)
inductive Loc where
 | vir
 | here (k d n sz:Nat)
abbrev PH:=Nat→Option Obj
def cellAt (h:PH) (k o:Nat):Option Value :=
 match h k with
 | some (.cells c _ _) => c[o]?
 | _ => none
def leafV:Value→Bool
 | .agg _ => false
 | .tuple _ => false
 | _ => true
inductive FR (h:PH):FV→Value→Prop
 | sc (v:Value):leafV v=true→FR h (.sc v) v
 | sl0 (A:Option Addr) (cap:Nat):FR h (.sl []) (.slice A 0 cap)
 | sl (es:List (List FV)) (sz:Nat) (k o:Nat) (sp:Option Nat) (cap:Nat) (vs:Nat→Nat→Value)
  (hsz : ∀ (i:Nat) (c:List FV),es[i]? = some c→c.length=sz)
  (hcap:es.length≤cap)
  (hsp:es≠[]→sp=none)
  (hat : ∀ (i:Nat) (c:List FV) (j:Nat) (x:FV),es[i]? = some c→c[j]? = some x→cellAt h k (o + (i * sz + j))=some (vs i j))
  (hr : ∀ (i:Nat) (c:List FV) (j:Nat) (x:FV),es[i]? = some c→c[j]? = some x→FR h x (vs i j)) :
  FR h (.sl es) (.slice (some ⟨k,o,sp⟩) es.length cap)
inductive VR (σ:Nat→Option Loc) (h:PH):AV→Value→Prop
 | dead (v:Value):VR σ h .dead v
 | fz (x:FV) (v:Value):FR h x v→VR σ h (.fz x) v
 | agg (l:List AV) (vs:List Value):l.length=vs.length→(∀ (i:Nat) (x:AV) (v:Value),l[i]? = some x→vs[i]? = some v→VR σ h x v)→VR σ h (.agg l) (.agg vs.toArray)
 | tup (l:List AV) (vs:List Value):l.length=vs.length→(∀ (i:Nat) (x:AV) (v:Value),l[i]? = some x→vs[i]? = some v→VR σ h x v)→VR σ h (.tup l) (.tuple vs.toArray)
 | vir (b sz off:Nat) (A:Option Addr):σ b=some .vir→VR σ h (.osl b sz off 0) (.slice A 0 0)
 | osl (b sz off len k d n:Nat) (a:Addr) (cap:Nat):σ b=some (.here k d n sz)→len≤cap→(cap=0∨a=⟨k,d + off * sz,none⟩)→d + off * sz + cap * sz≤n →
  VR σ h (.osl b sz off len) (.slice (some a) len cap)
 | bp (b off k n:Nat):σ b=some (.here k 0 n 1)→VR σ h (.bp b off) (.pointer (some ⟨k,off,none⟩))
 | ep (b i f k d n sz:Nat):σ b=some (.here k d n sz)→VR σ h (.ep b i f) (.pointer (some ⟨k,d + (i * sz + f),none⟩))
 | fp (c:List FV) (f k o:Nat) (us:Nat→Value):(∀ (j:Nat) (x:FV),c[j]? = some x→cellAt h k (o + j)=some (us j))→(∀ (j:Nat) (x:FV),c[j]? = some x→FR h x (us j)) →
  VR σ h (.fp c f) (.pointer (some ⟨k,o + f,none⟩))
 | fn (f:FuncId) (cap:List AV) (vs:List Value):cap.length=vs.length→(∀ (i:Nat) (x:AV) (v:Value),cap[i]? = some x→vs[i]? = some v→VR σ h x v)→VR σ h (.fn f cap) (.func (.func f) #[] vs.toArray)
 | emp (A:Option Addr):VR σ h .emp (.slice A 0 0)
 | err (t:TypeId) (v:Value):VR σ h .err (.iface t v)
 | mp (b k:Nat):σ b=some (.here k 0 0 0)→VR σ h (.mp b) (.map (some k))
 | ifc (t:TypeId) (x:AV) (v:Value):VR σ h x v→VR σ h (.ifc t x) (.iface t v)
 | bm (f:FuncId) (fst:List AV) (vs:List Value):fst.length=vs.length→(∀ (i:Nat) (x:AV) (v:Value),fst[i]? = some x→vs[i]? = some v→VR σ h x v)→VR σ h (.bm f fst) (.func (.func f) vs.toArray #[])
 | yl (b l:Nat):σ b=some (.here l 0 0 0)→VR σ h (.yl b) (.func (.yield l) #[] #[])
def HLe (h h':PH):Prop := ∀ k o,h k=some o→h' k=some o
def SLe (σ σ':Nat→Option Loc):Prop := ∀ b l,σ b=some l→σ' b=some l
theorem HLe.refl (h:PH):HLe h h:=fun _ _ e => e
theorem SLe.refl (σ:Nat→Option Loc):SLe σ σ:=fun _ _ e => e
theorem HLe.trans {a b c:PH} (h:HLe a b) (k:HLe b c):HLe a c:=fun i o e => k i o (h i o e)
theorem SLe.trans {a b c:Nat→Option Loc} (h:SLe a b) (k:SLe b c):SLe a c:=fun i o e => k i o (h i o e)
theorem cellAt_mono {h h':PH} (hl:HLe h h') {k o:Nat} {v:Value} (e:cellAt h k o=some v):cellAt h' k o=some v:=by
 unfold cellAt at *
 cases hk:h k with
 | none => rw [hk] at e; cases e
 | some ob => rw [hl k ob hk]; rw [hk] at e; exact e
theorem FR.mono {h h':PH} (hl:HLe h h') {x:FV} {v:Value} (r:FR h x v):FR h' x v:=by
 induction r with
 | sc v hv => exact .sc v hv
 | sl0 A cap => exact .sl0 A cap
 | sl es sz k o sp cap vs hsz hcap hsp hat hr ih =>
  exact .sl es sz k o sp cap vs hsz hcap hsp (fun i c j x e e' => cellAt_mono hl (hat i c j x e e')) ih
theorem VR.mono {σ σ':Nat→Option Loc} {h h':PH} (hs:SLe σ σ') (hl:HLe h h') {x:AV} {v:Value} (r:VR σ h x v):VR σ' h' x v:=by
 induction r with
 | dead v => exact .dead v
 | fz x v r => exact .fz x v (r.mono hl)
 | agg l vs e r ih => exact .agg l vs e ih
 | tup l vs e r ih => exact .tup l vs e ih
 | vir b sz off A e => exact .vir b sz off A (hs _ _ e)
 | osl b sz off len k d n a cap e e1 e2 e3 => exact .osl b sz off len k d n a cap (hs _ _ e) e1 e2 e3
 | bp b off k n e => exact .bp b off k n (hs _ _ e)
 | ep b i f k d n sz e => exact .ep b i f k d n sz (hs _ _ e)
 | fp c f k o us e r => exact .fp c f k o us (fun j x e' => cellAt_mono hl (e j x e')) (fun j x e' => (r j x e').mono hl)
 | fn f cap vs e r ih => exact .fn f cap vs e ih
 | emp A => exact .emp A
 | err t v => exact .err t v
 | mp b k e => exact .mp b k (hs _ _ e)
 | ifc t x v r ih => exact .ifc t x v ih
 | bm f fst vs e r ih => exact .bm f fst vs e ih
 | yl b l e => exact .yl b l (hs _ _ e)
def lk:List (Nat × AV)→Nat→AV
 | [],_ => .dead
 | (k,v) :: r,t => if k=t then v else lk r t
def hk:List (Nat × Option Blk)→Nat→Option Blk
 | [],_ => none
 | (k,v) :: r,t => if k=t then v else hk r t
structure St where
 sl:List (Nat × AV)
 hp:List (Nat × Option Blk)
 nx:Nat
def SubAt (c:Array Value) (d sz:Nat) (es:List (List AV)) (i j q:Nat):Prop :=
 ∃ cl sz' es' o sp n cap,es[i]? = some cl∧cl[j]? = some (.own sz' es')∧c[d + (i * sz + j)]? = some (.slice (some ⟨q,o,sp⟩) n cap)∧0 < cap
inductive Owns (σ:Nat→Option Loc) (w:World) (b:Nat):Blk→Nat→Prop
 | at (blk:Blk) (k d n sz:Nat):σ b=some (.here k d n sz)→Owns σ w b blk k
 | sub (sz:Nat) (es:List (List AV)) (k d n:Nat) (c:Array Value) (e:TypeId) (z:Nat × Nat) (i j q:Nat):σ b=some (.here k d n sz)→w.heap[k]? = some (.cells c e z)→SubAt c d sz es i j q→Owns σ w b (.row sz es) q
 | buf (T U:TypeId) (l:List UInt8) (k d n sz:Nat) (c:Array Value) (e:TypeId) (z:Nat × Nat) (q o:Nat) (sp:Option Nat) (len cap:Nat):σ b=some (.here k d n sz)→w.heap[k]? = some (.cells c e z)→c[1]? = some (.slice (some ⟨q,o,sp⟩) len cap)→Owns σ w b (.bld T U l) q
def Live (hp:Nat→Option Blk) (σ:Nat→Option Loc) (w:World) (b k:Nat):Prop := ∃ blk,hp b=some blk∧Owns σ w b blk k
theorem Owns.keep {σ σ':Nat→Option Loc} {w w':World} {b:Nat} {blk:Blk} {q:Nat} (hs:σ' b=σ b) (hw : ∀ k d n sz,σ b=some (.here k d n sz)→w'.heap[k]? = w.heap[k]?) (h:Owns σ' w' b blk q):Owns σ w b blk q:=by
 cases h with
 | «at» _ _ d n sz h => exact .at _ _ d n sz (hs ▸ h)
 | sub sz es k d n c e z i j _ h1 h2 h3 =>
  rw [hs] at h1
  rw [hw _ _ _ _ h1] at h2
  exact .sub sz es k d n c e z i j q h1 h2 h3
 | buf T U l k d n sz c e z q o sp len cap h1 h2 h3 =>
  rw [hs] at h1
  rw [hw _ _ _ _ h1] at h2
  exact .buf T U l k d n sz c e z q o sp len cap h1 h2 h3
open Classical in
noncomputable def frz (hp:Nat→Option Blk) (σ:Nat→Option Loc) (X:Nat→Prop) (w:World):PH :=
 fun k => if (∃ b,Live hp σ w b k)∨X k then none else w.heap[k]?
theorem frz_some {hp:Nat→Option Blk} {σ:Nat→Option Loc} {X:Nat→Prop} {w:World} {k:Nat} {o:Obj} :
 frz hp σ X w k=some o↔((¬ ∃ b,Live hp σ w b k)∧¬ X k)∧w.heap[k]? = some o:=by
 unfold frz
 split
 ·rename_i h
  constructor
  ·intro e; cases e
  ·rintro ⟨⟨h1,h2⟩,_⟩; rcases h with h | h
   ·exact absurd h h1
   ·exact absurd h h2
 ·rename_i h
  rw [not_or] at h
  exact ⟨fun e => ⟨h,e⟩,fun e => e.2⟩
def NoFz (c:Array Value) (z:Nat × Nat):Prop:=z=(0,0)∨c.size≤z.1
theorem NoFz.no {c:Array Value} {z:Nat × Nat} (h:NoFz c z) (i:Nat) (hi:i < c.size) : ¬ (z.1≤i∧i < z.2):=by
 rcases h with rfl | h
 ·simp
 ·omega
theorem NoFz.of_size {c c':Array Value} {z:Nat × Nat} (h:NoFz c z) (e:c'.size=c.size):NoFz c' z:=h.imp id fun h => by omega
def OwnAt (h:PH) (w:World) (sz:Nat) (es:List (List FV)) (v:Value):Prop :=
 ∃ A cap,v=.slice A es.length cap∧es.length≤cap∧(∀ (i:Nat) (cl:List FV),es[i]? = some cl→cl.length=sz)∧(cap=0∨∃ k o c e z,A=some ⟨k,o,none⟩∧w.heap[k]? = some (.cells c e z)∧NoFz c z∧o + cap * sz≤c.size ∧
  ∀ (i:Nat) (cl:List FV) (j:Nat) (x:FV),es[i]? = some cl→cl[j]? = some x→∃ v,c[o + (i * sz + j)]? = some v∧FR h x v)
def CR (σ:Nat→Option Loc) (h:PH) (w:World):AV→Value→Prop
 | .own sz es,v => OwnAt h w sz es v
 | x,v => VR σ h x v
theorem VR.no_own {σ:Nat→Option Loc} {h:PH} {sz:Nat} {es:List (List FV)} {v:Value} (r:VR σ h (.own sz es) v):False:=by cases r
theorem CR.of {σ:Nat→Option Loc} {h:PH} {w:World} {x:AV} {v:Value} (r:VR σ h x v):CR σ h w x v:=by
 cases x <;> first | exact r | exact r.no_own.elim
theorem CR.vr {σ:Nat→Option Loc} {h:PH} {w:World} {x:AV} {v:Value} (r:CR σ h w x v) (hn : ∀ sz es,x≠.own sz es):VR σ h x v:=by
 cases x <;> first | exact r | exact absurd rfl (hn _ _)
theorem OwnAt.mono {h h':PH} {w w':World} {sz:Nat} {es:List (List FV)} {v:Value} (hl:HLe h h') (hw : ∀ k o sp n cap,v=.slice (some ⟨k,o,sp⟩) n cap→0 < cap→w'.heap[k]? = w.heap[k]?) (r:OwnAt h w sz es v):OwnAt h' w' sz es v:=by
 obtain ⟨A,cap,e,h1,h3,h2⟩:=r
 refine ⟨A,cap,e,h1,h3,?_⟩
 by_cases hc:cap=0
 ·exact .inl hc
 ·obtain ⟨k,o,c,t,z,rfl,g2,g3,g4,g6⟩:=h2.resolve_left hc
  refine .inr ⟨k,o,c,t,z,rfl,(hw k o none _ cap e (by omega)).trans g2,g3,g4,fun i cl j x e1 e2 => ?_⟩
  obtain ⟨v,q1,q2⟩:=g6 i cl j x e1 e2
  exact ⟨v,q1,q2.mono hl⟩
theorem CR.mono {σ σ':Nat→Option Loc} {h h':PH} {w w':World} {x:AV} {v:Value} (hs:SLe σ σ') (hl:HLe h h') (hw : ∀ sz es,x=.own sz es→∀ k o sp n cap,v=.slice (some ⟨k,o,sp⟩) n cap→0 < cap→w'.heap[k]? = w.heap[k]?) (r:CR σ h w x v):CR σ' h' w' x v:=by
 cases x <;> first | exact VR.mono hs hl r | exact OwnAt.mono hl (hw _ _ rfl) r
def BufAt (w:World) (k:Nat) (U:TypeId) (l:List UInt8) (v:Value):Prop :=
 (v=.slice none 0 0∧l=[])∨∃ g cap cur,v=.slice (some ⟨g,0,none⟩) l.length cap∧g≠k∧w.heap[g]? = some (.cells cur U (0,0))∧l.length≤cap∧cap≤maxLen∧cur.size=cap∧cur.toList.take l.length=l.map fun b => .int .u8 b.toNat
inductive BR (rc:RC) (σ:Nat→Option Loc) (h:PH) (w:World) (b:Nat):Blk→Prop
 | box (cs:List AV) (k:Nat) (c:Array Value) (e:TypeId) (z:Nat × Nat):σ b=some (.here k 0 cs.length 1)→w.heap[k]? = some (.cells c e z)→NoFz c z→c.size=cs.length →
  (∀ (i:Nat) (x:AV) (v:Value),cs[i]? = some x→c[i]? = some v→VR σ h x v)→BR rc σ h w b (.box cs)
 | vir (sz:Nat):σ b=some .vir→BR rc σ h w b (.arr sz [])
 | arr (sz:Nat) (es:List (List FV)) (k d:Nat) (c:Array Value) (e:TypeId) (z:Nat × Nat):σ b=some (.here k d c.size sz)→w.heap[k]? = some (.cells c e z)→NoFz c z →
  (∀ (i:Nat) (cl:List FV),es[i]? = some cl→cl.length=sz)→(∀ (i:Nat) (cl:List FV) (j:Nat) (x:FV),es[i]? = some cl→cl[j]? = some x→∃ v,c[d + (i * sz + j)]? = some v∧FR h x v)→BR rc σ h w b (.arr sz es)
 | rvir (sz:Nat):σ b=some .vir→BR rc σ h w b (.row sz [])
 | row (sz:Nat) (es:List (List AV)) (k d:Nat) (c:Array Value) (e:TypeId) (z:Nat × Nat):σ b=some (.here k d c.size sz)→w.heap[k]? = some (.cells c e z)→NoFz c z →
  (∀ (i:Nat) (cl:List AV),es[i]? = some cl→cl.length=sz)→(∀ (i:Nat) (cl:List AV) (j:Nat) (x:AV),es[i]? = some cl→cl[j]? = some x→∃ v,c[d + (i * sz + j)]? = some v∧CR σ h w x v∧leafV v=true) →
  (∀ i j i' j' q,SubAt c d sz es i j q→SubAt c d sz es i' j' q→i=i'∧j=j')→(∀ i j q,SubAt c d sz es i j q→q≠k)→BR rc σ h w b (.row sz es)
 | map (es:List (Nat × Value × FV)) (clock k:Nat) (E:Array MapEntry):σ b=some (.here k 0 0 0)→w.heap[k]? = some (.map E clock)→E.toList.length=es.length →
  (∀ (i:Nat) (p:Nat × Value × FV) (e:MapEntry),es[i]? = some p→E.toList[i]? = some e→e.born=p.1∧e.key=p.2.1∧FR h p.2.2 e.val)→BR rc σ h w b (.map es clock)
 | iter (mb:Option Nat) (since:Nat) (seen:List Nat) (last k:Nat) (mk:Option Nat):σ b=some (.here k 0 1 1)→w.heap[k]? = some (.mapIter mk since seen.toArray last) →
  (∀ m,mb=some m→∃ km,σ m=some (.here km 0 0 0)∧mk=some km)→BR rc σ h w b (.iter mb since seen last)
 | loop (pf:FuncId) (caps:List (Nat × AV)) (st:Option Ex) (l N:Nat) (r:Loop):σ b=some (.here l 0 0 0)→w.heap[l]? = some (.loop r)→rc pf=some (N,r.params,r.assign,r.body)→N≤r.tmps.size →
  (∀ (i t:Nat) (x:AV),caps[i]? = some (t,x)→VR σ h x (r.tmps.getD t undef))→(st=none→r.state=.ready∧r.pending=none)→(∀ e,st=some e→r.state=.done∧r.pending=e.jump∧e.jump.isSome=true)→BR rc σ h w b (.loop pf caps st)
 | bld (T U:TypeId) (l:List UInt8) (k:Nat) (p v:Value):σ b=some (.here k 0 2 1)→w.heap[k]? = some (.cells #[p,v] T (0,0))→(p=.pointer none∨p=.pointer (some ⟨k,0,none⟩))→BufAt w k U l v→BR rc σ h w b (.bld T U l)
theorem BR.mono {rc:RC} {σ σ':Nat→Option Loc} {h h':PH} {w w':World} {b:Nat} {blk:Blk} (hs:SLe σ σ') (hl:HLe h h') (hw : ∀ k,Owns σ w b blk k→w'.heap[k]? = w.heap[k]?)
 (r:BR rc σ h w b blk):BR rc σ' h' w' b blk:=by
 cases r with
 | box cs k c e z h1 h2 h3 h4 h5 => exact .box cs k c e z (hs _ _ h1) ((hw _ (.at _ _ _ _ _ h1)).trans h2) h3 h4 fun i x v e1 e2 => (h5 i x v e1 e2).mono hs hl
 | vir sz h1 => exact .vir sz (hs _ _ h1)
 | rvir sz h1 => exact .rvir sz (hs _ _ h1)
 | arr sz es k d c e z h1 h2 h3 h4 h5 =>
  refine .arr sz es k d c e z (hs _ _ h1) ((hw _ (.at _ _ _ _ _ h1)).trans h2) h3 h4 fun i cl j x e1 e2 => ?_
  obtain ⟨v,hv,r⟩:=h5 i cl j x e1 e2
  exact ⟨v,hv,r.mono hl⟩
 | row sz es k d c e z h1 h2 h3 h4 h5 h6 h7 =>
  refine .row sz es k d c e z (hs _ _ h1) ((hw _ (.at _ _ _ _ _ h1)).trans h2) h3 h4 (fun i cl j x e1 e2 => ?_) h6 h7
  obtain ⟨v,hv,r,hlf⟩:=h5 i cl j x e1 e2
  refine ⟨v,hv,r.mono hs hl fun sz' es' ex q o sp n cap ev hc => hw q ?_,hlf⟩
  exact .sub sz es k d c.size c e z i j q h1 h2 ⟨cl,sz',es',o,sp,n,cap,e1,ex ▸ e2,ev ▸ hv,hc⟩
 | map es clock k E h1 h2 h3 h4 =>
  exact .map es clock k E (hs _ _ h1) ((hw _ (.at _ _ _ _ _ h1)).trans h2) h3 fun i p e e1 e2 => let ⟨g1,g2,g3⟩:=h4 i p e e1 e2; ⟨g1,g2,g3.mono hl⟩
 | iter mb since seen last k mk h1 h2 h3 =>
  exact .iter mb since seen last k mk (hs _ _ h1) ((hw _ (.at _ _ _ _ _ h1)).trans h2) fun m e => let ⟨km,g1,g2⟩:=h3 m e; ⟨km,hs _ _ g1,g2⟩
 | loop pf caps st l N r h1 h2 h3 h4 h5 h6 h7 =>
  exact .loop pf caps st l N r (hs _ _ h1) ((hw _ (.at _ _ _ _ _ h1)).trans h2) h3 h4 (fun i t x e => (h5 i t x e).mono hs hl) h6 h7
 | bld T U l k p v h1 h2 h3 h4 =>
  refine .bld T U l k p v (hs _ _ h1) ((hw _ (.at _ _ _ _ _ h1)).trans h2) h3 ?_
  rcases h4 with h4 | ⟨g,cap,cur,g1,g2,g3,g4⟩
  ·exact .inl h4
  ·exact .inr ⟨g,cap,cur,g1,g2,(hw g (.buf T U l k 0 2 1 _ _ _ g 0 none l.length cap h1 h2 (by rw [g1]; rfl))).trans g3,g4⟩
structure Frame0 (own0:Nat→Prop) (w0 w:World):Prop where
 size:w0.heap.size≤w.heap.size
 keep : ∀ k,k < w0.heap.size→¬ own0 k→w.heap[k]? = w0.heap[k]?
 os:w.os=w0.os
 tape:w.tape=w0.tape
 output:w.output=w0.output
theorem Frame0.refl (own0:Nat→Prop) (w:World):Frame0 own0 w w:=⟨Nat.le_refl _,fun _ _ _ => rfl,rfl,rfl,rfl⟩
def GR (G:Nat→Option (List FV)) (h:PH):Prop := ∀ g c,G g=some c→(∃ us:Nat→Value,(∀ (j:Nat) (x:FV),c[j]? = some x→cellAt h g j=some (us j))∧(∀ (j:Nat) (x:FV),c[j]? = some x→FR h x (us j))) ∧
 ∃ cs t z,h g=some (.cells cs t z)∧cs.size=c.length
theorem GR.mono {G:Nat→Option (List FV)} {h h':PH} (hl:HLe h h') (r:GR G h):GR G h':=fun g c e =>
 let ⟨⟨us,h1,h2⟩,cs,t,z,h3,h4⟩:=r g c e
 ⟨⟨us,fun j x e' => cellAt_mono hl (h1 j x e'),fun j x e' => (h2 j x e').mono hl⟩,cs,t,z,hl _ _ h3,h4⟩
structure Ctx where
 G:Nat→Option (List FV)
 rc:RC
 X:Nat→Prop
 own0:Nat→Prop
 w0:World
 N:Nat
def mark1 (D:Nat):Deferred:={ target:=.collected D,args := #[] }
def DfOk (C:Ctx) (h:PH) (a:Act):Prop := ∃ Ds:List Nat,a.defers=Ds.map mark1∧Ds.Nodup∧∀ D∈Ds,(C.own0 D∨C.w0.heap.size≤D)∧h D=some (.deferred (some []))
theorem DfOk.mono {C:Ctx} {h h':PH} {a:Act} (hl:HLe h h') (r:DfOk C h a):DfOk C h' a :=
 let ⟨Ds,h1,h2,h3⟩:=r
 ⟨Ds,h1,h2,fun D hD => ⟨(h3 D hD).1,hl _ _ (h3 D hD).2⟩⟩
theorem DfOk.act {C:Ctx} {h:PH} {a a':Act} (e:a'.defers=a.defers) (r:DfOk C h a):DfOk C h a' :=
 let ⟨Ds,h1,h2,h3⟩:=r
 ⟨Ds,e.trans h1,h2,h3⟩
theorem DfOk.nil {C:Ctx} {h:PH} {a:Act} (e:a.defers=[]):DfOk C h a:=⟨[],e,.nil,fun D hD => by cases hD⟩
structure Rel (C:Ctx) (σ:Nat→Option Loc) (st:St) (a:Act) (w:World):Prop where
 sl : ∀ t,VR σ (frz (hk st.hp) σ C.X w) (lk st.sl t) (a.tmps.getD t undef)
 bk : ∀ b blk,hk st.hp b=some blk→BR C.rc σ (frz (hk st.hp) σ C.X w) w b blk
 inj : ∀ b b' k,Live (hk st.hp) σ w b k→Live (hk st.hp) σ w b' k→b=b'
 ow : ∀ b k,Live (hk st.hp) σ w b k→¬ C.X k∧k < w.heap.size∧(C.own0 k∨C.w0.heap.size≤k)
 fr:Frame0 C.own0 C.w0 w
 gl:GR C.G (frz (hk st.hp) σ C.X w)
 xl : ∀ k,C.X k→k < C.w0.heap.size
 df:DfOk C (frz (hk st.hp) σ C.X w) a
 tz:C.N≤a.tmps.size
end Go.Vai
namespace Go.Vai
inductive LX where
 | tm (n:Nat)
 | cn (v:Value)
 | gl (n:Nat)
 | fu (f:FuncId)
inductive LOp where
 | mov (x:LX)
 | pick (c a b:LX)
 | bin (op:BinOp) (x y:LX)
 | beq (neg:Bool) (x y:LX)
 | eqs (ks:List Nat) (neg:Bool) (x y:LX)
 | isnil (k:Nat) (neg:Bool) (x:LX)
 | un (op:UnOp) (x:LX)
 | conv (k:IntKind) (x:LX)
 | i2s (x:LX)
 | s2s (x:LX)
 | slen (x:LX)
 | len (x:LX)
 | alen (n:Nat)
 | mx (xs:List LX)
 | mn (xs:List LX)
 | fld (p:LX) (d:Nat)
 | ixa (sz:Nat) (x i:LX)
 | ixp (n sz:Nat) (p i:LX)
 | ixs (x i:LX)
 | ixv (n sz:Nat) (ag:Option Nat) (x i:LX)
 | field (ag:Option Nat) (x:LX) (d:Nat)
 | build (z:List Value) (ps:List (Nat × Nat × LX))
 | slc (sz:Nat) (x:LX) (lo hi mx:Option LX)
 | slcs (x:LX) (lo hi:Option LX)
 | ext (x:LX) (i:Nat)
 | mkf (f:FuncId) (caps:List LX)
 | nilchk (x:LX)
 | alloc (z:List Value)
 | abld (T U:TypeId)
 | box (x:LX)
 | load (ag:Option Nat) (p:LX)
 | store (n:Nat) (p x:LX)
 | bsl (sz:Nat) (z:List Value) (len:Nat) (ps:List (Nat × LX))
 | mks (sz bytes:Nat) (z:List Value) (l c:LX)
 | app (sz bytes:Nat) (str:Bool) (s x:LX)
 | cpy (sz:Nat) (d x:LX)
 | clr (sz:Nat) (z:List Value) (x:LX)
 | cv2 (x:LX)
 | slca (n:Nat) (x:LX) (lo hi:Option LX)
 | bad
 | s2b (x:LX)
 | b2s (x:LX)
 | call (f:LX) (xs:List LX)
 | mkm
 | mset (k:Nat) (m key x:LX)
 | mget (k:Nat) (z:List Value) (comma:Bool) (m key:LX)
 | mrng (m:LX)
 | ment (it:LX)
 | nxt (it:LX)
 | loadr (p:LX)
 | bslr (sz:Nat) (z:List Value) (len:Nat) (ps:List (Nat × LX))
 | mksr (sz bytes:Nat) (z:List Value) (l c:LX)
 | lcall (f:LX) (xs:List LX)
 | mdel (k:Nat) (m key:LX)
 | mki (t:TypeId) (x:LX)
 | tas (t:TypeId) (z:List Value) (x:LX)
 | mkb (f:FuncId) (fst:List LX)
 | inv (tb:List (TypeId × FuncId)) (x:LX) (xs:List LX)
structure LOper where
 dst:Option Nat
 op:LOp
 gd:Option (Nat × Bool)
inductive Pth where
 | tm (t:Nat)
 | cell (t i:Nat)
 | bx (t i:Nat)
inductive Co where
 | tmp (t:Nat) (z:Option Nat)
 | cell (t i:Nat) (z:Option Nat)
 | bx (t i:Nat) (z:Option Nat)
 | att (p:Pth) (f sz:Nat) (ti:Option Nat)
 | ownE (p:Pth) (f sz:Nat)
 | arz (p:Pth)
 | rz (p:Pth)
 | rowop (i:Nat)
 | lend (i:Nat)
inductive LCode where
 | skip
 | pre (cs:List Co) (c:LCode)
 | ops (l:List LOper)
 | draw (l:List LOper) (prs:List (Nat × Nat))
 | seq (a b:LCode)
 | cond (c:LX) (a b:LCode)
 | block (id:Nat) (b:LCode)
 | loop (live:List Nat) (b:LCode)
 | rng (live:List Nat) (nx more it out:Nat) (b k:LCode) (live2:List Nat)
 | rfn (g:LX) (pf:FuncId) (caps:List Nat) (its:List FuncId)
 | exit (id:Nat)
 | ret
 | bad
inductive LRes where
 | t (n:Nat)
 | cell (n:Nat) (ag:Option Nat)
structure LFunc where
 n:Nat
 np:Nat
 res:List LRes
 own:Bool
 prm:Option (List Nat)
 ent:List Co
 fin:List Co
 body:LCode
def cellAV:Value→AV
 | .slice none 0 0 => .emp
 | v => if leafV v=true then .fz (.sc v) else .dead
def cellFV:Value→FV
 | .slice none 0 0 => .sl []
 | v => .sc v
def constAV:Value→AV
 | .agg cs => .agg (cs.toList.map cellAV)
 | v => cellAV v
def LX.av (G:Nat→Option (List FV)) (sl:List (Nat × AV)):LX→AV
 | .tm n => lk sl n
 | .cn v => constAV v
 | .gl n => match G n with
  | some c => .fp c 0
  | none => .dead
 | .fu f => .fn f []
def binS (op:BinOp):Value→Value→Option Value
 | .int k a, .int k' b =>
  match op with
  | .shl => if b < 0 then none else some (.int k (k.wrap (a * 2 ^ (min b.toNat k.bits))))
  | .shr => if b < 0 then none else some (.int k (a.fdiv (2 ^ (min b.toNat k.bits))))
  | op => if k≠k' then none else
   match op with
   | .add => some (.int k (k.wrap (a + b)))
   | .sub => some (.int k (k.wrap (a - b)))
   | .mul => some (.int k (k.wrap (a * b)))
   | .quo => if b=0 then none else some (.int k (k.wrap (a.tdiv b)))
   | .rem => if b=0 then none else some (.int k (a.tmod b))
   | .and => some (.int k (k.wrap (BitVec.ofInt k.bits a &&& BitVec.ofInt k.bits b).toNat))
   | .or => some (.int k (k.wrap (BitVec.ofInt k.bits a ||| BitVec.ofInt k.bits b).toNat))
   | .xor => some (.int k (k.wrap (BitVec.ofInt k.bits a ^^^ BitVec.ofInt k.bits b).toNat))
   | .andNot => some (.int k (k.wrap (BitVec.ofInt k.bits a &&& ~~~ BitVec.ofInt k.bits b).toNat))
   | .eql => some (.bool (decide (a=b)))
   | .neq => some (.bool (!decide (a=b)))
   | .lss => some (.bool (decide (a < b)))
   | .leq => some (.bool (decide (a≤b)))
   | .gtr => some (.bool (decide (b < a)))
   | .geq => some (.bool (decide (b≤a)))
   | _ => none
 | .string x,.string y =>
  match op with
  | .add => if (x.size + y.size:Nat)≤9223372036854775807 then some (.string (x ++ y)) else none
  | .eql => some (.bool (decide (x=y)))
  | .neq => some (.bool (!decide (x=y)))
  | .lss => some (.bool (Op.bytesLess x.toList y.toList))
  | .leq => some (.bool (Op.bytesLess x.toList y.toList || decide (x=y)))
  | .gtr => some (.bool (!(Op.bytesLess x.toList y.toList || decide (x=y))))
  | .geq => some (.bool (!Op.bytesLess x.toList y.toList))
  | _ => none
 | _,_ => none
def eqK:Nat→Value→Value→Option Bool
 | 0,.int k a,.int k' b => if k=k' then some (decide (a=b)) else none
 | 1,.string x,.string y => some (decide (x=y))
 | 2,.bool x,.bool y => some (decide (x=y))
 | 3,.agg ⟨[.int .i64 a,.int .i64 b]⟩,.agg ⟨[.int .i64 c,.int .i64 d]⟩ => some (decide (a=c) && decide (b=d))
 | _,_,_ => none
def eqCs:List Nat→List AV→List AV→Option Bool
 | [],[],[] => some true
 | k :: ks,.fz (.sc a) :: x,.fz (.sc b) :: y =>
  match eqK k a b,eqCs ks x y with
  | some p,some q => some (p && q)
  | _,_ => none
 | _,_,_ => none
def isNil:Nat→AV→Option Bool
 | 0,.fz (.sl es) => if es.isEmpty then none else some false
 | 0,.osl _ _ _ len => if len=0 then none else some false
 | 0,.fz (.sc (.slice A _ _)) => some A.isNone
 | 1,.fz (.sc (.pointer none)) => some true
 | 1,.bp _ _ => some false
 | 1,.ep _ _ _ => some false
 | 1,.fp _ _ => some false
 | 2,.fz (.sc .nilFunc) => some true
 | 2,.fn _ _ => some false
 | 3,.fz (.sc .nilIface) => some true
 | 3,.err => some false
 | 3,.ifc _ _ => some false
 | 2,.bm _ _ => some false
 | _,_ => none
def unS (op:UnOp):Value→Option Value
 | .int k n =>
  match op with
  | .neg => some (.int k (k.wrap (0 - n)))
  | .xor => some (.int k (k.wrap (BitVec.ofInt k.bits (if k.signed then -1 else k.max) ^^^ BitVec.ofInt k.bits n).toNat))
  | _ => none
 | .bool b => match op with
  | .not => some (.bool (!b))
  | _ => none
 | _ => none
def mx2:Value→Value→Option Value
 | .int k x,.int k' y => if k=k' then some (.int k (if y > x then y else x)) else none
 | _,_ => none
def mn2:Value→Value→Option Value
 | .int k x,.int k' y => if k=k' then some (.int k (if y < x then y else x)) else none
 | _,_ => none
def foldV (f:Value→Value→Option Value):Value→List AV→Option Value
 | v,[] => some v
 | v,.fz (.sc u) :: r => match f v u with
  | some x => foldV f x r
  | none => none
 | _,_ => none
def foldV0 (f:Value→Value→Option Value):List AV→Option Value
 | .fz (.sc v) :: r => foldV f v r
 | _ => none
def scV:Option Value→Option AV
 | some v => some (.fz (.sc v))
 | none => none
def intOf':AV→Option Int
 | .fz (.sc (.int _ n)) => some n
 | _ => none
def bytesFV (s:ByteArray):List (List FV):=s.data.toList.map fun b => [FV.sc (.int .u8 b.toNat)]
def byteOf':List FV→Option UInt8
 | [.sc (.int .u8 n)] => some (UInt8.ofNat n.toNat)
 | _ => none
def bytesOf':List (List FV)→Option (List UInt8)
 | [] => some []
 | c :: r => match byteOf' c,bytesOf' r with
  | some b,some l => some (b :: l)
  | _,_ => none
def okSz (sz:Nat) (es:List (List FV)):Bool:=es.all fun c => c.length == sz
def rdArr (hp:List (Nat × Option Blk)) (sz:Nat):AV→Option (List (List FV))
 | .fz (.sl es) => if okSz sz es=true then some es else none
 | .fz (.sc (.slice _ 0 _)) => some []
 | .emp => some []
 | .osl b sz' off len => match hk hp b with
  | some (.arr sz2 es) => if sz'=sz∧sz2=sz∧off + len≤es.length then some ((es.drop off).take len) else none
  | _ => none
 | _ => none
def leaf:AV→Bool
 | .agg _ => false
 | .tup _ => false
 | .dead => false
 | .own _ _ => false
 | _ => true
def ownless:AV→Bool
 | .own _ _ => false
 | _ => true
def okLoad:AV→Bool
 | .own _ _ => false
 | .agg l => l.all ownless
 | _ => true
def cellF:AV→Option FV
 | .fz x => some x
 | .own _ es => some (.sl es)
 | .emp => some (.sl [])
 | _ => none
def cellsF:List AV→Option (List FV)
 | [] => some []
 | x :: r => match cellF x,cellsF r with
  | some y,some l => some (y :: l)
  | _,_ => none
def rowF:List (List AV)→Option (List (List FV))
 | [] => some []
 | x :: r => match cellsF x,rowF r with
  | some y,some l => some (y :: l)
  | _,_ => none
def cellsOf:AV→Option (List AV)
 | .agg l => some l
 | x => if leaf x=true then some [x] else none
abbrev HW:=List (Nat × Option Blk)
def toFV (hp:HW):AV→Option (FV × HW)
 | .fz x => some (x,[])
 | .emp => some (.sl [],[])
 | .fn f [] => some (.sc (.func (.func f) #[] #[]),[])
 | .osl b sz off len => match rdArr hp sz (.osl b sz off len) with
  | some es => some (.sl es,[(b,none)])
  | none => none
 | _ => none
def toFVs (hp:HW):List AV→Option (List FV × HW)
 | [] => some ([],[])
 | x :: r => match toFV hp x with
  | some (y,w1) => match toFVs (w1 ++ hp) r with
   | some (ys,w2) => some (y :: ys,w2 ++ w1)
   | none => none
  | none => none
def setAt {α:Type} (l:List α) (o:Nat) (x:List α):List α:=l.take o ++ x ++ l.drop (o + x.length)
def buildC (sl:LX→AV):List AV→List (Nat × Nat × LX)→Option (List AV)
 | cs,[] => some cs
 | cs,(o,n,x) :: r => match cellsOf (sl x) with
  | some l => if l.length=n∧o + n≤cs.length then buildC sl (setAt cs o l) r else none
  | none => none
def pureOp (av : LX → AV) : LOp → Option AV
 | .mov x => some (av x)
 | .pick c a b => match av c with
  | .fz (.sc (.bool c)) => some (if c then av a else av b)
  | _ => none
 | .bin op x y => match av x,av y with
  | .fz (.sc a),.fz (.sc b) => scV (binS op a b)
  | _,_ => none
 | .beq neg x y => match av x,av y with
  | .fz (.sc (.bool a)),.fz (.sc (.bool b)) => some (.fz (.sc (.bool (if neg then !decide (a=b) else decide (a=b)))))
  | _,_ => none
 | .eqs ks neg x y => match av x, av y with
  | .agg a,.agg b => match eqCs ks a b with
   | some r => some (.fz (.sc (.bool (if neg then !r else r))))
   | none => none
  | _,_ => none
 | .isnil k neg x => match isNil k (av x) with
  | some r => some (.fz (.sc (.bool (if neg then !r else r))))
  | none => none
 | .un op x => match av x with
  | .fz (.sc a) => scV (unS op a)
  | _ => none
 | .conv k x => match av x with
  | .fz (.sc (.int _ n)) => some (.fz (.sc (.int k (k.wrap n))))
  | _ => none
 | .i2s x => match av x with
  | .fz (.sc (.int _ n)) => some (.fz (.sc (.string (Utf8.encode n))))
  | _ => none
 | .s2s x => match av x with
  | .fz (.sc (.string s)) => some (.fz (.sc (.string s)))
  | _ => none
 | .slen x => match av x with
  | .fz (.sc (.string s)) => some (.fz (.sc (.int .i64 s.size)))
  | _ => none
 | .len x => match av x with
  | .fz (.sl es) => some (.fz (.sc (.int .i64 es.length)))
  | .osl _ _ _ n => some (.fz (.sc (.int .i64 n)))
  | .emp => some (.fz (.sc (.int .i64 0)))
  | _ => none
 | .alen n => some (.fz (.sc (.int .i64 n)))
 | .mx xs => scV (foldV0 mx2 (xs.map av))
 | .mn xs => scV (foldV0 mn2 (xs.map av))
 | .fld p d => match av p with
  | .bp b o => some (.bp b (o + d))
  | .ep b i f => some (.ep b i (f + d))
  | .fp c f => some (.fp c (f + d))
  | _ => none
 | .ixa sz x i => match av x, av i with
  | .fz (.sl es),.fz (.sc (.int _ n)) => if 0≤n then match es[n.toNat]? with
   | some c => if c.length=sz then some (.fp c 0) else none
   | none => none
   else none
  | .osl b sz' off len,.fz (.sc (.int _ n)) => if sz'=sz∧0≤n∧n < len then some (.ep b (off + n.toNat) 0) else none
  | _,_ => none
 | .ixp n sz p i => match av p,av i with
  | .bp b o,.fz (.sc (.int _ j)) => if 0≤j∧j < n then some (.bp b (o + j.toNat * sz)) else none
  | .fp c f,.fz (.sc (.int _ j)) => if 0≤j∧j < n then some (.fp c (f + j.toNat * sz)) else none
  | _,_ => none
 | .ixs x i => match av x, av i with
  | .fz (.sc (.string s)),.fz (.sc (.int _ n)) => if 0≤n then match s.data.toList[n.toNat]? with
   | some b => some (.fz (.sc (.int .u8 b.toNat)))
   | none => none
   else none
  | _,_ => none
 | .ixv n sz ag x i => match av x, av i with
  | .agg l,.fz (.sc (.int _ j)) => if 0≤j∧j < n then match ag with
   | some k => if j.toNat * sz + k≤l.length then some (.agg ((l.drop (j.toNat * sz)).take k)) else none
   | none => l[j.toNat * sz]?
   else none
  | _,_ => none
 | .field ag x d => match av x with
  | .agg l => match ag with
   | some n => if d + n≤l.length then some (.agg ((l.drop d).take n)) else none
   | none => l[d]?
  | _ => none
 | .build z ps => match buildC av (z.map cellAV) ps with
  | some l => some (.agg l)
  | none => none
 | .slc sz x lo hi mx =>
  match (match lo with | none => some 0 | some y => intOf' (av y)),(match hi with | none => some none | some y => (intOf' (av y)).map some),mx with
  | some l, some h, none => match av x with
   | .fz (.sl es) => let h':Int:=h.getD es.length
    if okSz sz es=true∧0≤l∧l≤h'∧h'≤es.length then some (.fz (.sl ((es.take h'.toNat).drop l.toNat))) else none
   | .emp => let h':Int:=h.getD 0
    if l=0∧h'=0 then some .emp else none
   | .osl b sz' off len => let h':Int:=h.getD len
    if sz'=sz∧0≤l∧l≤h'∧h'≤len then some (.osl b sz (off + l.toNat) (h' - l).toNat) else none
   | _ => none
  | some 0, some (some 0), some m => match av m with
   | .fz (.sc (.int _ 0)) => match av x with
    | .fz (.sl _) => some .emp
    | .emp => some .emp
    | _ => none
   | _ => none
  | _,_,_ => none
 | .slcs x lo hi =>
  match (match lo with | none => some 0 | some y => intOf' (av y)),(match hi with | none => some none | some y => (intOf' (av y)).map some) with
  | some l, some h => match av x with
   | .fz (.sc (.string s)) => let h':Int:=h.getD s.size
    if 0≤l∧l≤h'∧h'≤s.size then some (.fz (.sc (.string (s.extract l.toNat h'.toNat)))) else none
   | _ => none
  | _,_ => none
 | .ext x i => match av x with
  | .tup l => l[i]?
  | _ => none
 | .mkf f caps => some (.fn f (caps.map av))
 | .mki t x => match cellsOf (av x) with
  | some _ => some (.ifc t (av x))
  | none => none
 | .tas t z x => match av x with
  | .ifc t' y => if t'=t then some (.tup [y,.fz (.sc (.bool true))]) else some (.tup [.agg (z.map cellAV),.fz (.sc (.bool false))])
  | _ => none
 | .mkb f fst => some (.bm f (fst.map av))
 | .nilchk x => match av x with
  | .bp b o => some (.bp b o)
  | .ep b i f => some (.ep b i f)
  | .fp c f => some (.fp c f)
  | .fn f c => some (.fn f c)
  | .bm f c => some (.bm f c)
  | _ => none
 | _ => none
mutual
def AV.names:AV→List Nat
 | .agg l => AV.namesL l
 | .tup l => AV.namesL l
 | .osl b _ _ _ => [b]
 | .bp b _ => [b]
 | .ep b _ _ => [b]
 | .mp b => [b]
 | .fn _ l => AV.namesL l
 | .ifc _ x => AV.names x
 | .bm _ l => AV.namesL l
 | .yl b => [b]
 | _ => []
def AV.namesL:List AV→List Nat
 | [] => []
 | x :: r => AV.names x ++ AV.namesL r
end
mutual
def AV.ren (ρ:Nat→Option Nat):AV→AV
 | .agg l => .agg (AV.renL ρ l)
 | .tup l => .tup (AV.renL ρ l)
 | .osl b s o n => match ρ b with
  | some c => .osl c s o n
  | none => .dead
 | .bp b o => match ρ b with
  | some c => .bp c o
  | none => .dead
 | .ep b i f => match ρ b with
  | some c => .ep c i f
  | none => .dead
 | .fn f l => .fn f (AV.renL ρ l)
 | .dead => .dead
 | .fz x => .fz x
 | .fp c f => .fp c f
 | .emp => .emp
 | .err => .err
 | .own sz es => .own sz es
 | .mp b => match ρ b with
  | some c => .mp c
  | none => .dead
 | .ifc t x => .ifc t (AV.ren ρ x)
 | .bm f l => .bm f (AV.renL ρ l)
 | .yl b => match ρ b with
  | some c => .yl c
  | none => .dead
def AV.renL (ρ:Nat→Option Nat):List AV→List AV
 | [] => []
 | x :: r => AV.ren ρ x :: AV.renL ρ r
end
def AV.namesLL:List (List AV)→List Nat
 | [] => []
 | x :: r => AV.namesL x ++ AV.namesLL r
def AV.renLL (ρ:Nat→Option Nat):List (List AV)→List (List AV)
 | [] => []
 | x :: r => AV.renL ρ x :: AV.renLL ρ r
def Blk.names:Blk→List Nat
 | .box cs => AV.namesL cs
 | .arr _ _ => []
 | .row _ es => AV.namesLL es
 | .map _ _ => []
 | .iter mb _ _ _ => mb.toList
 | .loop _ caps _ => AV.namesL (caps.map (·.2))
 | .bld _ _ _ => []
def Blk.ren (ρ:Nat→Option Nat):Blk→Blk
 | .box cs => .box (AV.renL ρ cs)
 | .arr sz es => .arr sz es
 | .row sz es => .row sz (AV.renLL ρ es)
 | .map es c => .map es c
 | .iter mb s l a => .iter (mb.bind ρ) s l a
 | .loop pf caps st => .loop pf (caps.map fun p => (p.1,p.2.ren ρ)) st
 | .bld T U l => .bld T U l
def clos (hp:List (Nat × Option Blk)):Nat→List Nat→List Nat→List Nat
 | 0,_,acc => acc
 | _ + 1,[],acc => acc
 | n + 1,b :: r,acc => if acc.contains b then clos hp n r acc else match hk hp b with
  | none => clos hp n r acc
  | some blk => clos hp n (blk.names ++ r) (acc ++ [b])
def idx (ns:List Nat) (b:Nat):Option Nat :=
 match ns with
 | [] => none
 | c :: r => if c=b then some 0 else match idx r b with
  | some i => some (i + 1)
  | none => none
def blks (hp:List (Nat × Option Blk)) (ρ:Nat→Option Nat):List Nat→List (Option Blk)
 | [] => []
 | b :: r => (match hk hp b with
  | some blk => some (blk.ren ρ)
  | none => none) :: blks hp ρ r
def numd:Nat→List (Option Blk)→List (Nat × Option Blk)
 | _,[] => []
 | i,b :: r => (i,b) :: numd (i + 1) r
def argNames:Nat→List (Nat × Option Blk)→List Nat
 | 0,_ => []
 | n + 1,hp => argNames n hp ++ (match hk hp n with
  | some blk => blk.names
  | none => [])
def upTo:Nat→List Nat
 | 0 => []
 | n + 1 => upTo n ++ [n]
def norm (m:Nat) (live:List Nat) (st:St):St :=
 let ns:=clos st.hp 1000 (argNames m st.hp ++ AV.namesL (live.map (lk st.sl))) (upTo m)
 { sl:=live.map fun t => (t,(lk st.sl t).ren (idx ns)),hp:=numd 0 (blks st.hp (idx ns) ns),nx:=ns.length }
abbrev RF:=FuncId→List AV→List (Option Blk)→Option (AV × List (Option Blk))
def backName (ns:List Nat) (base j:Nat):Nat :=
 match ns[j]? with
 | some b => b
 | none => base + (j - ns.length)
def backHp (ns:List Nat) (base:Nat) (ρ:Nat→Option Nat):Nat→List (Option Blk)→HW
 | _,[] => []
 | j,b :: r => (backName ns base j,match b with
  | some blk => some (blk.ren ρ)
  | none => none) :: backHp ns base ρ (j + 1) r
def callOp (rf:RF) (f:FuncId) (xs:List AV) (st:St):Option (AV × HW × Nat) :=
 let ns:=clos st.hp 1000 (AV.namesL xs) []
 match rf f (AV.renL (idx ns) xs) (blks st.hp (idx ns) ns) with
 | some (r,bl) =>
  let ρ:=fun j => some (backName ns st.nx j)
  some (r.ren ρ,backHp ns st.nx ρ 0 bl,bl.length - ns.length)
 | none => none
def bslGo (sz : Nat) (av : LX → AV) (hp : HW) (es : List (List FV)) : List (Nat × LX) → Option (List (List FV) × HW)
 | [] => some (es,[])
 | (i, x) :: r => match cellsOf (av x) with
  | some l => match toFVs hp l with
   | some (ys,w1) => if ys.length=sz∧i < es.length then match bslGo sz av (w1 ++ hp) (es.set i ys) r with
    | some (es2,w2) => some (es2,w2 ++ w1)
    | none => none
    else none
   | none => none
  | none => none
def bslGoR (sz:Nat) (av:LX→AV) (es:List (List AV)):List (Nat × LX)→Option (List (List AV))
 | [] => some es
 | (i,x) :: r => match cellsOf (av x) with
  | some l => if l.length=sz∧l.all leaf=true∧i < es.length then bslGoR sz av (es.set i l) r else none
  | none => none
def isRow (hp:HW):AV→Option (Nat × List (List AV))
 | .osl b _ _ _ => match hk hp b with
  | some (.row _ es) => some (b,es)
  | _ => none
 | _ => none
def rowApp (sz bytes nm : Nat) (hp : HW) (s x : AV) (bx : Nat) (er : List (List AV)) : Option (AV × HW × Nat) :=
 match x with
 | .osl _ szx offx lenx => if szx = sz ∧ offx = 0 ∧ lenx = er.length then match s with
  | .emp => if er.length * bytes≤140737488355328 then some (.osl nm sz 0 er.length,[(nm,some (.row sz er)),(bx,none)],0) else none
  | .osl b sz' off len => match hk hp b with
   | some (.row _ es) => if sz'=sz∧off=0∧len≤es.length∧b≠bx∧(len + er.length) * bytes≤140737488355328 then
    some (.osl nm sz 0 (len + er.length),[(nm,some (.row sz (es.take len ++ er))),(b,none),(bx,none)],0) else none
   | _ => none
  | _ => none
  else none
 | _ => none
def plainV:Value→Bool
 | .int _ _ => true
 | .bool _ => true
 | .string _ => true
 | _ => false
def plainC:AV→Bool
 | .fz (.sc v) => plainV v
 | .fz (.sl es) => es.isEmpty
 | .emp => true
 | .err => true
 | _ => false
def plainA:AV→Bool
 | .agg l => l.all plainC
 | x => plainC x
def plainR:AV→Bool
 | .tup l => l.all plainA
 | x => plainA x
def lendC (hp:HW):AV→Option AV
 | .fz x => some (.fz x)
 | .emp => some (.fz (.sl []))
 | .fn f [] => some (.fn f [])
 | .osl b sz off len => match hk hp b with
  | some (.row sz2 es) => if sz2=sz∧off=0∧len=es.length then (rowF es).map fun l => .fz (.sl l) else none
  | _ => (rdArr hp sz (.osl b sz off len)).map fun l => .fz (.sl l)
 | _ => none
def lendCs (hp:HW):List AV→Option (List AV)
 | [] => some []
 | x :: r => match lendC hp x,lendCs hp r with
  | some y,some l => some (y :: l)
  | _,_ => none
def lendA (hp:HW):AV→Option AV
 | .agg l => (lendCs hp l).map .agg
 | x => lendC hp x
def lendAs (hp:HW):List AV→Option (List AV)
 | [] => some []
 | x :: r => match lendA hp x,lendAs hp r with
  | some y,some l => some (y :: l)
  | _,_ => none
def loadC (ag:Option Nat) (cs:List AV) (o:Nat):Option AV :=
 match ag with
 | some n => if o + n≤cs.length then some (.agg ((cs.drop o).take n)) else none
 | none => cs[o]?
def boxFV:List AV→Option (List (List FV))
 | [] => some []
 | .fz x :: r => match boxFV r with
  | some l => some ([x] :: l)
  | none => none
 | _ => none
def loI (av:LX→AV):Option LX→Option Int
 | none => some 0
 | some y => intOf' (av y)
def hiI (av:LX→AV) (n:Nat):Option LX→Option Int
 | none => some n
 | some y => intOf' (av y)
def findM (k:Nat) (key:Value):List (Nat × Value × FV)→Nat→Option (Option (Nat × FV))
 | [],_ => some none
 | p :: r,i => match eqK k key p.2.1 with
  | some true => some (some (i,p.2.2))
  | some false => findM k key r (i + 1)
  | none => none
def outM:FV→AV
 | .sc (.func (.func f) ⟨[]⟩ ⟨[]⟩) => .fn f []
 | x => .fz x
def zeroM:List Value→Option AV
 | [v] => some (cellAV v)
 | _ => none
def keyV:Nat→AV→Option Value
 | 3,.agg [.fz (.sc (.int .i64 a)),.fz (.sc (.int .i64 b))] => some (.agg ⟨[.int .i64 a,.int .i64 b]⟩)
 | 3,_ => none
 | _,.fz (.sc v) => some v
 | _,_ => none
def keyA:Value→AV
 | .agg ⟨[.int .i64 a,.int .i64 b]⟩ => .agg [.fz (.sc (.int .i64 a)),.fz (.sc (.int .i64 b))]
 | v => .fz (.sc v)
def keyOk:Value→Bool
 | .agg ⟨[.int .i64 _,.int .i64 _]⟩ => true
 | v => leafV v
def exAV:Ex→AV
 | .nor => .tup []
 | .exit i => .tup [.fz (.sc (.int .i64 i))]
 | .ret => .tup [.fz (.sc (.bool true))]
def avEx:AV→Option (Option Ex)
 | .tup [] => some none
 | .tup [.fz (.sc (.int .i64 i))] => if 0≤i then some (some (.exit i.toNat)) else none
 | .tup [.fz (.sc (.bool true))] => some (some .ret)
 | _ => none
def capE (caps:List (Nat × AV)):AV:=.tup (caps.map fun p => .bm p.1 [p.2])
def yldOp (rf:RF) (b:Nat) (xs:List AV) (st:St):Option (AV × HW × Nat) :=
 match hk st.hp b with
 | some (.loop pf caps none) => match callOp rf pf (capE caps :: xs) { st with hp := (b, none) :: st.hp } with
  | some (r,ws,nn) => match avEx r with
   | some ex => some (.fz (.sc (.bool ex.isNone)),ws ++ [(b,some (.loop pf caps ex))],nn)
   | none => none
  | none => none
 | _ => none
def callV (rf:RF) (f:AV) (xs:List AV) (st:St):Option (AV × HW × Nat):=match f with
 | .fn g caps => if g < 4096 then callOp rf g (xs ++ caps) st else none
 | .bm g fst => if g < 4096 then callOp rf g (fst ++ xs) st else none
 | .yl b => yldOp rf b xs st
 | _ => none
def lkT:List (TypeId × FuncId)→TypeId→Option FuncId
 | [],_ => none
 | (t,f) :: r,u => if t=u then some f else lkT r u
def heapOp (rf : RF) (av : LX → AV) (nm : Nat) (st : St) : LOp → Option (AV × HW × Nat)
 | .alloc z => some (.bp nm 0,[(nm,some (.box (z.map cellAV)))],0)
 | .abld T U => some (.bp nm 0,[(nm,some (.bld T U []))],0)
 | .box x => match cellsOf (av x) with
  | some l => some (.bp nm 0,[(nm,some (.box l))],0)
  | none => none
 | .load ag p => match av p with
  | .bp b o => match hk st.hp b with
   | some (.box cs) => match loadC ag cs o with
    | some x => some (x,[],0)
    | none => none
   | _ => none
  | .ep b i f => match hk st.hp b with
   | some (.arr _ es) => match es[i]? with
    | some c => match loadC ag (c.map .fz) f with
     | some x => some (x,[],0)
     | none => none
    | none => none
   | some (.row _ es) => match es[i]? with
    | some c => match loadC ag c f with
     | some x => if okLoad x=true then some (x,[],0) else none
     | none => none
    | none => none
   | _ => none
  | .fp c f => match loadC ag (c.map .fz) f with
   | some x => some (x,[],0)
   | none => none
  | _ => none
 | .loadr p => match av p with
  | .ep b i f => match hk st.hp b with
   | some (.row sz es) => match es[i]? with
    | some c => match c[f]? with
     | some (.own sz' ys) => some (.osl nm sz' 0 ys.length,[(nm,some (.arr sz' ys)),(b,some (.row sz (es.set i (c.set f (.osl nm sz' 0 ys.length)))))],0)
     | some x => if okLoad x=true then some (x,[],0) else none
     | none => none
    | none => none
   | _ => none
  | _ => none
 | .store n p x => match cellsOf (av x) with
  | some l => if l.length = n ∧ l.all leaf = true then match av p with
   | .bp b o => match hk st.hp b with
    | some (.box cs) => if o + n≤cs.length then some (.dead,[(b,some (.box (setAt cs o l)))],0) else none
    | _ => none
   | .ep b i f => match hk st.hp b with
    | some (.row sz es) => match es[i]? with
     | some c => if 0 < n∧f + n≤c.length then some (.dead,[(b,some (.row sz (es.set i (setAt c f l))))],0) else none
     | none => none
    | _ => match toFVs st.hp l with
     | some (ys, w1) => match hk (w1 ++ st.hp) b with
      | some (.arr sz es) => match es[i]? with
       | some c => if 0 < n∧f + n≤c.length then some (.dead,(b,some (.arr sz (es.set i (setAt c f ys)))) :: w1,0) else none
       | none => none
      | _ => none
     | none => none
   | _ => none
   else none
  | none => none
 | .bsl sz z len ps =>
  match bslGo sz av st.hp (List.replicate len (z.map cellFV)) ps with
  | some (es,w1) => some (.osl nm sz 0 len,(nm,some (.arr sz es)) :: w1,0)
  | none => none
 | .mks sz bytes z l c => match av l, av c with
  | .fz (.sc (.int _ n)),.fz (.sc (.int _ m)) => if 0≤n∧n≤m∧bytes * m≤281474976710656 then
   some (.osl nm sz 0 n.toNat,[(nm,some (.arr sz (List.replicate n.toNat (z.map cellFV))))],0) else none
  | _,_ => none
 | .bslr sz z len ps => match bslGoR sz av (List.replicate len (z.map cellAV)) ps with
  | some es => some (.osl nm sz 0 len,[(nm,some (.row sz es))],0)
  | none => none
 | .mksr sz bytes z l c => match av l, av c with
  | .fz (.sc (.int _ n)),.fz (.sc (.int _ m)) => if 0≤n∧n≤m∧bytes * m≤281474976710656 then
   some (.osl nm sz 0 n.toNat,[(nm,some (.row sz (List.replicate n.toNat (z.map cellAV))))],0) else none
  | _,_ => none
 | .lcall f xs => match av f with
  | .fn g [] => match lendAs st.hp (xs.map av) with
   | some ys => match if g < 4096 then rf g ys [] else none with
    | some (r,[]) => if plainR r=true then some (r,[],0) else none
    | _ => none
   | none => none
  | _ => none
 | .app sz bytes str s x => match isRow st.hp (av x) with
  | some (bx,er) => if str then none else rowApp sz bytes nm st.hp (av s) (av x) bx er
  | none => match (if str then (match av x with
   | .fz (.sc (.string q)) => some (bytesFV q)
   | _ => none) else rdArr st.hp sz (av x)) with
   | some ex =>
    match av s with
    | .emp => if ex.length * bytes≤140737488355328 then some (.osl nm sz 0 ex.length,[(nm,some (.arr sz ex))],0) else none
    | .osl b sz' off len => match rdArr st.hp sz (.osl b sz' off len) with
     | some es => if (es.length + ex.length) * bytes≤140737488355328 then some (.osl nm sz 0 (es.length + ex.length),[(nm,some (.arr sz (es ++ ex))),(b,none)],0) else none
     | none => none
    | _ => none
   | none => none
 | .cpy sz d x => match rdArr st.hp sz (av x) with
  | some ex => match av d with
   | .osl b sz' off len => match hk st.hp b with
    | some (.arr sz2 es) => if sz'=sz∧sz2=sz∧off + len≤es.length then
     some (.fz (.sc (.int .i64 (min ex.length len:Nat))),[(b,some (.arr sz (setAt es off (ex.take (min ex.length len)))))],0) else none
    | _ => none
   | _ => none
  | none => none
 | .clr sz z x => match av x with
  | .osl b sz' off len => match hk st.hp b with
   | some (.arr sz2 es) => if sz'=sz∧sz2=sz∧off + len≤es.length then some (.dead,[(b,some (.arr sz (setAt es off (List.replicate len (z.map cellFV)))))],0) else none
   | _ => none
  | _ => none
 | .s2b x => match av x with
  | .fz (.sc (.string s)) => some (.osl nm 1 0 s.size,[(nm,some (.arr 1 (bytesFV s)))],0)
  | _ => none
 | .b2s x => match rdArr st.hp 1 (av x) with
  | some es => match bytesOf' es with
   | some l => some (.fz (.sc (.string ⟨l.toArray⟩)),[],0)
   | none => none
  | none => none
 | .cv2 x => match av x with
  | .osl b sz off len => match hk st.hp b with
   | some (.arr _ _) => if 0 < len then some (.osl b sz off len,[],0) else none
   | _ => none
  | _ => none
 | .slca n x lo hi => match loI av lo, hiI av n hi with
  | some l, some h => match av x with
   | .bp b 0 => match hk st.hp b with
    | some (.box cs) => match boxFV cs with
     | some es => if cs.length=n∧0≤l∧l≤h∧h≤n then some (.osl nm 1 l.toNat (h - l).toNat,[(nm,some (.arr 1 es)),(b,none)],0) else none
     | none => none
    | _ => none
   | _ => none
  | _,_ => none
 | .call f xs => callV rf (av f) (xs.map av) st
 | .inv tb x xs => match av x with
  | .ifc t y => match lkT tb t with
   | some g => callOp rf g (y :: xs.map av) st
   | none => none
  | _ => none
 | .mdel k m key => match av m, keyV k (av key) with
  | .mp b, some kv => match hk st.hp b with
   | some (.map es c) => match findM k kv es 0 with
    | some (some (i,_)) => some (.dead,[(b,some (.map (es.eraseIdx i) c))],0)
    | some none => some (.dead,[(b,some (.map es c))],0)
    | none => none
   | _ => none
  | _,_ => none
 | .mkm => some (.mp nm,[(nm,some (.map [] 0))],0)
 | .mset k m key x => match av m, keyV k (av key) with
  | .mp b, some kv => match hk st.hp b with
   | some (.map es c) => match toFV st.hp (av x) with
    | some (y,[]) => match findM k kv es 0 with
     | some (some (i,_)) => some (.dead,[(b,some (.map (es.modify i fun p => (p.1,kv,y)) c))],0)
     | some none => some (.dead,[(b,some (.map (es ++ [(c,kv,y)]) (c + 1)))],0)
     | none => none
    | _ => none
   | _ => none
  | _,_ => none
 | .mget k z comma m key => match av m, keyV k (av key) with
  | .mp b, some kv => match hk st.hp b with
   | some (.map es _) => match findM k kv es 0 with
    | some (some (_,y)) => some (if comma then .tup [outM y,.fz (.sc (.bool true))] else outM y,[],0)
    | some none => match zeroM z with
     | some y => some (if comma then .tup [y,.fz (.sc (.bool false))] else y,[],0)
     | none => none
    | none => none
   | _ => none
  | _,_ => none
 | .mrng m => match av m with
  | .mp b => match hk st.hp b with
   | some (.map es c) => if (es.map (·.1)).Nodup∧(es.all fun p => decide (p.1 < c))=true then some (.bp nm 0,[(nm,some (.iter (some b) c [] c))],0) else none
   | _ => none
  | _ => none
 | .ment it => match av it with
  | .bp b 0 => match hk st.hp b with
   | some (.iter (some mb) _ seen last) => match hk st.hp mb with
    | some (.map es c) => if c = last then match seen.getLast? with
     | some born => match es.find? (fun p => p.1 == born) with
      | some p => if keyOk p.2.1=true then some (.tup [keyA p.2.1,outM p.2.2],[],0) else none
      | none => none
     | none => none
     else none
    | _ => none
   | _ => none
  | _ => none
 | _ => none
def LOp.isHeap:LOp→Bool
 | .alloc _ | .abld _ _ | .box _ | .load _ _ | .store _ _ _ | .bsl _ _ _ _ | .mks _ _ _ _ _ | .app _ _ _ _ _ | .cpy _ _ _ | .clr _ _ _ | .s2b _ | .b2s _ | .cv2 _ | .slca _ _ _ _ | .call _ _ | .mkm | .mset _ _ _ _ | .mget _ _ _ _ _ | .mrng _ | .ment _ | .loadr _ | .bslr _ _ _ _ | .mksr _ _ _ _ _ | .lcall _ _ | .mdel _ _ _ | .inv _ _ _ => true
 | _ => false
def putD (d:Option Nat) (v:AV) (sl:List (Nat × AV)):List (Nat × AV) :=
 match d with
 | some t => (t,v) :: sl
 | none => sl
def coreOp (G:Nat→Option (List FV)) (rf:RF) (o:LOper) (nm:Nat) (st:St):Option (AV × HW × Nat) :=
 let run:Option (AV × HW × Nat) :=
  if o.op.isHeap then heapOp rf (LX.av G st.sl) nm st o.op
  else match pureOp (LX.av G st.sl) o.op with
   | some v => some (v,[],0)
   | none => none
 match o.gd with
 | none => run
 | some (g,want) => match lk st.sl g with
  | .fz (.sc (.bool b)) => if b=want then run else some (.tup [],[],0)
  | .tup [] => some (.tup [],[],0)
  | _ => none
def St.put (st:St) (d:Option Nat) (p:AV × HW × Nat):St:={ sl:=putD d p.1 st.sl,hp:=p.2.1 ++ st.hp,nx:=st.nx + p.2.2 }
def stepOp (G:Nat→Option (List FV)) (rf:RF) (o:LOper) (nm:Nat) (st:St):Option St :=
 match coreOp G rf o nm st with
 | some p => some (st.put o.dst p)
 | none => none
def stepOps (G:Nat→Option (List FV)) (rf:RF):List LOper→Nat→St→Option St
 | [],_,st => some st
 | o :: r,nm,st => match stepOp G rf o nm st with
  | some st1 => stepOps G rf r (nm + 1) st1
  | none => none
def runOps (G:Nat→Option (List FV)) (rf:RF) (l:List LOper) (st:St):Option St :=
 stepOps G rf l st.nx { st with nx:=st.nx + l.length }
def touchA (st:St) (xs:List AV):List Nat :=
 let ns:=clos st.hp 1000 (AV.namesL xs) []
 AV.namesL xs ++ ns ++ ns.flatMap fun b => match hk st.hp b with
  | some blk => blk.names
  | none => []
def touch (av:LX→AV) (nm:Nat) (st:St):LOp→List Nat
 | .alloc _ => [nm]
 | .abld _ _ => [nm]
 | .box _ => [nm]
 | .loadr p => nm :: (av p).names
 | .bslr _ _ _ _ => [nm]
 | .mksr _ _ _ _ _ => [nm]
 | .lcall _ xs => AV.namesL (xs.map av)
 | .load _ p => (av p).names
 | .store _ p x => (av p).names ++ (match av p with
  | .bp _ _ => []
  | _ => (av x).names)
 | .bsl _ _ _ ps => nm :: AV.namesL (ps.map fun p => av p.2)
 | .mks _ _ _ _ _ => [nm]
 | .app _ _ _ s x => nm :: ((av s).names ++ (av x).names)
 | .cpy _ d x => (av d).names ++ (av x).names
 | .clr _ _ x => (av x).names
 | .s2b _ => [nm]
 | .b2s x => (av x).names
 | .cv2 x => (av x).names
 | .slca _ x _ _ => nm :: (av x).names
 | .call f xs => match av f with
  | .fn g caps => touchA st (xs.map av ++ caps)
  | .bm g fst => touchA st (fst ++ xs.map av)
  | .yl b => b :: touchA { st with hp:=(b,none) :: st.hp } ((match hk st.hp b with
   | some (.loop _ caps _) => capE caps
   | _ => .dead) :: xs.map av)
  | _ => []
 | .inv tb x xs => match av x with
  | .ifc t y => touchA st (y :: xs.map av)
  | _ => []
 | .mdel _ m _ => (av m).names
 | .mkm => [nm]
 | .mset _ m _ x => (av m).names ++ (av x).names
 | .mget _ _ _ m _ => (av m).names
 | .mrng m => nm :: (av m).names
 | .ment it => (av it).names ++ (match av it with
  | .bp b 0 => match hk st.hp b with
   | some (.iter (some mb) _ _ _) => [mb]
   | _ => []
  | _ => [])
 | _ => []
def disj (a b:List Nat):Bool:=a.all fun x => !b.contains x
def drawOps (G:Nat→Option (List FV)) (rf:RF) (prs:List (Nat × Nat)):List LOper→Nat→Nat→St→Option (St × List (Nat × List Nat))
 | [],_,_,st => some (st,[])
 | o :: r, i, nm, st => match coreOp G rf o nm st with
  | some p => match drawOps G rf prs r (i + 1) (nm + 1) (st.put o.dst p) with
   | some (s,fs) => some (s,if prs.any (fun p => p.1 == i || p.2 == i) then (i,touch (LX.av G st.sl) nm st o.op ++ List.range' st.nx p.2.2) :: fs else fs)
   | none => none
  | none => none
def footOf (fs:List (Nat × List Nat)) (i:Nat):List Nat :=
 match fs with
 | [] => []
 | (j,l) :: r => if j=i then l else footOf r i
def runDraw (G:Nat→Option (List FV)) (rf:RF) (l:List LOper) (prs:List (Nat × Nat)) (st:St):Option St :=
 match drawOps G rf prs l 0 st.nx { st with nx:=st.nx + l.length } with
 | some (s,fs) => if prs.all (fun p => disj (footOf fs p.1) (footOf fs p.2)) then some s else none
 | none => none
def coAV (z:Option Nat) (nm:Nat) (hp:HW) (x:AV):AV × HW × Nat :=
 match z with
 | some sz => match x with
  | .emp => (.osl nm sz 0 0,[(nm,some (.arr sz []))],1)
  | .osl b sz' off len => match rdArr hp sz (.osl b sz' off len) with
   | some es => (.osl nm sz 0 len,[(nm,some (.arr sz es)),(b,none)],1)
   | none => (x,[],0)
  | x => (x,[],0)
 | none => match x with
  | .emp => (.fz (.sl []),[],0)
  | .osl b sz off len => match rdArr hp sz (.osl b sz off len) with
   | some es => (.fz (.sl es),[(b,none)],0)
   | none => (x,[],0)
  | x => (x,[],0)
def pthAV (st:St):Pth→AV
 | .tm t => lk st.sl t
 | .cell t i => match lk st.sl t with
  | .agg l => (l[i]?).getD .dead
  | _ => .dead
 | .bx t i => match lk st.sl t with
  | .bp b o => match hk st.hp b with
   | some (.box cs) => (cs[o + i]?).getD .dead
   | _ => .dead
  | _ => .dead
def attI (st:St) (off n:Nat):Option Nat→Option Nat
 | some t => (intOf' (lk st.sl t)).map fun i => off + i.toNat
 | none => some (n - 1)
def attC (b sz:Nat) (hp:HW) (x:AV):Option (AV × HW):=match x with
 | .emp => some (.own sz [],[])
 | .osl nm sz' o len => if sz'=sz∧nm≠b then match rdArr hp sz (.osl nm sz' o len) with
  | some ys => some (.own sz ys,[(nm,none)])
  | none => none
  else none
 | _ => none
def ownEC (f sz:Nat) (c:List AV):List AV:=match c[f]? with
 | some .emp => c.set f (.own sz [])
 | _ => c
def coHp (st : St) : Co → HW
 | .att p f sz ti => match pthAV st p with
  | .osl b _ off _ => match hk st.hp b with
   | some (.row szr es) => match attI st off es.length ti with
    | some i => match es[i]? with
     | some c => match c[f]? with
      | some x => match attC b sz st.hp x with
       | some (y,w) => (b,some (.row szr (es.set i (c.set f y)))) :: w
       | none => []
      | none => []
     | none => []
    | none => []
   | _ => []
  | _ => []
 | .ownE p f sz => match pthAV st p with
  | .osl b _ _ _ => match hk st.hp b with
   | some (.row szr es) => [(b,some (.row szr (es.map (ownEC f sz))))]
   | _ => []
  | _ => []
 | .arz p => match pthAV st p with
  | .osl b _ _ _ => match hk st.hp b with
   | some (.row szr es) => match rowF es with
    | some l => [(b,some (.arr szr l))]
    | none => []
   | _ => []
  | _ => []
 | .rz p => match pthAV st p with
  | .osl b _ _ _ => match hk st.hp b with
   | some (.arr szr es) => [(b,some (.row szr (es.map fun c => c.map .fz)))]
   | _ => []
  | _ => []
 | _ => []
def coSt (st : St) : Co → St
 | .tmp t z => let p:=coAV z st.nx st.hp (lk st.sl t)
  { sl:=(t,p.1) :: st.sl,hp:=p.2.1 ++ st.hp,nx:=st.nx + p.2.2 }
 | .cell t i z => match lk st.sl t with
  | .agg l => match l[i]? with
   | some x => let p:=coAV z st.nx st.hp x
    { sl:=(t,.agg (l.set i p.1)) :: st.sl,hp:=p.2.1 ++ st.hp,nx:=st.nx + p.2.2 }
   | none => st
  | _ => st
 | .bx t i z => match lk st.sl t with
  | .bp b o => match hk st.hp b with
   | some (.box cs) => match cs[o + i]? with
    | some x => let p:=coAV z st.nx st.hp x
     { sl:=st.sl,hp:=(b,some (.box (cs.set (o + i) p.1))) :: (p.2.1 ++ st.hp),nx:=st.nx + p.2.2 }
    | none => st
   | _ => st
  | _ => st
 | .rowop _ => st
 | .lend _ => st
 | c => { sl:=st.sl,hp:=coHp st c ++ st.hp,nx:=st.nx }
def coSts:List Co→St→St
 | [],st => st
 | c :: r,st => coSts r (coSt st c)
structure RHead where
 bi:Nat
 mb:Nat
 since:Nat
 seen:List Nat
 es:List (Nat × Value × FV)
 c:Nat
def rngHead (st:St) (it:Nat):Option RHead :=
 match lk st.sl it with
 | .bp bi 0 => match hk st.hp bi with
  | some (.iter (some mb) since seen last) => match hk st.hp mb with
   | some (.map es c) => if since≤last∧(es.all fun p => decide (p.1 < since) && keyOk p.2.1)=true then some ⟨bi,mb,since,seen,es,c⟩ else none
   | _ => none
  | _ => none
 | _ => none
def RHead.left (h:RHead):List (Nat × Value × FV):=h.es.filter fun p => !h.seen.contains p.1
def rngOver (s:St) (nx more:Nat):St:={ s with sl:=(more,.fz (.sc (.bool false))) :: (nx,.tup [.fz (.sc (.bool false))]) :: s.sl }
def rngTake (s:St) (nx more:Nat) (h:RHead) (p:Nat × Value × FV):St :=
 { s with sl:=(more,.fz (.sc (.bool true))) :: (nx,.tup [.fz (.sc (.bool true)),keyA p.2.1,outM p.2.2]) :: s.sl,hp:=(h.bi,some (.iter (some h.mb) h.since (h.seen ++ [p.1]) h.c)) :: s.hp }
def rngR (m:Nat) (live:List Nat) (nx more it:Nat) (step fin:St→Option (Ex × St)):Nat→St→Ex × St→Prop
 | 0,_,_ => False
 | n + 1,st,r => ∃ h,rngHead (norm m live st) it=some h ∧
  (h.left=[]→fin (rngOver (norm m live st) nx more)=some r) ∧
  (∀ p,p∈h.left→∃ s1,step (rngTake (norm m live st) nx more h p)=some (.nor,s1)∧rngR m live nx more it step fin n s1 r)
open Classical in
noncomputable def rngO (R:Ex × St→Prop):Option (Ex × St):=if h : ∃ r,R r then some (Classical.choose h) else none
def finR (m:Nat) (live2:List Nat):Option (Ex × St)→Option (Ex × St)
 | some (e,s) => some (e,norm m live2 s)
 | none => none
def itOk (its:List FuncId):AV→Bool
 | .fn f _ => its.contains f
 | _ => false
def rfnOp (G:Nat→Option (List FV)) (rf:RF) (g:LX) (pf:FuncId) (caps:List Nat) (its:List FuncId) (st:St):Option (Ex × St) :=
 match if itOk its (LX.av G st.sl g)=true then callV rf (LX.av G st.sl g) [.yl st.nx] { sl:=st.sl,hp:=(st.nx,some (.loop pf (caps.map fun t => (t,lk st.sl t)) none)) :: st.hp,nx:=st.nx + 1 } else none with
 | some (_,ws,nn) => match hk (ws ++ (st.nx,some (.loop pf (caps.map fun t => (t,lk st.sl t)) none)) :: st.hp) st.nx with
  | some (.loop _ _ ex) => some (ex.getD .nor,{ sl:=st.sl,hp:=(st.nx,none) :: (ws ++ (st.nx,some (.loop pf (caps.map fun t => (t,lk st.sl t)) none)) :: st.hp),nx:=st.nx + 1 + nn })
  | _ => none
 | none => none
noncomputable def exec (G:Nat→Option (List FV)) (rf:RF) (m:Nat):Nat→LCode→St→Option (Ex × St)
 | 0,_,_ => none
 | _ + 1,.skip,st => some (.nor,st)
 | n + 1,.pre cs c,st => exec G rf m n c (coSts cs st)
 | _ + 1,.ops l,st => match runOps G rf l st with
  | some s => some (.nor,s)
  | none => none
 | _ + 1,.draw l prs,st => match runDraw G rf l prs st with
  | some s => some (.nor,s)
  | none => none
 | n + 1,.seq a b,st => match exec G rf m n a st with
  | some (.nor,s) => exec G rf m n b s
  | r => r
 | n + 1,.cond c a b,st => match LX.av G st.sl c with
  | .fz (.sc (.bool t)) => if t then exec G rf m n a st else exec G rf m n b st
  | _ => none
 | n + 1,.block id b,st => match exec G rf m n b st with
  | some (.exit i,s) => if i=id then some (.nor,s) else some (.exit i,s)
  | r => r
 | n + 1,.loop live b,st => match exec G rf m n b (norm m live st) with
  | some (.nor,s) => exec G rf m n (.loop live b) s
  | r => r
 | n + 1,.rng live nx more it _ b k live2,st => rngO (rngR m live nx more it (fun s => exec G rf m n b s) (fun s => finR m live2 (exec G rf m n k s)) n st)
 | _ + 1,.rfn g pf caps its,st => rfnOp G rf g pf caps its st
 | _ + 1,.exit id,st => some (.exit id,st)
 | _ + 1,.ret,st => some (.ret,st)
 | _ + 1,.bad,_ => none
def resOf (st : St) : LRes → Option AV
 | .t n => some (lk st.sl n)
 | .cell n ag => match lk st.sl n with
  | .bp b o => match hk st.hp b with
   | some (.box cs) => match ag with
    | some n => if o + n≤cs.length then some (.agg ((cs.drop o).take n)) else none
    | none => cs[o]?
   | _ => none
  | _ => none
def resL (st:St):List LRes→Option (List AV)
 | [] => some []
 | r :: l => match resOf st r,resL st l with
  | some x,some y => some (x :: y)
  | _,_ => none
def fro1 (m:Nat) (hp:HW) (x:AV):AV × HW :=
 match x with
 | .osl b sz off len => if b < m then (x,hp) else match rdArr hp sz (.osl b sz off len) with
  | some es => (.fz (.sl es),(b,none) :: hp)
  | none => (x,hp)
 | .emp => (.fz (.sl []),hp)
 | _ => (x,hp)
def froC (m:Nat) (hp:HW):List AV→List AV × HW
 | [] => ([],hp)
 | x :: r => ((fro1 m hp x).1 :: (froC m (fro1 m hp x).2 r).1,(froC m (fro1 m hp x).2 r).2)
def froA (m:Nat) (hp:HW) (x:AV):AV × HW :=
 match x with
 | .agg l => (.agg (froC m hp l).1,(froC m hp l).2)
 | x => fro1 m hp x
def froL (m:Nat) (hp:HW):List AV→List AV × HW
 | [] => ([],hp)
 | x :: r => ((froA m hp x).1 :: (froL m (froA m hp x).2 r).1,(froL m (froA m hp x).2 r).2)
def slots0:Nat→List AV→List (Nat × AV)
 | _,[] => []
 | i,x :: r => (i,x) :: slots0 (i + 1) r
def tupOf:List AV→AV
 | [x] => x
 | l => .tup l
def finish (L:LFunc) (m:Nat) (st:St):Option (AV × List (Option Blk)) :=
 match resL st L.res with
 | some l =>
  let p:=if L.own then (l,st.hp) else froL m st.hp l
  let r:=tupOf p.1
  let ns:=clos p.2 1000 (argNames m p.2 ++ r.names) (upTo m)
  some (r.ren (idx ns),blks p.2 (idx ns) ns)
 | none => none
def finishR (L:LFunc) (m:Nat) (e:Ex) (st:St):AV × List (Option Blk) :=
 let ns:=clos st.hp 1000 (argNames m st.hp) (upTo m)
 (exAV e,blks st.hp (idx ns) ns)
def capsP (ps:List Nat):List AV→Option (List (Nat × AV))
 | [] => some []
 | .bm t [x] :: r => if ps.contains t then none else match capsP ps r with
  | some l => some ((t,x) :: l)
  | none => none
 | _ => none
def slotsP (ps:List Nat):List AV→Option (List (Nat × AV))
 | .tup l :: xs => if xs.length=ps.length then match capsP ps l with
  | some cl => some (cl ++ ps.zip xs)
  | none => none
  else none
 | _ => none
noncomputable def runN (G:Nat→Option (List FV)) (T:FuncId→Option LFunc) (E:RF):Nat→RF
 | 0,_,_,_ => none
 | n + 1, f, xs, bl => match T f with
  | some L => match L.prm with
   | none => match exec G (runN G T E n) bl.length n L.body (coSts L.ent { sl:=slots0 0 xs,hp:=numd 0 bl,nx:=bl.length }) with
    | some (.nor,st) => finish L bl.length (coSts L.fin st)
    | some (.ret,st) => finish L bl.length (coSts L.fin st)
    | _ => none
   | some ps => match slotsP ps xs with
    | some sl => match exec G (runN G T E n) bl.length n L.body (coSts L.ent { sl:=sl,hp:=numd 0 bl,nx:=bl.length }) with
     | some (ex,st) => some (finishR L bl.length ex (coSts L.fin st))
     | none => none
    | none => none
  | none => E f xs bl
end Go.Vai
