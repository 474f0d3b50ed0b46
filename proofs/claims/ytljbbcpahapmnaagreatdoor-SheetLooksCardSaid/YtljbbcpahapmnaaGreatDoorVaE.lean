/-
  A part of the abstract run of Go functions and of the proof that it tells the truth.
-/
import Derived.Test.YtljbbcpahapmnaaGreatDoorVaD
set_option linter.unusedVariables false
set_option linter.unusedSimpArgs false
namespace Go.Vai
variable {P:Program} {C:Ctx} {σ:Nat→Option Loc} {w:World} {hp:HW} {a:Act} {nm:Nat} {sl:List (Nat × AV)}
theorem run_choose_cap (need old:Nat) (e:TypeId) (w:World) : ∃ n,need≤n∧(choose (.appendCap need old e)).run P w=.ok n { w with drawn:=w.drawn + 1 }:=by
 refine ⟨need + (w.tape w.drawn (.appendCap need old e)) % (2 ^ 63 - need),Nat.le_add_right _ _,?_⟩
 simp [choose,Sem.run,Question.forced,Question.cut]
theorem flat_bytes {h:PH} (s:ByteArray):FlatR h 1 (bytesFV s) (s.data.toList.map fun b => Value.int .u8 b.toNat):=by
 refine ⟨by simp [bytesFV],fun i c e => ?_,fun i c j x e1 e2 => ?_⟩
 ·simp only [bytesFV,List.getElem?_map] at e
  obtain ⟨b,_,rfl⟩:=Option.map_eq_some_iff.1 e
  rfl
 ·simp only [bytesFV,List.getElem?_map] at e1
  obtain ⟨b,hb,rfl⟩:=Option.map_eq_some_iff.1 e1
  cases j with
  | zero =>
   simp at e2
   subst e2
   refine ⟨.int .u8 b.toNat,?_,.sc _ rfl⟩
   simp [hb]
  | succ j => simp at e2
theorem alloc_set {w:World} {o o':Obj}:World.setBlock (w.alloc o) w.heap.size o'=w.alloc o':=by
 have:(w.heap.push o).setIfInBounds w.heap.size o'=w.heap.push o':=by
  apply Array.ext_getElem?
  intro i
  rw [Array.getElem?_setIfInBounds,Array.getElem?_push,Array.getElem?_push]
  by_cases h:i=w.heap.size
  ·subst h; simp
  ·rw [if_neg (fun e => h e.symm),if_neg h,if_neg h]
 show ({ w with heap:=(w.heap.push o).setIfInBounds w.heap.size o' }:World)={ w with heap:=w.heap.push o' }
 rw [this]
theorem heap_s2b_ok {s d e:TypeId} {x:Operand} {q:ByteArray} (hs:P.underlying s=some .string) (hd:P.underlying d=some (.slice e)) (he:P.underlying e=some (.int .u8)) (hx:a.eval x=.string q) (R:HRel C σ (hk hp) w) (hn:σ nm=none) :
 HeapOk P C σ hp a w nm (.convert s d x) (.osl nm 1 0 q.size) [(nm,some (.arr 1 (bytesFV q)))]:=by
 obtain ⟨cap,hcap,hch⟩:=run_choose_cap (P:=P) q.size 0 e w
 have F:=flat_bytes (h:=frz (hk ([] ++ hp)) σ C.X w) q
 have hq:q.data.size=q.size:=rfl
 have hlen:(bytesFV q).length=q.size:=by rw [bytesFV,List.length_map,Array.length_toList]; exact hq
 generalize hc:((q.data.map fun b => Value.int .u8 b.toNat) ++ Array.replicate (cap - q.size) (Value.int .u8 0):Array Value)=c
 have hcs:c.size=cap:=by
  rw [← hc]
  have:q.data.size=q.size:=rfl
  simp [this]; omega
 refine heap_row' (w1:={ w with drawn:=w.drawn + 1 }) (ws:=[]) (c:=c) (z:=(c.size,c.size + 1)) (t:=e) (cap:=cap) rfl (R.drewn rfl rfl rfl rfl) hn (fun _ _ h => h) (.inr (Nat.le_refl _)) ?_ hlen.symm hcap (by omega) fun ob ho => ?_
 ·have:c.toList.take ((bytesFV q).length * 1)=q.data.toList.map fun b => Value.int .u8 b.toNat:=by
   rw [hlen,← hc]
   simp only [Array.toList_append,Array.toList_map,Nat.mul_one]
   rw [List.take_append_of_le_length (by rw [List.length_map,Array.length_toList]; exact Nat.le_of_eq hq.symm)]
   apply List.take_of_length_le
   rw [List.length_map,Array.length_toList]; exact Nat.le_of_eq hq
  rw [this]; exact F
 ·have hnew:(({ w with drawn:=w.drawn + 1 }:World).alloc (.cells c e)).heap[w.heap.size]? = some (.cells c e):=heap_alloc_new (w:={ w with drawn:=w.drawn + 1 })
  have hm:=run_markStringish (P:=P) (o:=0) hnew
  have h2:World.setBlock (({ w with drawn:=w.drawn + 1 }:World).alloc (.cells c e)) w.heap.size (.cells c e (c.size,c.size + 1))=({ w with drawn:=w.drawn + 1 }:World).alloc (.cells c e (c.size,c.size + 1)):=alloc_set (w:={ w with drawn:=w.drawn + 1 })
  simp only [beq_self_eq_true,if_true,h2] at hm
  have hnr:=run_newRow (P:=P) (t:=e) (c:=c) (w:={ w with drawn:=w.drawn + 1 })
  simp only at hnr
  simp only [execOp,ho,convert,Sem.run_bind,run_und hs,run_und hd,Result.andThen_ok,hx,run_und he,Conv.stringToBytes,hch,hc,hnr,hm,Sem.run_pure]
theorem heap_cv2_ok {s e:TypeId} {x:Operand} {b sz off len:Nat} {es:List (List FV)} {sz':Nat} (hs:P.underlying s=some (.slice e)) (he:P.underlying e=some (.int .u8)) (H:Sl C.G σ (frz (hk hp) σ C.X w) sl a) (R:HRel C σ (hk hp) w)
 (hx:LX.av C.G sl (compX x)=.osl b sz off len) (hb:hk hp b=some (.arr sz' es)) (hpos:0 < len):HeapOk P C σ hp a w nm (.convert s s x) (.osl b sz off len) []:=by
 have hv:=H.av x
 rw [hx] at hv
 rcases hv.osl_inv with ⟨_,h0,_⟩ | ⟨k,d,n,A,cap,hσ,h1,h2,h3,e1⟩
 ·omega
 ·have hA:=h2.resolve_left (by omega)
  subst hA
  have B:=R.bk b _ hb
  cases B with
  | vir _ g1 => rw [hσ] at g1; cases g1
  | arr _ _ k1 d1 cc ty z g1 g2 g3 g4 g5 =>
   have hkm:k=k1∧d=d1∧n=cc.size∧sz=sz':=by
    rw [hσ] at g1
    injection g1 with g1; injection g1 with q1 q2 q3 q4
    exact ⟨q1,q2,q3,q4⟩
   obtain ⟨rfl,rfl,rfl,rfl⟩:=hkm
   have hk:k < w.heap.size:=(Array.getElem?_eq_some_iff.1 g2).1
   have W:=R.write1 hb hσ (.cells cc ty (if z.1 == z.2 then (cc.size,cc.size + 1) else (min z.1 cc.size,max z.2 (cc.size + 1)))) (.arr sz es) (fun hl' =>
    .arr sz es k d cc ty _ hσ (setBlock_same hk) g3.mark g4 fun i cl j y e1 e2 => let ⟨v,q1,q2⟩:=g5 i cl j y e1 e2; ⟨v,q1,q2.mono hl'⟩)
   have hup:upd (Go.Vai.hk hp) b (some (.arr sz es))=Go.Vai.hk hp:=by
    funext i
    by_cases hi:i=b
    ·subst hi; rw [upd_same,hb]
    ·rw [upd_ne _ _ hi]
   rw [hup] at W
   refine ⟨.slice (some ⟨k,d + off * sz,none⟩) len cap,σ,World.setBlock w k (.cells cc ty (if z.1 == z.2 then (cc.size,cc.size + 1) else (min z.1 cc.size,max z.2 (cc.size + 1)))),fun ob ho => .inl ?_,?_,W.1,SLe.refl _,W.2,fun _ _ h => h⟩
   ·simp only [execOp,ho,convert,Sem.run_bind,run_und hs,Result.andThen_ok,e1,run_und he,beq_self_eq_true,run_markStringish g2,Sem.run_pure]
   ·exact .osl b sz off len k d cc.size _ cap hσ h1 (.inr rfl) h3
theorem elems_write {h:PH} {cc:Array Value} {d sz:Nat} {es:List (List FV)} (g4 : ∀ (i:Nat) (cl:List FV),es[i]? = some cl→cl.length=sz) (g5 : ∀ (i:Nat) (cl:List FV) (j:Nat) (x:FV),es[i]? = some cl→cl[j]? = some x→∃ v,cc[d + (i * sz + j)]? = some v∧FR h x v)
 {off:Nat} {xs:List (List FV)} {us:List Value} (F:FlatR h sz xs us) (hle:d + off * sz + us.length≤cc.size) (ho:off≤es.length) (es':List (List FV)) (hes : ∀ (i:Nat) (cl:List FV),es'[i]? = some cl→(i < off∧es[i]? = some cl)∨(off≤i∧i < off + xs.length∧xs[i - off]? = some cl)∨(off + xs.length≤i∧es[i]? = some cl)) :
 (∀ (i:Nat) (cl:List FV),es'[i]? = some cl→cl.length=sz) ∧
   ∀ (i:Nat) (cl:List FV) (j:Nat) (x:FV),es'[i]? = some cl→cl[j]? = some x→∃ v,(setAt cc.toList (d + off * sz) us).toArray[d + (i * sz + j)]? = some v∧FR h x v:=by
 refine ⟨fun i cl e => ?_,fun i cl j x e1 e2 => ?_⟩
 ·rcases hes i cl e with ⟨_,h⟩ | ⟨_,_,h⟩ | ⟨_,h⟩
  ·exact g4 _ _ h
  ·exact F.el _ _ h
  ·exact g4 _ _ h
 ·rw [getElem?_toArray',setAt_get _ _ _ (by simpa using hle)]
  have hul:=F.len
  rcases hes i cl e1 with ⟨h1,h2⟩ | ⟨h0,h1,h2⟩ | ⟨h1,h2⟩
  ·have hj:j < sz:=by have:=g4 i cl h2; have:=(List.getElem?_eq_some_iff.1 e2).1; omega
   have:(i + 1) * sz≤off * sz:=Nat.mul_le_mul_right _ h1
   rw [Nat.add_mul] at this
   obtain ⟨v,q1,q2⟩:=g5 i cl j x h2 e2
   rw [if_pos (by omega)]
   exact ⟨v,by simpa using q1,q2⟩
  ·have hj:j < sz:=by have:=F.el _ cl h2; have:=(List.getElem?_eq_some_iff.1 e2).1; omega
   obtain ⟨v,q1,q2⟩:=F.rel _ cl j x h2 e2
   have hi:i * sz=off * sz + (i - off) * sz:=by rw [← Nat.add_mul]; congr 1; omega
   have hlt:=(List.getElem?_eq_some_iff.1 q1).1
   rw [if_neg (by omega),if_pos (by omega)]
   refine ⟨v,?_,q2⟩
   rw [← q1]
   congr 1; omega
  ·have hj:j < sz:=by have:=g4 i cl h2; have:=(List.getElem?_eq_some_iff.1 e2).1; omega
   have:(off + xs.length) * sz≤i * sz:=Nat.mul_le_mul_right _ h1
   rw [Nat.add_mul] at this
   obtain ⟨v,q1,q2⟩:=g5 i cl j x h2 e2
   rw [if_neg (by omega),if_neg (by omega)]
   exact ⟨v,by simpa using q1,q2⟩
theorem run_firstCells {A:Option Addr} {n cap:Nat} {h:PH} {sz:Nat} {es:List (List FV)} (hlen:n≤es.length) (hel:es≠[]→∃ k o,A=some ⟨k,o,none⟩∧ElemsAt w h k o sz es) :
 ∃ us:List Value,us.length=n * sz∧FlatR h sz (es.take n) us∧(Builtin.firstCells sz n (.slice A es.length cap)).run P w=.ok us.toArray w:=by
 by_cases hne:es=[]
 ·subst hne
  have h0:n=0:=by simpa using hlen
  subst h0
  refine ⟨[],by simp,⟨by simp,fun i c e => by simp at e,fun i c j x e => by simp at e⟩,?_⟩
  cases A with
  | none => rfl
  | some A => simp [Builtin.firstCells,loadCells,loadCellsFrom]
 ·obtain ⟨k,o,rfl,E⟩:=hel hne
  obtain ⟨us,h1,h2,h3⟩:=elems_cells E n hlen
  refine ⟨us,h1,h3,?_⟩
  have:=run_loadCells_at (P:=P) h2
  rw [h1] at this
  exact this
theorem HRel.overwrite {hp:HW} (R:HRel C σ (hk hp) w) {b k d n sz:Nat} {es es':List (List FV)} (hb:hk hp b=some (.arr sz es)) (hσ:σ b=some (.here k d n sz)) {off:Nat} {xs:List (List FV)} {us:List Value} (F:FlatR (frz (hk hp) σ C.X w) sz xs us) (hle:d + off * sz + us.length≤n) (ho:off≤es.length)
 (hes : ∀ (i:Nat) (cl:List FV),es'[i]? = some cl→(i < off∧es[i]? = some cl)∨(off≤i∧i < off + xs.length∧xs[i - off]? = some cl)∨(off + xs.length≤i∧es[i]? = some cl)) :
 ∃ w',(∀ A,(A=⟨k,d + off * sz,none⟩∨us=[])→(storeCells A us).run P w=.ok () w')∧(us=[]→w'=w)∧HRel C σ (upd (hk hp) b (some (.arr sz es'))) w'∧HLe (frz (hk hp) σ C.X w) (frz (upd (hk hp) b (some (.arr sz es'))) σ C.X w'):=by
 have B:=R.bk b _ hb
 cases B with
 | vir _ g1 => rw [hσ] at g1; cases g1
 | arr _ _ k1 d1 cc ty z g1 g2 g3 g4 g5 =>
  have hkm:k=k1∧d=d1∧n=cc.size:=by
   rw [hσ] at g1
   injection g1 with g1; injection g1 with q1 q2 q3 q4
   exact ⟨q1,q2,q3⟩
  obtain ⟨rfl,rfl,rfl⟩:=hkm
  have hk:k < w.heap.size:=(Array.getElem?_eq_some_iff.1 g2).1
  have W:=R.write1 hb hσ (.cells (setAt cc.toList (d + off * sz) us).toArray ty z) (.arr sz es') (fun hl' => by
   obtain ⟨q1,q2⟩:=elems_write g4 g5 F hle ho es' hes
   refine .arr sz es' k d _ ty z ?_ (setBlock_same hk) (g3.setAt _ us hle) q1 fun i cl j y e1 e2 => ?_
   ·rw [hσ]; simp only [List.size_toArray]; rw [setAt_length _ _ _ (by simpa using hle)]; simp
   ·obtain ⟨v,r1,r2⟩:=q2 i cl j y e1 e2
    exact ⟨v,r1,r2.mono hl'⟩)
  have hself:us=[]→World.setBlock w k (.cells (setAt cc.toList (d + off * sz) us).toArray ty z)=w:=by
   rintro rfl
   have:setAt cc.toList (d + off * sz) ([]:List Value)=cc.toList:=by simp [setAt]
   rw [this,Array.toArray_toList,setBlock_self g2]
  refine ⟨_,fun A hA => ?_,hself,W.1,W.2⟩
  rcases hA with rfl | h0
  ·have:=run_storeCells (P:=P) us 0 (d + off * sz) cc w g2 g3 F.leaf (by omega)
   simpa using this
  ·rw [hself h0,h0]; rfl
theorem setAt_cases {α:Type} {es xs:List α} {off:Nat} (h:off + xs.length≤es.length) : ∀ (i:Nat) (cl:α),(setAt es off xs)[i]? = some cl→(i < off∧es[i]? = some cl)∨(off≤i∧i < off + xs.length∧xs[i - off]? = some cl)∨(off + xs.length≤i∧es[i]? = some cl):=by
 intro i cl e
 rw [setAt_get _ _ _ h] at e
 split at e
 ·rename_i h1; exact .inl ⟨h1,e⟩
 ·split at e
  ·rename_i h1 h2; exact .inr (.inl ⟨by omega,h2,e⟩)
  ·rename_i h1 h2; exact .inr (.inr ⟨by omega,e⟩)
theorem heap_cpy_ok {t e:TypeId} {ty2:TypeId} {sz b off len:Nat} {d x:Operand} {xs:Array Operand} {ts:Array TypeId} {ex es:List (List FV)} (hxs:xs.toList=[d,x]) (hts:ts.toList=[t,ty2]) (ht:P.underlying t=some (.slice e)) (hs:sizeC P e=some sz) (H:Sl C.G σ (frz (hk hp) σ C.X w) sl a) (R:HRel C σ (hk hp) w)
 (hex:rdArr hp sz (LX.av C.G sl (compX x))=some ex) (hd:LX.av C.G sl (compX d)=.osl b sz off len) (hb:hk hp b=some (.arr sz es)) (hle:off + len≤es.length) :
 HeapOk P C σ hp a w nm (.call { callee:=.builtin .copy,args:=xs,argTypes:=ts }) (.fz (.sc (.int .i64 (min ex.length len:Nat)))) [(b,some (.arr sz (setAt es off (ex.take (min ex.length len)))))]:=by
 obtain rfl:=arr2 hxs
 obtain rfl:=arr2 hts
 obtain ⟨A,cap,hv,hcap,hel⟩:=rdArr_sound R hex (H.av x)
 have hdv:=H.av d
 rw [hd] at hdv
 have hlen:(ex.take (min ex.length len)).length=min ex.length len:=by simp
 obtain ⟨us,u1,u2,u3⟩:=run_firstCells (P:=P) (cap:=cap) (n:=min ex.length len) (by omega) hel
 have hrun : ∀ B' c' w',a.eval d=.slice B' len c'→(∀ A,B'=some A→(storeCells A us).run P w=.ok () w')→(B'=none→w'=w) →
  ∀ ob:Oper,ob.op=.call { callee:=.builtin .copy,args := #[d,x],argTypes := #[t,ty2] }→(execOp a.eval ob).run P w=.ok (.value (.int .i64 (min ex.length len:Nat))) w':=by
  intro B' c' w' he hst hno ob ho
  have hn:ex.length.min len=min ex.length len:=rfl
  cases B' with
  | none =>
   obtain rfl:=hno rfl
   simp only [execOp,ho,resolve,invoke,Sem.run_bind,Sem.run_pure,Result.andThen_ok,builtin,Builtin.copy_]
   simp [Sem.run_bind,run_und ht,he,hv,Builtin.lenOf,run_size hs,hn,u3,goInt]
  | some A =>
   have:=hst A rfl
   simp only [execOp,ho,resolve,invoke,Sem.run_bind,Sem.run_pure,Result.andThen_ok,builtin,Builtin.copy_]
   simp [Sem.run_bind,run_und ht,he,hv,Builtin.lenOf,run_size hs,hn,u3,goInt,this]
 rcases hdv.osl_inv with ⟨hσ,hl0,A',e1⟩ | ⟨k,dd,n,A',cap',hσ,h1,h2,h3,e1⟩
 ·subst hl0
  have hes:es=[]:=by
   have B:=R.bk b _ hb
   cases B with
   | vir => rfl
   | arr _ _ _ _ _ _ _ g1 => rw [hσ] at g1; cases g1
  subst hes
  have hup:upd (hk hp) b (some (.arr sz (setAt [] off (ex.take (min ex.length 0)))))=hk hp:=by
   funext i
   by_cases hi:i=b
   ·subst hi; rw [upd_same,hb]; simp [setAt]
   ·rw [upd_ne _ _ hi]
  have hus:us=[]:=List.eq_nil_of_length_eq_zero (by rw [u1]; simp)
  refine ⟨_,σ,w,fun ob ho => .inl (hrun A' 0 w e1 (fun A _ => by rw [hus]; rfl) (fun _ => rfl) ob ho),.sc _,?_,SLe.refl _,?_,fun _ _ h => h⟩
  ·simp only [List.cons_append,List.nil_append,hk_cons,hup]; exact R
  ·simp only [List.cons_append,List.nil_append,hk_cons,hup]; exact HLe.refl _
 ·have hul:us.length≤cap' * sz:=by rw [u1]; exact Nat.mul_le_mul_right _ (by omega)
  obtain ⟨w',q1,q2,q3,q4⟩:=R.overwrite (P:=P) (off:=off) (xs:=ex.take (min ex.length len)) (us:=us) hb hσ u2 (by omega) (by omega) (setAt_cases (by omega))
  have hA : ∀ A,some A'=some A→(storeCells A us).run P w=.ok () w':=by
   rintro A ⟨⟩
   rcases h2 with h2 | h2
   ·exact q1 _ (.inr (List.eq_nil_of_length_eq_zero (by rw [h2] at hul; omega)))
   ·exact q1 _ (.inl h2)
  refine ⟨_,σ,w',fun ob ho => .inl (hrun (some A') cap' w' e1 hA (fun h => by cases h) ob ho),.sc _,?_,SLe.refl _,?_,fun _ _ h => h⟩
  ·simp only [List.cons_append,List.nil_append,hk_cons]; exact q3
  ·simp only [List.cons_append,List.nil_append,hk_cons]; exact q4
end Go.Vai
