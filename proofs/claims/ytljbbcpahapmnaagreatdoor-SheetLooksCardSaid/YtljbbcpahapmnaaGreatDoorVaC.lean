/-
  A part of the abstract run of Go functions and of the proof that it tells the truth.
-/
import Derived.Test.YtljbbcpahapmnaaGreatDoorVaB
set_option linter.unusedVariables false
set_option linter.unusedSimpArgs false
namespace Go.Vai
variable {P:Program} {C:Ctx} {σ:Nat→Option Loc} {w:World}
def HeapOk (P:Program) (C:Ctx) (σ:Nat→Option Loc) (hp:HW) (a:Act) (w:World) (nm:Nat) (o:Op) (v:AV) (ws:HW):Prop :=
 ∃ u σ' w',(∀ ob:Oper,ob.op=o→(execOp a.eval ob).run P w=.ok (.value u) w'∨((execOp a.eval ob).run P w=.ok .skip w'∧u=undef)) ∧
  VR σ' (frz (hk (ws ++ hp)) σ' C.X w') v u∧HRel C σ' (hk (ws ++ hp)) w'∧SLe σ σ'∧HLe (frz (hk hp) σ C.X w) (frz (hk (ws ++ hp)) σ' C.X w')∧(∀ b,b≠nm→σ b=none→σ' b=none)
variable {hp:HW} {a:Act} {nm:Nat} {sl:List (Nat × AV)}
theorem upd_none {nm:Nat} {l:Option Loc} : ∀ b,b≠nm→σ b=none→upd σ nm l b=none:=fun b hb h => by rw [upd_ne _ _ hb]; exact h
theorem heap_alloc_ok {e:TypeId} {z:List Value} (hz:zeroC P e=some z) (R:HRel C σ (hk hp) w) (hn:σ nm=none):HeapOk P C σ hp a w nm (.alloc e) (.bp nm 0) [(nm,some (.box (z.map cellAV)))]:=by
 obtain ⟨v,hv,_,hr⟩:=zeroC_inv hz
 have hlen:(z.map cellAV).length=z.length:=by simp
 refine ⟨.pointer (some ⟨w.heap.size,0,none⟩),upd σ nm (some (.here w.heap.size 0 (z.map cellAV).length 1)),w.alloc (.cells v.cells e),fun ob ho => .inl ?_,?_,?_,SLe.upd hn _,?_,upd_none⟩
 ·simp only [execOp,ho,Instr.alloc,Sem.run_bind,hr,Result.andThen_ok,run_newVar,Sem.run_pure]
 ·exact .bp nm 0 w.heap.size (z.map cellAV).length (upd_same _ _ _)
 ·simp only [List.cons_append,List.nil_append,hk_cons]
  exact R.freshBox hn e v.cells _ (by simp [hv]) fun i x u e1 e2 => VR.zeros z i x u e1 (by rw [hv] at e2; simpa using e2)
 ·simp only [List.cons_append,List.nil_append,hk_cons]
  exact frz_fresh R nm _ 0 _ 1 _
theorem bldC_inv {e u:TypeId} (h:bldC P e=some u):zeroC P e=some [.pointer none,.slice none 0 0]:=by
 unfold bldC at h
 split at h
 ·assumption
 ·cases h
theorem heap_abld_ok {e u:TypeId} (hz:bldC P e=some u) (R:HRel C σ (hk hp) w) (hn:σ nm=none):HeapOk P C σ hp a w nm (.alloc e) (.bp nm 0) [(nm,some (.bld e u []))]:=by
 obtain ⟨v,hv,_,hr⟩:=zeroC_inv (bldC_inv hz)
 have hcs:v.cells = #[.pointer none,.slice none 0 0]:=by
  apply Array.toList_inj.1
  rw [hv]
 have own : ∀ q,Owns (upd σ nm (some (.here w.heap.size 0 2 1))) (w.alloc (.cells v.cells e)) nm (.bld e u []) q→q=w.heap.size:=by
  intro q h
  cases h with
  | «at» _ _ d n sz h => rw [upd_same] at h; injection h with h; injection h with h; exact h.symm
  | buf _ _ _ k d n sz c e' z _ o sp len cap h1 h2 h3 =>
   rw [upd_same] at h1
   injection h1 with h1; injection h1 with h1
   subst h1
   rw [heap_alloc_new] at h2
   injection h2 with h2; injection h2 with h2
   rw [← h2,hcs] at h3
   simp at h3
 refine ⟨.pointer (some ⟨w.heap.size,0,none⟩),upd σ nm (some (.here w.heap.size 0 2 1)),w.alloc (.cells v.cells e),fun ob ho => .inl ?_,?_,?_,SLe.upd hn _,?_,upd_none⟩
 ·simp only [execOp,ho,Instr.alloc,Sem.run_bind,hr,Result.andThen_ok,run_newVar,Sem.run_pure]
 ·exact .bp nm 0 w.heap.size 2 (upd_same _ _ _)
 ·simp only [List.cons_append,List.nil_append,hk_cons]
  exact R.fresh' hn _ 0 2 1 _ (.bld e u [] w.heap.size _ _ (upd_same _ _ _) (by rw [hcs]; exact heap_alloc_new) (.inl rfl) (.inl ⟨rfl,rfl⟩)) own
 ·simp only [List.cons_append,List.nil_append,hk_cons]
  exact frz_fresh0 R nm _ 0 2 1 _ fun q h => .inl (own q h)
theorem heap_box_ok {e:TypeId} {x:Operand} {l:List AV} (H:Sl C.G σ (frz (hk hp) σ C.X w) sl a) (hl:cellsOf (LX.av C.G sl (compX x))=some l) (R:HRel C σ (hk hp) w) (hn:σ nm=none) :
 HeapOk P C σ hp a w nm (.box e x) (.bp nm 0) [(nm,some (.box l))]:=by
 obtain ⟨us,hu,hlen,hr⟩:=cellsOf_sound hl (H.av x)
 refine ⟨.pointer (some ⟨w.heap.size,0,none⟩),upd σ nm (some (.here w.heap.size 0 l.length 1)),w.alloc (.cells (a.eval x).cells e),fun ob ho => .inl ?_,?_,?_,SLe.upd hn _,?_,upd_none⟩
 ·simp only [execOp,ho,Instr.box,Sem.run_bind,Result.andThen_ok,run_newVar,Sem.run_pure]
 ·exact .bp nm 0 w.heap.size l.length (upd_same _ _ _)
 ·simp only [List.cons_append,List.nil_append,hk_cons]
  exact R.freshBox hn e _ _ (by simp [hu,hlen]) fun i y u e1 e2 => hr i y u e1 (by rw [hu] at e2; simpa using e2)
 ·simp only [List.cons_append,List.nil_append,hk_cons]
  exact frz_fresh R nm _ 0 _ 1 _
theorem heap_same {o:Op} {v:AV} {u:Value} (R:HRel C σ (hk hp) w) (hr : ∀ ob:Oper,ob.op=o→(execOp a.eval ob).run P w=.ok (.value u) w) (hv:VR σ (frz (hk hp) σ C.X w) v u):HeapOk P C σ hp a w nm o v [] :=
 ⟨u,σ,w,fun ob ho => .inl (hr ob ho),hv,R,SLe.refl _,HLe.refl _,fun _ _ h => h⟩
theorem heap_load_ok {t:TypeId} {g:Option Nat} {p:Operand} {v:AV} (hg:agT P t=some g) (H:Sl C.G σ (frz (hk hp) σ C.X w) sl a) (R:HRel C σ (hk hp) w)
 (e : (match LX.av C.G sl (compX p) with
   | .bp b o => match hk hp b with
    | some (.box cs) => loadC g cs o
    | _ => none
   | .ep b i f => match hk hp b with
    | some (.arr _ es) => match es[i]? with
     | some c => loadC g (c.map .fz) f
     | none => none
    | _ => none
   | .fp c f => loadC g (c.map .fz) f
   | _ => none)=some v):HeapOk P C σ hp a w nm (.load t p) v []:=by
 have hx:=H.av p
 have fin : ∀ k o,a.eval p=.pointer (some ⟨k,o,none⟩)→(∃ u,VR σ (frz (hk hp) σ C.X w) v u∧(loadVar t ⟨k,o,none⟩).run P w=.ok u w)→HeapOk P C σ hp a w nm (.load t p) v []:=by
  rintro k o hv ⟨u,h1,h2⟩
  refine heap_same R (fun ob ho => ?_) h1
  simp only [execOp,ho,Instr.loadAt,Instr.sureAddr,hv,Sem.run_bind,Sem.run_pure,Result.andThen_ok,h2]
 split at e
 ·rename_i b o ex
  rw [ex] at hx
  obtain ⟨k,n,hσ,hv⟩:=hx.bp_inv
  split at e
  ·rename_i cs hb
   refine fin k o hv ?_
   have B:=R.bk b _ hb
   cases B with
   | box _ k' c ty z g1 g2 g3 g4 g5 =>
    rw [hσ] at g1
    injection g1 with g1; injection g1 with g1; subst g1
    have:=loadC_sound (P:=P) (w:=w) (σ:=σ) (h:=frz (hk hp) σ C.X w) hg e (k:=k) (q:=0) (fun j => c.getD j undef) (fun j y ey => by
     have hj:=(List.getElem?_eq_some_iff.1 ey).1
     have hcj:c[j]? = some (c.getD j undef):=by simp [Array.getD,g4,hj]
     exact ⟨by rw [cell_block g2,Nat.zero_add]; exact hcj,g5 j y _ ey hcj⟩)
    simpa using this
  ·cases e
 ·rename_i b i f ex
  rw [ex] at hx
  obtain ⟨k,d,n,sz,hσ,hv⟩:=hx.ep_inv
  split at e
  ·rename_i sz' es hb
   split at e
   ·rename_i c hc
    have B:=R.bk b _ hb
    cases B with
    | vir _ g1 => rw [hσ] at g1; cases g1
    | arr _ _ k' d' cc ty z g1 g2 g3 g4 g5 =>
     rw [hσ] at g1
     injection g1 with g1; injection g1 with g1 g1' g1'' g1'''; subst g1; subst g1'; subst g1'''
     refine fin k _ hv ?_
     have:=loadC_sound (P:=P) (w:=w) (σ:=σ) (h:=frz (hk hp) σ C.X w) hg e (k:=k) (q:=d + i * sz) (fun j => cc.getD (d + (i * sz + j)) undef) (fun j y ey => by
      rw [List.getElem?_map] at ey
      obtain ⟨x,hx1,hx2⟩:=Option.map_eq_some_iff.1 ey
      subst hx2
      obtain ⟨u,hu,hr⟩:=g5 i c j x hc hx1
      have hlt:=(Array.getElem?_eq_some_iff.1 hu).1
      have hcj:cc.getD (d + (i * sz + j)) undef=u:=by
       rw [Array.getD,dif_pos hlt]
       exact (Array.getElem?_eq_some_iff.1 hu).2
      rw [hcj]
      exact ⟨by rw [cell_block g2,Nat.add_assoc]; exact hu,.fz _ _ hr⟩)
     simpa [Nat.add_assoc] using this
   ·cases e
  ·cases e
 ·rename_i c f ex
  rw [ex] at hx
  obtain ⟨k,o,us,h1,h2,hv⟩:=hx.fp_inv
  refine fin k _ hv ?_
  exact loadC_sound (P:=P) (w:=w) (σ:=σ) (h:=frz (hk hp) σ C.X w) hg e (k:=k) (q:=o) us (fun j y ey => by
   rw [List.getElem?_map] at ey
   obtain ⟨x,hx1,hx2⟩:=Option.map_eq_some_iff.1 ey
   subst hx2
   exact ⟨cell_frz (h1 j x hx1),.fz _ _ (h2 j x hx1)⟩)
 ·cases e
theorem getElem?_toArray' {α:Type} (l:List α) (i:Nat):(l.toArray)[i]? = l[i]? := by simp
theorem run_storeVar {t:TypeId} {n k o:Nat} {us:List Value} {v:Value} {c:Array Value} {e:TypeId} {z:Nat × Nat} (hn:sizeC P t=some n) (hv:v.cells=us.toArray) (hl:us.length=n) (hb:w.heap[k]? = some (.cells c e z)) (hz:NoFz c z) (hu : ∀ u∈us,leafV u=true) (ho:o + n≤c.size) :
 (storeVar t ⟨k,o,none⟩ v).run P w=.ok () (World.setBlock w k (.cells (setAt c.toList o us).toArray e z)):=by
 have h1 : ¬ (us.toArray.size≠n):=by simp [hl]
 simp only [storeVar,Sem.run_bind,run_size hn,Result.andThen_ok,hv]
 rw [if_neg h1]
 have:=run_storeCells (P:=P) us 0 o c w hb hz hu (by omega)
 simpa using this
theorem leaf_all {σ:Nat→Option Loc} {h:PH} {l:List AV} {us:List Value} (hl:l.length=us.length) (hr : ∀ (i:Nat) (x:AV) (v:Value),l[i]? = some x→us[i]? = some v→VR σ h x v) (hlf:l.all leaf=true) : ∀ u∈us,leafV u=true:=by
 intro u hu
 obtain ⟨i,hi,rfl⟩:=List.getElem_of_mem hu
 have hi':i < l.length:=by omega
 have:=hr i _ _ (List.getElem?_eq_getElem hi') (List.getElem?_eq_getElem hi)
 exact leaf_val (List.all_eq_true.1 hlf _ (List.getElem_mem hi')) this
theorem NoFz.setAt {c:Array Value} {z:Nat × Nat} (h:NoFz c z) (o:Nat) (us:List Value) (ho:o + us.length≤c.size):NoFz (setAt c.toList o us).toArray z :=
 h.of_size (by simp only [List.size_toArray]; rw [setAt_length _ _ _ (by simpa using ho)]; simp)
theorem heap_store_box {t:TypeId} {n b o:Nat} {p x:Operand} {cs l:List AV} (hn:sizeC P t=some n) (H:Sl C.G σ (frz (hk hp) σ C.X w) sl a) (R:HRel C σ (hk hp) w) (hp':LX.av C.G sl (compX p)=.bp b o) (hx':cellsOf (LX.av C.G sl (compX x))=some l) (hl:l.length=n) (hlf:l.all leaf=true)
 (hb:hk hp b=some (.box cs)) (ho:o + n≤cs.length):HeapOk P C σ hp a w nm (.store t p x) .dead [(b,some (.box (setAt cs o l)))]:=by
 have hpv:=H.av p
 rw [hp'] at hpv
 obtain ⟨k,m,hσ,hv⟩:=hpv.bp_inv
 obtain ⟨us,hu,hlu,hr⟩:=cellsOf_sound hx' (H.av x)
 have B:=R.bk b _ hb
 cases B with
 | box _ k' c ty z g1 g2 g3 g4 g5 =>
  have hkm:k=k'∧m=cs.length:=by
   rw [hσ] at g1
   injection g1 with g1; injection g1 with g1 _ g1'
   exact ⟨g1,g1'⟩
  obtain ⟨rfl,rfl⟩:=hkm
  have hk:k < w.heap.size:=(Array.getElem?_eq_some_iff.1 g2).1
  have hul:=leaf_all hlu hr hlf
  have W:=R.write1 hb hσ (.cells (setAt c.toList o us).toArray ty z) (.box (setAt cs o l)) (fun hl' => by
   refine .box _ k _ ty z ?_ (setBlock_same hk) (g3.setAt o us (by omega)) ?_ (fun i y u e1 e2 => ?_)
   ·rw [hσ,setAt_length _ _ _ (by omega)]
   ·simp only [List.size_toArray]; rw [setAt_length _ _ _ (by simp; omega),setAt_length _ _ _ (by omega)]; simpa using g4
   ·rw [getElem?_toArray'] at e2
    exact (VR.setAt (by simpa using g4.symm) (fun i y u e1 e2 => g5 i y u e1 (by simpa using e2)) hlu hr o (by omega) i y u e1 e2).mono (SLe.refl _) hl')
  refine ⟨undef,σ,World.setBlock w k (.cells (Go.Vai.setAt c.toList o us).toArray ty z),fun ob hob => .inr ⟨?_,rfl⟩,.dead _,?_,SLe.refl _,?_,fun _ _ h => h⟩
  ·simp only [execOp,hob,Instr.storeAt,Instr.sureAddr,hv,Sem.run_bind,Sem.run_pure,Result.andThen_ok,run_storeVar hn hu (by omega) g2 g3 hul (show o + n≤c.size by omega)]
  ·simp only [List.cons_append,List.nil_append,hk_cons]; exact W.1
  ·simp only [List.cons_append,List.nil_append,hk_cons]; exact W.2
theorem heap_store_arr {t:TypeId} {n b i f sz:Nat} {p x:Operand} {l:List AV} {ys:List FV} {w1:HW} {es:List (List FV)} {c:List FV} (hn:sizeC P t=some n) (hn0:0 < n) (H:Sl C.G σ (frz (hk hp) σ C.X w) sl a) (R:HRel C σ (hk hp) w) (hp':LX.av C.G sl (compX p)=.ep b i f) (hx':cellsOf (LX.av C.G sl (compX x))=some l) (hl:l.length=n) (hlf:l.all leaf=true)
 (hy:toFVs hp l=some (ys,w1)) (hb:hk (w1 ++ hp) b=some (.arr sz es)) (hc:es[i]? = some c) (hf:f + n≤c.length):HeapOk P C σ hp a w nm (.store t p x) .dead ((b,some (.arr sz (es.set i (setAt c f ys)))) :: w1):=by
 have hpv:=H.av p
 rw [hp'] at hpv
 obtain ⟨k,d,m,sz1,hσ,hv⟩:=hpv.ep_inv
 obtain ⟨us,hu,hlu,hr⟩:=cellsOf_sound hx' (H.av x)
 obtain ⟨hsub,hyl,hyr⟩:=toFVs_sound R hy hlu hr
 have R1:=R.shrink hsub
 have hl1:=frz_shrink (σ:=σ) (w:=w) hsub C.X
 have B:=R1.bk b _ hb
 cases B with
 | vir _ g1 => rw [hσ] at g1; cases g1
 | arr _ _ k1 d1 cc ty z g1 g2 g3 g4 g5 =>
  have hkm:k=k1∧d=d1∧m=cc.size∧sz1=sz:=by
   rw [hσ] at g1
   injection g1 with g1; injection g1 with q1 q2 q3 q4
   exact ⟨q1,q2,q3,q4⟩
  obtain ⟨rfl,rfl,rfl,rfl⟩:=hkm
  have hk:k < w.heap.size:=(Array.getElem?_eq_some_iff.1 g2).1
  have hul:=leaf_all hlu hr hlf
  have hcl:=g4 i c hc
  have hpos:d + (i * sz1 + f) + n≤cc.size:=by
   have hj:f + n - 1 < c.length:=by omega
   obtain ⟨v,hv',_⟩:=g5 i c (f + n - 1) _ hc (List.getElem?_eq_getElem hj)
   have:=(Array.getElem?_eq_some_iff.1 hv').1
   omega
  have W := R1.write1 hb hσ (.cells (setAt cc.toList (d + (i * sz1 + f)) us).toArray ty z) (.arr sz1 (es.set i (setAt c f ys))) (fun hl' => by
   refine .arr sz1 _ k d _ ty z ?_ (setBlock_same hk) (g3.setAt _ us (by omega)) (fun i' cl e => ?_) (fun i' cl j y e1 e2 => ?_)
   ·rw [hσ]; simp only [List.size_toArray]; rw [setAt_length _ _ _ (by simp; omega)]; simp
   ·rw [List.getElem?_set] at e
    split at e
    ·split at e
     ·injection e with e; subst e; rw [setAt_length _ _ _ (by omega)]; exact hcl
     ·cases e
    ·exact g4 i' cl e
   ·have hilt:=(List.getElem?_eq_some_iff.1 hc).1
    simp only [getElem?_toArray']
    rw [setAt_get _ _ _ (by simp; omega)]
    by_cases hii:i=i'
    ·subst hii
     rw [List.getElem?_set,if_pos rfl,if_pos hilt] at e1
     injection e1 with e1; subst e1
     rw [setAt_get _ _ _ (by omega)] at e2
     split at e2
     ·rename_i hj
      rw [if_pos (by omega)]
      obtain ⟨v,h1,h2⟩:=g5 i c j y hc e2
      exact ⟨v,by simpa using h1,h2.mono hl'⟩
     ·rename_i hj
      split at e2
      ·rename_i hj2
       rw [if_neg (by omega),if_pos (by omega)]
       have hidx:d + (i * sz1 + j) - (d + (i * sz1 + f))=j - f:=by omega
       rw [hidx]
       have hjl:j - f < us.length:=by omega
       exact ⟨us[j - f],List.getElem?_eq_getElem hjl,(hyr _ _ _ e2 (List.getElem?_eq_getElem hjl)).mono hl'⟩
      ·rename_i hj2
       rw [if_neg (by omega),if_neg (by omega)]
       obtain ⟨v,h1,h2⟩:=g5 i c j y hc e2
       exact ⟨v,by simpa using h1,h2.mono hl'⟩
    ·rw [List.getElem?_set,if_neg hii] at e1
     have hj:j < sz1:=by have:=g4 i' cl e1; have:=(List.getElem?_eq_some_iff.1 e2).1; omega
     obtain ⟨v,h1,h2⟩:=g5 i' cl j y e1 e2
     refine ⟨v,?_,h2.mono hl'⟩
     rcases Nat.lt_or_gt_of_ne hii with hlt | hgt
     ·have:(i + 1) * sz1≤i' * sz1:=Nat.mul_le_mul_right _ hlt
      rw [Nat.add_mul] at this
      rw [if_neg (by omega),if_neg (by omega)]; simpa using h1
     ·have:(i' + 1) * sz1≤i * sz1:=Nat.mul_le_mul_right _ hgt
      rw [Nat.add_mul] at this
      rw [if_pos (by omega)]; simpa using h1)
  refine ⟨undef,σ,World.setBlock w k (.cells (Go.Vai.setAt cc.toList (d + (i * sz1 + f)) us).toArray ty z),fun ob hob => .inr ⟨?_,rfl⟩,.dead _,?_,SLe.refl _,?_,fun _ _ h => h⟩
  ·simp only [execOp,hob,Instr.storeAt,Instr.sureAddr,hv,Sem.run_bind,Sem.run_pure,Result.andThen_ok,run_storeVar hn hu (by omega) g2 g3 hul hpos]
  ·simp only [List.cons_append,hk_cons]; exact W.1
  ·simp only [List.cons_append,hk_cons]; exact hl1.trans W.2
structure FlatR (h:PH) (sz:Nat) (es:List (List FV)) (vs:List Value):Prop where
 len:vs.length=es.length * sz
 el : ∀ (i:Nat) (c:List FV),es[i]? = some c→c.length=sz
 rel : ∀ (i:Nat) (c:List FV) (j:Nat) (x:FV),es[i]? = some c→c[j]? = some x→∃ v,vs[i * sz + j]? = some v∧FR h x v
theorem FlatR.mono {h h':PH} (hl:HLe h h') {sz:Nat} {es:List (List FV)} {vs:List Value} (F:FlatR h sz es vs):FlatR h' sz es vs :=
 ⟨F.len,F.el,fun i c j x e1 e2 => let ⟨v,h1,h2⟩:=F.rel i c j x e1 e2; ⟨v,h1,h2.mono hl⟩⟩
theorem FlatR.set {h:PH} {sz:Nat} {es:List (List FV)} {vs:List Value} (F:FlatR h sz es vs) {i:Nat} (hi:i < es.length) {ys:List FV} {us:List Value} (hy:ys.length=sz) (hl:us.length=sz) (hr : ∀ (j:Nat) (y:FV) (u:Value),ys[j]? = some y→us[j]? = some u→FR h y u) :
 FlatR h sz (es.set i ys) (setAt vs (i * sz) us)∧i * sz + us.length≤vs.length:=by
 have hle:i * sz + us.length≤vs.length:=by
  rw [F.len,hl]
  have:(i + 1) * sz≤es.length * sz:=Nat.mul_le_mul_right _ hi
  rw [Nat.add_mul] at this; omega
 refine ⟨⟨?_,fun i' c e => ?_,fun i' c j x e1 e2 => ?_⟩,hle⟩
 ·rw [setAt_length _ _ _ hle,F.len]; simp
 ·rw [List.getElem?_set] at e
  split at e
  ·first
   | (injection e with e; subst e; exact hy)
   | (split at e
      ·injection e with e; subst e; exact hy
      ·cases e)
  ·exact F.el i' c e
 ·rw [setAt_get _ _ _ hle]
  by_cases hii:i=i'
  ·subst hii
   rw [List.getElem?_set,if_pos rfl,if_pos hi] at e1
   injection e1 with e1; subst e1
   have hj:=(List.getElem?_eq_some_iff.1 e2).1
   rw [if_neg (by omega),if_pos (by omega)]
   have:i * sz + j - i * sz=j:=by omega
   rw [this]
   have hj':j < us.length:=by omega
   exact ⟨us[j],List.getElem?_eq_getElem hj',hr _ _ _ e2 (List.getElem?_eq_getElem hj')⟩
  ·rw [List.getElem?_set,if_neg hii] at e1
   have hj:j < sz:=by have:=F.el i' c e1; have:=(List.getElem?_eq_some_iff.1 e2).1; omega
   obtain ⟨v,h1,h2⟩:=F.rel i' c j x e1 e2
   refine ⟨v,?_,h2⟩
   rcases Nat.lt_or_gt_of_ne hii with hlt | hgt
   ·have:(i + 1) * sz≤i' * sz:=Nat.mul_le_mul_right _ hlt
    rw [Nat.add_mul] at this
    rw [if_neg (by omega),if_neg (by omega)]; exact h1
   ·have:(i' + 1) * sz≤i * sz:=Nat.mul_le_mul_right _ hgt
    rw [Nat.add_mul] at this
    rw [if_pos (by omega)]; exact h1
theorem FlatR.zeros {h:PH} (z:List Value) (hzl : ∀ u∈z,leafV u=true) (n:Nat):FlatR h z.length (List.replicate n (z.map cellFV)) ((List.range (n * z.length)).map fun i => z.getD (i % z.length) default):=by
 refine ⟨by simp,fun i c e => ?_,fun i c j x e1 e2 => ?_⟩
 ·rw [List.getElem?_replicate] at e
  split at e
  ·injection e with e; subst e; simp
  ·cases e
 ·rw [List.getElem?_replicate] at e1
  split at e1
  ·rename_i hi
   injection e1 with e1; subst e1
   rw [List.getElem?_map] at e2
   obtain ⟨v,hv,rfl⟩:=Option.map_eq_some_iff.1 e2
   have hj:=(List.getElem?_eq_some_iff.1 hv).1
   have hlt:i * z.length + j < n * z.length:=by
    have:(i + 1) * z.length≤n * z.length:=Nat.mul_le_mul_right _ hi
    rw [Nat.add_mul] at this; omega
   refine ⟨v,?_,.cell v (hzl v (List.mem_of_getElem? hv))⟩
   rw [List.getElem?_map,List.getElem?_range hlt]
   simp only [Option.map_some]
   have hm:(i * z.length + j) % z.length=j:=by
    rw [Nat.add_comm,Nat.add_mul_mod_self_right]; exact Nat.mod_eq_of_lt hj
   rw [hm]
   simp [List.getD,hv]
  ·cases e1
theorem zeros_arr (z:List Value) (n:Nat):(Array.range n).map (fun i => z.toArray[i % z.toArray.size]!)=((List.range n).map fun i => z.getD (i % z.length) default).toArray:=by
 apply Array.ext'
 simp [getElem!_def,List.getD]
 intro i hi
 cases z[i % z.length]? <;> rfl
theorem bslGo_sound {sz:Nat} : ∀ (ps:List (Nat × Operand)) (hp:HW) (es:List (List FV)) (vs:List Value),HRel C σ (hk hp) w→Sl C.G σ (frz (hk hp) σ C.X w) sl a→FlatR (frz (hk hp) σ C.X w) sz es vs→∀ es2 w1,bslGo sz (LX.av C.G sl) hp es (ps.map fun p => (p.1,compX p.2))=some (es2,w1) →
 (∀ b' blk,hk (w1 ++ hp) b'=some blk→hk hp b'=some blk)∧∃ vs2:List Value,Instr.fill (fun i => some (i * sz,sz)) vs.toArray (ps.map fun p => (p.1,a.eval p.2))=some vs2.toArray∧FlatR (frz (hk (w1 ++ hp)) σ C.X w) sz es2 vs2∧es2.length=es.length
 | [],hp,es,vs,R,H,F,es2,w1,e => by
  simp only [List.map_nil,bslGo] at e
  injection e with e; injection e with e1 e2; subst e1; subst e2
  exact ⟨fun _ _ h => h,vs,rfl,F,rfl⟩
 | (i, x) :: ps, hp, es, vs, R, H, F, es2, w1, e => by
  simp only [List.map_cons,bslGo] at e
  split at e
  ·rename_i l hl
   split at e
   ·rename_i ys v1 hy
    split at e
    ·rename_i hc
     split at e
     ·rename_i es3 v2 hg
      injection e with e; injection e with e1 e2; subst e1; subst e2
      obtain ⟨us,hu,hlu,hr⟩:=cellsOf_sound hl (H.av x)
      obtain ⟨s1,l1,f1⟩:=toFVs_sound R hy hlu hr
      have R1:=R.shrink s1
      have hl1:=frz_shrink (σ:=σ) (w:=w) s1 C.X
      obtain ⟨F1,hle⟩:=(F.mono hl1).set hc.2 hc.1 (by omega) f1
      obtain ⟨s2,vs2,g1,g2,g3⟩:=bslGo_sound ps (v1 ++ hp) _ _ R1 ⟨fun t => (H.sl t).mono (SLe.refl _) hl1,H.gl.mono hl1⟩ F1 es3 v2 hg
      rw [List.append_assoc]
      refine ⟨fun b' blk h => s1 _ _ (s2 _ _ h),vs2,?_,g2,by simpa using g3⟩
      simp only [List.map_cons,Instr.fill,hu]
      rw [if_neg (by simp; omega)]
      rw [show us.toArray.zipIdx.foldl (fun (cs:Array Value) (p:Value × Nat) => cs.setIfInBounds (i * sz + p.2) p.1) vs.toArray=(setAt vs (i * sz) us).toArray from ?_]
      ·exact g1
      ·have:=foldl_setAt us 0 vs.toArray (i * sz) (by simp; omega)
       simp only [Nat.add_zero] at this
       rw [← this,← Array.foldl_toList]
       congr 1
       simp
     ·cases e
    ·cases e
   ·cases e
  ·cases e
theorem heap_row {o:Op} {t:TypeId} {c:Array Value} {z:Nat × Nat} {sz len cap:Nat} {es:List (List FV)} {ws:HW} {w0:World} (hw:w0=w) (R:HRel C σ (hk hp) w) (hn:σ nm=none) (hsub : ∀ b' blk,hk (ws ++ hp) b'=some blk→hk hp b'=some blk) (hz:NoFz c z)
 (F:FlatR (frz (hk (ws ++ hp)) σ C.X w) sz es (c.toList.take (es.length * sz))) (hlen:len=es.length) (hcap:len≤cap) (hc:cap * sz≤c.size)
 (hrun : ∀ ob:Oper,ob.op=o→(execOp a.eval ob).run P w=.ok (.value (.slice (some ⟨w.heap.size,0,none⟩) len cap)) (w.alloc (.cells c t z))) :
 HeapOk P C σ hp a w nm o (.osl nm sz 0 len) ((nm,some (.arr sz es)) :: ws):=by
 have R1:=R.shrink hsub
 have hl1:=frz_shrink (σ:=σ) (w:=w) hsub C.X
 refine ⟨_,upd σ nm (some (.here w.heap.size 0 c.size sz)),_,fun ob ho => .inl (hrun ob ho),?_,?_,SLe.upd hn _,?_,upd_none⟩
 ·exact .osl nm sz 0 len w.heap.size 0 c.size _ cap (upd_same _ _ _) hcap (.inr (by simp)) (by omega)
 ·simp only [List.cons_append,hk_cons]
  refine R1.freshArr hn t c z hz sz es F.el fun i cl j x e1 e2 => ?_
  obtain ⟨v,hv,hr⟩:=F.rel i cl j x e1 e2
  refine ⟨v,?_,hr⟩
  rw [List.getElem?_take] at hv
  split at hv
  ·simpa using hv
  ·cases hv
 ·simp only [List.cons_append,hk_cons]
  exact hl1.trans (frz_fresh R1 nm _ 0 _ sz _)
theorem heap_bsl_ok {t e:TypeId} {sz len:Nat} {z:List Value} {ps:Array (Nat × Operand)} {es:List (List FV)} {w1:HW} (ht:P.underlying t=some (.slice e)) (hs:sizeC P e=some sz) (hz:zeroC P e=some z) (hc:0 < sz∧z.length=sz∧len * sz≤16777216)
 (H:Sl C.G σ (frz (hk hp) σ C.X w) sl a) (R:HRel C σ (hk hp) w) (hn:σ nm=none) (hb:bslGo sz (LX.av C.G sl) hp (List.replicate len (z.map cellFV)) (ps.toList.map fun p => (p.1,compX p.2))=some (es,w1)) :
 HeapOk P C σ hp a w nm (.buildSlice t len ps) (.osl nm sz 0 len) ((nm,some (.arr sz es)) :: w1):=by
 obtain ⟨h0,rfl,h2⟩:=hc
 obtain ⟨zv,hzc,hzl,hzr⟩:=zeroC_inv hz
 obtain ⟨s1,vs2,g1,g2,g3⟩:=bslGo_sound ps.toList hp _ _ R H (FlatR.zeros z hzl len) es w1 hb
 have hel:es.length=len:=by simpa using g3
 have hmap:(ps.map fun (i,x) => (i,a.eval x)).toList=ps.toList.map fun p => (p.1,a.eval p.2):=by simp
 have hvl:vs2.length=es.length * z.length:=g2.len
 refine heap_row (c:=vs2.toArray) (z:=(0,0)) (t:=e) (cap:=len) rfl R hn s1 (.inl rfl) ?_ hel.symm (Nat.le_refl _) (by simp [hvl,hel]) fun ob ho => ?_
 ·have:vs2.toArray.toList.take (es.length * z.length)=vs2:=by simp [← hvl]
  rw [this]; exact g2
 ·simp only [execOp,ho,Instr.buildSlice,Sem.run_bind,run_und ht,run_size hs,Result.andThen_ok]
  rw [if_neg (by omega)]
  simp only [hmap]
  by_cases h00:len * z.length=0
  ·rw [if_pos h00]
   have harr:(Array.range (len * z.length)).map (fun i => (#[]:Array Value)[i % (#[]:Array Value).size]!)=((List.range (len * z.length)).map fun i => z.getD (i % z.length) default).toArray:=by
    rw [h00]; simp
   simp only [Sem.run_bind,Sem.run_pure,Result.andThen_ok,harr,g1,run_newRow]
  ·rw [if_neg h00]
   simp only [Sem.run_bind,Sem.run_pure,Result.andThen_ok,hzr,hzc,zeros_arr,g1,run_newRow]
end Go.Vai
