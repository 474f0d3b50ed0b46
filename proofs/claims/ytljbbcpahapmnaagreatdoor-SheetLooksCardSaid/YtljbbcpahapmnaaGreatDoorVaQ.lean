/-
  A part of the abstract run of Go functions and of the proof that it tells the truth.
-/
import Derived.Test.YtljbbcpahapmnaaGreatDoorVaP
set_option linter.unusedVariables false
set_option linter.unusedSimpArgs false
namespace Go.Vai
theorem run_mapL {α:Type} {P:Program} {w:World} (f:α→Sem Value) : ∀ (as:List α) (vs:List Value),vs.length=as.length→(∀ (i:Nat) (x:α) (v:Value),as[i]? = some x→vs[i]? = some v→(f x).run P w=.ok v w)→(as.mapM f).run P w=.ok vs w
 | [],[],hl,h => by
  haveI:=sem_lawful
  rw [List.mapM_nil]; rfl
 | [],_ :: _,hl,h => by simp at hl
 | _ :: _,[],hl,h => by simp at hl
 | x :: as,v :: vs,hl,h => by
  haveI:=sem_lawful
  have ih:=run_mapL (P:=P) (w:=w) f as vs (by simpa using hl) fun i y u e1 e2 => h (i + 1) y u (by simpa using e1) (by simpa using e2)
  rw [List.mapM_cons,Sem.run_bind,h 0 x v rfl rfl,Result.andThen_ok,Sem.run_bind,ih,Result.andThen_ok]
  rfl
theorem run_mapM {α:Type} {P:Program} {w:World} (f:α→Sem Value) (as:Array α) (vs:List Value) (hl:vs.length=as.size) (h : ∀ (i:Nat) (x:α) (v:Value),as[i]? = some x→vs[i]? = some v→(f x).run P w=.ok v w) :
 (as.mapM f).run P w=.ok vs.toArray w:=by
 haveI:=sem_lawful
 rw [Array.mapM_eq_mapM_toList]
 have:=run_mapL (P:=P) (w:=w) f as.toList vs (by simpa using hl) fun i x v e1 e2 => h i x v (by simpa using e1) e2
 show Sem.run P (Sem.bind (as.toList.mapM f) fun l => Sem.pure l.toArray) w=_
 have hb:=Sem.run_bind (P:=P) (w:=w) (as.toList.mapM f) (fun l => (pure l.toArray:Sem (Array Value)))
 rw [this,Result.andThen_ok] at hb
 exact hb
variable {P:Program} {C:Ctx} {σ:Nat→Option Loc} {a:Act} {w:World} {m:Nat}
theorem compRes_get : ∀ (rs:List ResultVar) (l:List LRes),compRes P rs=some l→l.length=rs.length∧∀ (i:Nat) (r:ResultVar),rs[i]? = some r→(∃ t,r=.tmp t∧l[i]? = some (.t t))∨∃ t ty g,r=.cell t ty∧agT P ty=some g∧l[i]? = some (.cell t g)
 | [],l,h => by simp only [compRes] at h; injection h with h; subst h; exact ⟨rfl,fun i r e => by simp at e⟩
 | .tmp t :: rs, l, h => by
  simp only [compRes] at h
  split at h
  ·rename_i l' hl'
   injection h with h; subst h
   obtain ⟨h1,h2⟩:=compRes_get rs l' hl'
   refine ⟨by simp [h1],fun i r e => ?_⟩
   cases i with
   | zero => simp at e; subst e; exact .inl ⟨t,rfl,rfl⟩
   | succ i => simpa using h2 i r (by simpa using e)
  ·cases h
 | .cell t ty :: rs, l, h => by
  simp only [compRes] at h
  split at h
  ·rename_i g l' hg hl'
   injection h with h; subst h
   obtain ⟨h1,h2⟩:=compRes_get rs l' hl'
   refine ⟨by simp [h1],fun i r e => ?_⟩
   cases i with
   | zero => simp at e; subst e; exact .inr ⟨t,ty,g,rfl,hg,rfl⟩
   | succ i => simpa using h2 i r (by simpa using e)
  ·cases h
theorem resL_get {st:St} : ∀ (rs:List LRes) (l:List AV),resL st rs=some l→l.length=rs.length∧∀ (i:Nat) (r:LRes),rs[i]? = some r→∃ x,l[i]? = some x∧resOf st r=some x
 | [],l,h => by simp only [resL] at h; injection h with h; subst h; exact ⟨rfl,fun i r e => by simp at e⟩
 | r :: rs, l, h => by
  simp only [resL] at h
  split at h
  ·rename_i x y hx hy
   injection h with h; subst h
   obtain ⟨h1,h2⟩:=resL_get rs y hy
   refine ⟨by simp [h1],fun i r' e => ?_⟩
   cases i with
   | zero => simp at e; subst e; exact ⟨x,rfl,hx⟩
   | succ i => simpa using h2 i r' (by simpa using e)
  ·cases h
def resRun (a:Act):ResultVar→Sem Value
 | .tmp t => pure (a.tmps.getD t undef)
 | .cell b t => do loadVar t (← asAddr (a.tmps.getD b undef))
theorem res_sound {st:St} (R:Rel C σ st a w) {r:ResultVar} {lr:LRes} {x:AV} (hr:(∃ t,r=.tmp t∧lr=.t t)∨∃ t ty g,r=.cell t ty∧agT P ty=some g∧lr=.cell t g) (h:resOf st lr=some x) :
 ∃ u,VR σ (frz (hk st.hp) σ C.X w) x u∧(resRun a r).run P w=.ok u w:=by
 rcases hr with ⟨t,rfl,rfl⟩ | ⟨t,ty,g,rfl,hg,rfl⟩
 ·simp only [resOf] at h
  injection h with h; subst h
  exact ⟨_,R.sl t,rfl⟩
 ·simp only [resOf] at h
  split at h
  ·rename_i b o hb
   split at h
   ·rename_i cs hbk
    have hp:=R.sl t
    rw [hb] at hp
    obtain ⟨k,n,hσ,hv⟩:=hp.bp_inv
    have B:=R.bk b _ hbk
    cases B with
    | box _ k1 cc ty1 z g1 g2 g3 g4 g5 =>
     have hkm:k=k1:=by
      rw [hσ] at g1
      injection g1 with g1; injection g1
     subst hkm
     have hl:loadC g cs o=some x:=by
      cases g <;> exact h
     obtain ⟨u,q1,q2⟩:=loadC_sound (P:=P) (w:=w) (σ:=σ) (h:=frz (hk st.hp) σ C.X w) hg hl (k:=k) (q:=0) (fun j => cc.getD j undef) (fun j y hj => by
      have hjl:=(List.getElem?_eq_some_iff.1 hj).1
      have hjc:cc[j]? = some (cc.getD j undef):=by
       have:j < cc.size:=by omega
       simp [Array.getD,this]
      exact ⟨by rw [cell_block g2,Nat.zero_add]; exact hjc,g5 j y _ hj hjc⟩)
     refine ⟨u,q1,?_⟩
     rw [Nat.zero_add] at q2
     simp only [resRun,hv,Sem.run_bind,asAddr,Sem.run_pure,Result.andThen_ok,q2]
   ·cases h
  ·cases h
theorem results_sound {fn:Func} {lr:List LRes} {st:St} {l:List AV} (hc:compRes P fn.results.toList=some lr) (hl:resL st lr=some l) (R:Rel C σ st a w) :
 ∃ vs:List Value,l.length=vs.length∧(∀ (i:Nat) (x:AV) (u:Value),l[i]? = some x→vs[i]? = some u→VR σ (frz (hk st.hp) σ C.X w) x u)∧(results fn a.tmps).run P w=.ok (match vs with | [v] => v | vs => .tuple vs.toArray) w:=by
 obtain ⟨c1,c2⟩:=compRes_get _ _ hc
 obtain ⟨r1,r2⟩:=resL_get _ _ hl
 have key : ∀ i,i < fn.results.toList.length→∃ u x,l[i]? = some x∧VR σ (frz (hk st.hp) σ C.X w) x u∧∀ r,fn.results[i]? = some r→(resRun a r).run P w=.ok u w:=by
  intro i hi
  have hr:=c2 i _ (List.getElem?_eq_getElem hi)
  have : ∃ lri,lr[i]? = some lri∧((∃ t,fn.results.toList[i]=.tmp t∧lri=.t t)∨∃ t ty g,fn.results.toList[i]=.cell t ty∧agT P ty=some g∧lri=.cell t g):=by
   rcases hr with ⟨t,h1,h2⟩ | ⟨t,ty,g,h1,h2,h3⟩
   ·exact ⟨_,h2,.inl ⟨t,h1,rfl⟩⟩
   ·exact ⟨_,h3,.inr ⟨t,ty,g,h1,h2,rfl⟩⟩
  obtain ⟨lri,h1,h2⟩:=this
  obtain ⟨x,h3,h4⟩:=r2 i lri h1
  obtain ⟨u,q1,q2⟩:=res_sound (P:=P) R h2 h4
  refine ⟨u,x,h3,q1,fun r hr => ?_⟩
  have:r=fn.results.toList[i]:=by
   rw [← Array.getElem?_toList,List.getElem?_eq_getElem hi] at hr
   injection hr with hr; exact hr.symm
  rw [this]; exact q2
 have hex : ∃ vs : List Value, vs.length = fn.results.size ∧ ∀ (i : Nat) (u : Value), vs[i]? = some u → ∃ x, l[i]? = some x ∧ VR σ (frz (hk st.hp) σ C.X w) x u ∧ ∀ r, fn.results[i]? = some r → (resRun a r).run P w = .ok u w := by
  have : ∀ n,n≤fn.results.size→∃ vs:List Value,vs.length=n∧∀ (i:Nat) (u:Value),vs[i]? = some u→∃ x,l[i]? = some x∧VR σ (frz (hk st.hp) σ C.X w) x u∧∀ r,fn.results[i]? = some r→(resRun a r).run P w=.ok u w:=by
   intro n
   induction n with
   | zero => exact fun _ => ⟨[],rfl,fun i u e => by simp at e⟩
   | succ n ih =>
    intro hn
    obtain ⟨vs,h1,h2⟩:=ih (by omega)
    obtain ⟨u,x,q1,q2,q3⟩:=key n (by rw [Array.length_toList]; omega)
    refine ⟨vs ++ [u],by simp [h1],fun i v e => ?_⟩
    rw [List.getElem?_append] at e
    split at e
    ·exact h2 i v e
    ·rename_i hi
     have:i=n:=by
      have:=(List.getElem?_eq_some_iff.1 e).1
      simp at this; omega
     subst this
     rw [h1] at e
     simp at e
     subst e
     exact ⟨x,q1,q2,q3⟩
  exact this _ (Nat.le_refl _)
 obtain ⟨vs,v1,v2⟩:=hex
 refine ⟨vs,by rw [r1,c1,v1]; simp,fun i x u e1 e2 => ?_,?_⟩
 ·obtain ⟨y,h1,h2,_⟩:=v2 i u e2
  rw [e1] at h1
  injection h1 with h1; subst h1; exact h2
 ·have hm:=run_mapM (P:=P) (w:=w) (resRun a) fn.results vs v1 (fun i r u e1 e2 => by
   obtain ⟨_,_,_,h⟩:=v2 i u e2
   exact h r e1)
  have hru:results fn a.tmps=(do
   let vs ← fn.results.mapM (resRun a)
   pure (if h:vs.size=1 then vs[0] else .tuple vs)):=by
   unfold results
   congr 2
  rw [hru,Sem.run_bind,hm,Result.andThen_ok]
  cases vs with
  | nil => rfl
  | cons v r => cases r with
   | nil => rfl
   | cons v2 r => rfl
theorem fro1_sound {hp:HW} (R:HRel C σ (hk hp) w) {x:AV} {u:Value} (r:VR σ (frz (hk hp) σ C.X w) x u) :
 HRel C σ (hk (fro1 m hp x).2) w∧HLe (frz (hk hp) σ C.X w) (frz (hk (fro1 m hp x).2) σ C.X w)∧VR σ (frz (hk (fro1 m hp x).2) σ C.X w) (fro1 m hp x).1 u:=by
 unfold fro1
 split
 ·rename_i b sz off len
  split
  ·exact ⟨R,HLe.refl _,r⟩
  ·split
   ·rename_i es hes
    have e:toFV hp (.osl b sz off len)=some (.sl es,[(b,none)]):=by simp only [toFV,hes]
    obtain ⟨h1,h2,_⟩:=toFV_sound R e r
    exact ⟨R.shrink h1,frz_shrink h1 C.X,.fz _ _ h2⟩
   ·exact ⟨R,HLe.refl _,r⟩
 ·obtain ⟨A,rfl⟩:=r.emp_inv
  exact ⟨R,HLe.refl _,.fz _ _ (.sl0 _ _)⟩
 ·exact ⟨R,HLe.refl _,r⟩
theorem froC_sound : ∀ (l:List AV) (hp:HW) (vs:List Value),HRel C σ (hk hp) w→l.length=vs.length→(∀ (i:Nat) (x:AV) (u:Value),l[i]? = some x→vs[i]? = some u→VR σ (frz (hk hp) σ C.X w) x u) →
 HRel C σ (hk (froC m hp l).2) w∧HLe (frz (hk hp) σ C.X w) (frz (hk (froC m hp l).2) σ C.X w)∧(froC m hp l).1.length=vs.length∧∀ (i:Nat) (x:AV) (u:Value),(froC m hp l).1[i]? = some x→vs[i]? = some u→VR σ (frz (hk (froC m hp l).2) σ C.X w) x u
 | [],hp,vs,R,hl,h => ⟨R,HLe.refl _,hl,fun i x u e1 e2 => by simp [froC] at e1⟩
 | x :: r,hp,[],R,hl,h => by simp at hl
 | x :: r,hp,v :: vs,R,hl,h => by
  obtain ⟨h1,h2,h3⟩:=fro1_sound (m:=m) R (h 0 x v rfl rfl)
  obtain ⟨g1,g2,g3,g4⟩:=froC_sound r (fro1 m hp x).2 vs h1 (by simpa using hl) (fun i y u e1 e2 => (h (i + 1) y u (by simpa using e1) (by simpa using e2)).mono (SLe.refl _) h2)
  refine ⟨g1,h2.trans g2,by simp [froC,g3],fun i y u e1 e2 => ?_⟩
  cases i with
  | zero => simp [froC] at e1 e2; subst e1; subst e2; exact h3.mono (SLe.refl _) g2
  | succ i => exact g4 i y u (by simpa [froC] using e1) (by simpa using e2)
theorem froA_sound {hp:HW} (R:HRel C σ (hk hp) w) {x:AV} {u:Value} (r:VR σ (frz (hk hp) σ C.X w) x u) :
 HRel C σ (hk (froA m hp x).2) w∧HLe (frz (hk hp) σ C.X w) (frz (hk (froA m hp x).2) σ C.X w)∧VR σ (frz (hk (froA m hp x).2) σ C.X w) (froA m hp x).1 u:=by
 unfold froA
 split
 ·rename_i l
  obtain ⟨vs,rfl,hl,h⟩:=r.agg_inv
  obtain ⟨g1,g2,g3,g4⟩:=froC_sound (m:=m) l hp vs R hl h
  exact ⟨g1,g2,.agg _ vs g3 g4⟩
 ·exact fro1_sound R r
theorem froL_sound : ∀ (l:List AV) (hp:HW) (vs:List Value),HRel C σ (hk hp) w→l.length=vs.length→(∀ (i:Nat) (x:AV) (u:Value),l[i]? = some x→vs[i]? = some u→VR σ (frz (hk hp) σ C.X w) x u) →
 HRel C σ (hk (froL m hp l).2) w∧HLe (frz (hk hp) σ C.X w) (frz (hk (froL m hp l).2) σ C.X w)∧(froL m hp l).1.length=vs.length∧∀ (i:Nat) (x:AV) (u:Value),(froL m hp l).1[i]? = some x→vs[i]? = some u→VR σ (frz (hk (froL m hp l).2) σ C.X w) x u
 | [],hp,vs,R,hl,h => ⟨R,HLe.refl _,hl,fun i x u e1 e2 => by simp [froL] at e1⟩
 | x :: r,hp,[],R,hl,h => by simp at hl
 | x :: r,hp,v :: vs,R,hl,h => by
  obtain ⟨h1,h2,h3⟩:=froA_sound (m:=m) R (h 0 x v rfl rfl)
  obtain ⟨g1,g2,g3,g4⟩:=froL_sound r (froA m hp x).2 vs h1 (by simpa using hl) (fun i y u e1 e2 => (h (i + 1) y u (by simpa using e1) (by simpa using e2)).mono (SLe.refl _) h2)
  refine ⟨g1,h2.trans g2,by simp [froL,g3],fun i y u e1 e2 => ?_⟩
  cases i with
  | zero => simp [froL] at e1 e2; subst e1; subst e2; exact h3.mono (SLe.refl _) g2
  | succ i => exact g4 i y u (by simpa [froL] using e1) (by simpa using e2)
theorem tup_sound {h:PH} : ∀ (l:List AV) (vs:List Value),l.length=vs.length→(∀ (i:Nat) (x:AV) (u:Value),l[i]? = some x→vs[i]? = some u→VR σ h x u)→VR σ h (tupOf l) (match vs with | [v] => v | vs => .tuple vs.toArray)
 | [],[],hl,hr => .tup [] [] rfl hr
 | [],_ :: _,hl,hr => by simp at hl
 | _ :: _,[],hl,hr => by simp at hl
 | [x],[v],hl,hr => hr 0 x v rfl rfl
 | [x],_ :: _ :: _,hl,hr => by simp at hl
 | _ :: _ :: _,[v],hl,hr => by simp at hl
 | x :: y :: r,v :: u :: vs,hl,hr => .tup _ _ hl hr
theorem finish_sound {fn:Func} {L:LFunc} {st:St} {r:AV} {bl:List (Option Blk)} (hc:compRes P fn.results.toList=some L.res) (R:Rel C σ st a w) (e:finish L m st=some (r,bl)) :
 m≤bl.length∧∃ u σ',(results fn a.tmps).run P w=.ok u w∧VR σ' (frz (hk (numd 0 bl)) σ' C.X w) r u∧HRel C σ' (hk (numd 0 bl)) w∧(∀ b,b < m→σ' b=σ b)∧∀ b,bl.length≤b→σ' b=none:=by
 unfold finish at e
 split at e
 ·rename_i l hl
  obtain ⟨vs,h1,h2,h3⟩:=results_sound hc hl R
  have hp : ∃ l' hp',(if L.own=true then (l,st.hp) else froL m st.hp l)=(l',hp')∧HRel C σ (hk hp') w∧l'.length=vs.length∧∀ (i:Nat) (x:AV) (u:Value),l'[i]? = some x→vs[i]? = some u→VR σ (frz (hk hp') σ C.X w) x u:=by
   by_cases ho:L.own=true
   ·rw [if_pos ho]; exact ⟨l,st.hp,rfl,R.heap,h1,h2⟩
   ·rw [if_neg ho]
    obtain ⟨g1,g2,g3,g4⟩:=froL_sound (m:=m) l st.hp vs R.heap h1 h2
    exact ⟨_,_,rfl,g1,g3,g4⟩
  obtain ⟨l',hp',hpe,g1,g2,g3⟩:=hp
  rw [hpe] at e
  simp only at e
  generalize hns:clos hp' 1000 (argNames m hp' ++ (tupOf l').names) (upTo m)=ns at e
  injection e with e; injection e with e1 e2; subst e1; subst e2
  have hnd:ns.Nodup:=hns ▸ clos_nodup _ _ _ _ (upTo_nodup m)
  obtain ⟨q,hq⟩:=clos_pre hp' 1000 (argNames m hp' ++ (tupOf l').names) (upTo m)
  rw [hns] at hq
  obtain ⟨hR,hle⟩:=g1.norm hnd
  have hget : ∀ b,b < m→ns[b]? = some b:=fun b hb => by
   rw [hq,List.getElem?_append_left (by rw [upTo_length]; exact hb)]
   exact upTo_get m b hb
  refine ⟨by rw [blks_length,hq,List.length_append,upTo_length]; omega,_,σr σ ns,h3,?_,hR,fun b hb => σr_get (hget b hb),fun b hb => ?_⟩
  ·exact ((tup_sound l' vs g2 g3).mono (SLe.refl _) hle).ren fun b j h => σr_idx h
  ·rw [blks_length] at hb
   simp [σr,List.getElem?_eq_none hb]
 ·cases e
def HLc (h h':PH):Prop := ∀ k c t z,h k=some (.cells c t z)→h' k=some (.cells c t z)
theorem cellAt_c {h h':PH} (hl:HLc h h') {k o:Nat} {v:Value} (e:cellAt h k o=some v):cellAt h' k o=some v:=by
 unfold cellAt at *
 split at e
 ·rename_i c t z hk; rw [hl _ _ _ _ hk]; exact e
 ·cases e
theorem FR.c {h h':PH} (hl:HLc h h') {x:FV} {v:Value} (r:FR h x v):FR h' x v:=by
 induction r with
 | sc v hv => exact .sc v hv
 | sl0 A cap => exact .sl0 A cap
 | sl es sz k o sp cap vs hsz hcap hsp hat hr ih =>
  exact .sl es sz k o sp cap vs hsz hcap hsp (fun i c j x e e' => cellAt_c hl (hat i c j x e e')) ih
theorem VR.c {σ:Nat→Option Loc} {h h':PH} (hl:HLc h h') {x:AV} {v:Value} (r:VR σ h x v):VR σ h' x v:=by
 induction r with
 | dead v => exact .dead v
 | fz x v r => exact .fz x v (r.c hl)
 | agg l vs e r ih => exact .agg l vs e ih
 | tup l vs e r ih => exact .tup l vs e ih
 | vir b sz off A e => exact .vir b sz off A e
 | osl b sz off len k d n a cap e e1 e2 e3 => exact .osl b sz off len k d n a cap e e1 e2 e3
 | bp b off k n e => exact .bp b off k n e
 | ep b i f k d n sz e => exact .ep b i f k d n sz e
 | fp c f k o us e r => exact .fp c f k o us (fun j x e' => cellAt_c hl (e j x e')) (fun j x e' => (r j x e').c hl)
 | fn f cap vs e r ih => exact .fn f cap vs e ih
 | emp A => exact .emp A
 | err t v => exact .err t v
 | mp b k e => exact .mp b k e
 | ifc t x v r ih => exact .ifc t x v ih
 | bm f fst vs e r ih => exact .bm f fst vs e ih
 | yl b l e => exact .yl b l e
theorem OwnAt.c {h h':PH} {w w':World} {sz:Nat} {es:List (List FV)} {v:Value} (hl:HLc h h') (hw : ∀ k o sp n cap,v=.slice (some ⟨k,o,sp⟩) n cap→0 < cap→w'.heap[k]? = w.heap[k]?) (r:OwnAt h w sz es v):OwnAt h' w' sz es v:=by
 obtain ⟨A,cap,e,h1,h3,h2⟩:=r
 refine ⟨A,cap,e,h1,h3,?_⟩
 by_cases hc:cap=0
 ·exact .inl hc
 ·obtain ⟨k,o,c,t,z,rfl,g2,g3,g4,g6⟩:=h2.resolve_left hc
  refine .inr ⟨k,o,c,t,z,rfl,(hw k o none _ cap e (by omega)).trans g2,g3,g4,fun i cl j x e1 e2 => ?_⟩
  obtain ⟨v,q1,q2⟩:=g6 i cl j x e1 e2
  exact ⟨v,q1,q2.c hl⟩
theorem CR.c {h h':PH} {w w':World} {x:AV} {v:Value} (hl:HLc h h') (hw : ∀ sz es,x=.own sz es→∀ k o sp n cap,v=.slice (some ⟨k,o,sp⟩) n cap→0 < cap→w'.heap[k]? = w.heap[k]?) (r:CR σ h w x v):CR σ h' w' x v:=by
 cases x <;> first | exact VR.c hl r | exact OwnAt.c hl (hw _ _ rfl) r
theorem BR.c {rc:RC} {h h':PH} {w w':World} {b:Nat} {blk:Blk} (hl:HLc h h') (hw : ∀ k,Owns σ w b blk k→w'.heap[k]? = w.heap[k]?)
 (r:BR rc σ h w b blk):BR rc σ h' w' b blk:=by
 cases r with
 | box cs k c e z h1 h2 h3 h4 h5 => exact .box cs k c e z h1 ((hw _ (.at _ _ _ _ _ h1)).trans h2) h3 h4 fun i x v e1 e2 => (h5 i x v e1 e2).c hl
 | vir sz h1 => exact .vir sz h1
 | rvir sz h1 => exact .rvir sz h1
 | arr sz es k d c e z h1 h2 h3 h4 h5 =>
  refine .arr sz es k d c e z h1 ((hw _ (.at _ _ _ _ _ h1)).trans h2) h3 h4 fun i cl j x e1 e2 => ?_
  obtain ⟨v,hv,r⟩:=h5 i cl j x e1 e2
  exact ⟨v,hv,r.c hl⟩
 | row sz es k d c e z h1 h2 h3 h4 h5 h6 h7 =>
  refine .row sz es k d c e z h1 ((hw _ (.at _ _ _ _ _ h1)).trans h2) h3 h4 (fun i cl j x e1 e2 => ?_) h6 h7
  obtain ⟨v,hv,r,hlf⟩:=h5 i cl j x e1 e2
  refine ⟨v,hv,r.c hl fun sz' es' ex q o sp n cap ev hc => hw q ?_,hlf⟩
  exact .sub sz es k d c.size c e z i j q h1 h2 ⟨cl,sz',es',o,sp,n,cap,e1,ex ▸ e2,ev ▸ hv,hc⟩
 | map es clock k E h1 h2 h3 h4 =>
  exact .map es clock k E h1 ((hw _ (.at _ _ _ _ _ h1)).trans h2) h3 fun i p e e1 e2 => let ⟨g1,g2,g3⟩:=h4 i p e e1 e2; ⟨g1,g2,g3.c hl⟩
 | iter mb since seen last k mk h1 h2 h3 =>
  exact .iter mb since seen last k mk h1 ((hw _ (.at _ _ _ _ _ h1)).trans h2) h3
 | loop pf caps st l N r h1 h2 h3 h4 h5 h6 h7 =>
  exact .loop pf caps st l N r h1 ((hw _ (.at _ _ _ _ _ h1)).trans h2) h3 h4 (fun i t x e => (h5 i t x e).c hl) h6 h7
 | bld T U l k p v h1 h2 h3 h4 =>
  refine .bld T U l k p v h1 ((hw _ (.at _ _ _ _ _ h1)).trans h2) h3 ?_
  rcases h4 with h4 | ⟨g,cap,cur,g1,g2,g3,g4⟩
  ·exact .inl h4
  ·exact .inr ⟨g,cap,cur,g1,g2,(hw g (.buf T U l k 0 2 1 _ _ _ g 0 none l.length cap h1 h2 (by rw [g1]; rfl))).trans g3,g4⟩
theorem GR.c {G:Nat→Option (List FV)} {h h':PH} (hl:HLc h h') (r:GR G h):GR G h':=fun g c e =>
 let ⟨⟨us,h1,h2⟩,cs,t,z,h3,h4⟩:=r g c e
 ⟨⟨us,fun j x e' => cellAt_c hl (h1 j x e'),fun j x e' => (h2 j x e').c hl⟩,cs,t,z,hl _ _ _ _ h3,h4⟩
theorem Rel.shut {st:St} {D:Nat} {Ds:List Nat} (R:Rel C σ st a w) (hd:a.defers=mark1 D :: Ds.map mark1) : ∃ w',(Instr.takeDeferred D).run P w=.ok [] w'∧Rel C σ st { a with defers:=Ds.map mark1 } w':=by
 obtain ⟨Ds0,d1,d2,d3⟩:=R.df
 have he : Ds0 = D :: Ds := by
  rw [hd] at d1
  have inj : ∀ (x y:List Nat),x.map mark1=y.map mark1→x=y:=by
   intro x
   induction x with
   | nil => intro y h; cases y with
    | nil => rfl
    | cons => cases h
   | cons p x ih =>
    intro y h
    cases y with
    | nil => cases h
    | cons q y =>
     simp only [List.map_cons] at h
     injection h with h1 h2
     have:p=q:=by
      unfold mark1 at h1
      injection h1 with h1 _
      injection h1
     rw [this,ih y h2]
  exact (inj (D :: Ds) Ds0 (by simpa using d1)).symm
 subst he
 have hD:=d3 D (by simp)
 have hf:=hD.2
 rw [frz_some] at hf
 have hw:=run_takeDeferred (P:=P) hf.2
 refine ⟨_,hw,?_⟩
 generalize hw':w.putObj D (.deferred none)=w'
 have hother : ∀ k,k≠D→w'.heap[k]? = w.heap[k]? := fun k hk => hw' ▸ World.putObj_heap_other hk
 have hsize:w'.heap.size=w.heap.size:=hw' ▸ World.putObj_size
 have hown : ∀ b blk,hk st.hp b=some blk→∀ k,Owns σ w b blk k→w'.heap[k]? = w.heap[k]? := fun b blk hb k ho => hother k fun e => hf.1.1 ⟨b,by rw [← e]; exact ⟨blk,hb,ho⟩⟩
 have hlv : ∀ b k,Live (hk st.hp) σ w' b k→Live (hk st.hp) σ w b k:=by
  rintro b k ⟨blk,h1,h2⟩
  exact ⟨blk,h1,h2.keep rfl fun k' d n sz hσ => hown b blk h1 k' (.at _ _ _ _ _ hσ)⟩
 have hle : ∀ k o,k≠D→frz (hk st.hp) σ C.X w k=some o→frz (hk st.hp) σ C.X w' k=some o:=by
  intro k o hk h
  rw [frz_some] at h ⊢
  exact ⟨⟨fun ⟨b,hb⟩ => h.1.1 ⟨b,hlv b k hb⟩,h.1.2⟩,by rw [hother k hk]; exact h.2⟩
 have hc:HLc (frz (hk st.hp) σ C.X w) (frz (hk st.hp) σ C.X w'):=by
  intro k c t z h
  refine hle k _ (fun e => ?_) h
  subst e
  rw [hD.2] at h
  cases h
 refine ⟨fun t => (R.sl t).c hc,fun b blk hb => (R.bk b blk hb).c hc (hown b blk hb),fun b b' k h1 h2 => R.inj _ _ _ (hlv _ _ h1) (hlv _ _ h2),fun b k h => ?_,⟨by rw [hsize]; exact R.fr.size,fun k h1 h2 => ?_,?_,?_,?_⟩,R.gl.c hc,R.xl,⟨Ds,rfl,(List.nodup_cons.1 d2).2,fun E hE => ⟨(d3 E (by simp [hE])).1,hle E _ (fun e => ?_) (d3 E (by simp [hE])).2⟩⟩,R.tz⟩
 ·obtain ⟨g1,g2,g3⟩:=R.ow _ _ (hlv _ _ h)
  exact ⟨g1,by rw [hsize]; exact g2,g3⟩
 ·rw [hother k (fun e => hD.1.elim (fun h => h2 (e ▸ h)) fun h => by omega)]
  exact R.fr.keep k h1 h2
 ·subst hw'; exact R.fr.os
 ·subst hw'; exact R.fr.tape
 ·subst hw'; exact R.fr.output
 ·subst e; exact (List.nodup_cons.1 d2).1 hE
theorem leaves {ro:Option Nat} {fu:Nat} {fn:Func} {tmps:Array Value} {K:Ending→World→Prop} {st:St} : ∀ (Ds:List Nat) (a:Act) (w:World),a.defers=Ds.map mark1→a.tmps=tmps→Rel C σ st a w →
 (∀ w',Rel C σ st { tmps:=tmps,defers:=[] } w'→∃ v,(results fn tmps).run P w'=.ok v w'∧K (.returned v) w')→LeavesInM (FW ro) fu P fn tmps K (Ds.map mark1) .returning w
 | [],a,w,hd,ht,R,h => by
  obtain ⟨tm,df⟩:=a
  simp only at hd ht
  subst hd; subst ht
  exact h w R
 | D :: Ds,a,w,hd,ht,R,h => by
  obtain ⟨w',h1,h2⟩:=R.shut (P:=P) (by simpa using hd)
  exact ⟨by simp,.inl ⟨D,w',rfl,h1,leaves Ds { a with defers:=Ds.map mark1 } w' rfl ht h2 h⟩⟩
theorem slots_get : ∀ (xs:List AV) (i t:Nat),lk (slots0 i xs) t=if i≤t then (xs[t - i]?).getD .dead else .dead
 | [],i,t => by simp [slots0,lk]
 | x :: r, i, t => by
  simp only [slots0,lk]
  by_cases h:i=t
  ·subst h; simp
  ·rw [if_neg h,slots_get r (i + 1) t]
   by_cases h2:i≤t
   ·rw [if_pos (by omega),if_pos h2]
    have:t - i=(t - (i + 1)) + 1:=by omega
    rw [this,List.getElem?_cons_succ]
   ·rw [if_neg (by omega),if_neg h2]
def TOk (P : Program) (T : FuncId → Option LFunc) : Prop := ∀ f L, T f = some L → (∃ fn h, P.funcs[f]? = some fn ∧ (fn.name == "runtime.NumGoroutine") = false ∧ compF P f fn h = some L) ∨ ∃ h, compR P f h = some L
theorem compF_inv {f:FuncId} {fn:Func} {hh:Hint} {L:LFunc} (h:compF P f fn hh=some L) : ∃ b lv',fn.body=some b∧compC P fn.ntmps hh.pr (some (f,1)) b hh.lv=some (L.body,lv')∧compRes P fn.results.toList=some L.res∧L.own=hh.own∧L.n=fn.ntmps∧L.prm=none∧@LT.lt Nat _ f 4096:=by
 unfold compF at h
 split at h
 ·rename_i b hb
  split at h
  ·rename_i c r hc hr
   split at h
   ·rename_i hcc
    injection h with h; subst h
    exact ⟨b,[],hb,hc,hr,rfl,rfl,rfl,hcc.2⟩
   ·cases h
  ·cases h
 ·cases h
theorem compR_inv {pf:FuncId} {hh:Hint} {L:LFunc} (h:compR P pf hh=some L) : ∃ N ps as bd la lb lv,rcOf P pf=some (N,ps,as,bd)∧compC P N hh.pr none as hh.lv=some (la,lv)∧compC P N hh.pr none bd lv=some (lb,[])∧noEx la=true∧ps.toList.Nodup∧(∀ t∈ps.toList,t < N)∧L.prm=some ps.toList∧L.body=.seq la lb:=by
 unfold compR at h
 split at h
 ·rename_i N ps as bd hr
  split at h
  ·rename_i la lv ha
   split at h
   ·rename_i lb hb
    split at h
    ·rename_i hc
     injection h with h; subst h
     exact ⟨N,ps,as,bd,la,lb,lv,hr,ha,hb,hc.1,hc.2.1,fun t ht => by
      have:=List.all_eq_true.1 hc.2.2 t ht
      simpa using this,rfl,rfl⟩
    ·cases h
   ·cases h
  ·cases h
 ·cases h
theorem noEx_nor {G:Nat→Option (List FV)} {rf:RF} : ∀ (n:Nat) (c:LCode) (st st':St) (ex:Ex),noEx c=true→exec G rf m n c st=some (ex,st')→ex=.nor
 | 0,c,st,st',ex,h,e => by simp [exec] at e
 | n + 1, c, st, st', ex, h, e => by
  cases c with
  | skip => simp only [exec] at e; injection e with e; injection e with e1 e2; exact e1.symm
  | ops l =>
   simp only [exec] at e
   split at e
   ·injection e with e; injection e with e1 e2; exact e1.symm
   ·cases e
  | draw l prs =>
   simp only [exec] at e
   split at e
   ·injection e with e; injection e with e1 e2; exact e1.symm
   ·cases e
  | pre cs c => simp only [exec] at e; exact noEx_nor n c _ _ _ h e
  | seq x y =>
   simp only [noEx,Bool.and_eq_true] at h
   simp only [exec] at e
   split at e
   ·exact noEx_nor n y _ _ _ h.2 e
   ·rename_i hne
    have:=noEx_nor n x _ _ _ h.1 e
    subst this
    exact absurd e (hne _)
  | _ => simp [noEx] at h
theorem capsP_spec {ps:List Nat} : ∀ {l:List AV} {cl:List (Nat × AV)},capsP ps l=some cl→l=cl.map (fun p => AV.bm p.1 [p.2])∧∀ p∈cl,p.1 ∉ ps
 | [],cl,h => by simp only [capsP] at h; injection h with h; subst h; exact ⟨rfl,fun p hp => by cases hp⟩
 | x :: r, cl, h => by
  cases x with
  | bm t fst =>
   match fst,h with
   | [],h => simp [capsP] at h
   | [y], h =>
    simp only [capsP] at h
    split at h
    ·cases h
    ·rename_i ht
     split at h
     ·rename_i l hl
      injection h with h; subst h
      obtain ⟨h1,h2⟩:=capsP_spec hl
      refine ⟨by rw [h1]; rfl,fun p hp => ?_⟩
      rcases List.mem_cons.1 hp with rfl | hp
      ·simpa using ht
      ·exact h2 p hp
     ·cases h
   | _ :: _ :: _,h => simp [capsP] at h
  | _ => simp [capsP] at h
theorem lk_zip : ∀ (ps:List Nat) (xs:List AV) (t:Nat),ps.length=xs.length→ps.Nodup→lk (ps.zip xs) t=.dead∧t ∉ ps∨∃ (i:Nat) (x:AV),ps[i]? = some t∧xs[i]? = some x∧lk (ps.zip xs) t=x
 | [],[],t,_,_ => .inl ⟨rfl,by simp⟩
 | [],_ :: _,t,h,_ => by simp at h
 | _ :: _,[],t,h,_ => by simp at h
 | p :: ps, x :: xs, t, h, hn => by
  simp only [List.zip_cons_cons,lk]
  by_cases e:p=t
  ·subst e; exact .inr ⟨0,x,rfl,rfl,by simp⟩
  ·rw [if_neg e]
   rcases lk_zip ps xs t (by simpa using h) (List.nodup_cons.1 hn).2 with ⟨h1,h2⟩ | ⟨i,y,h1,h2,h3⟩
   ·exact .inl ⟨h1,by simp [Ne.symm e,h2]⟩
   ·exact .inr ⟨i + 1,y,by simpa using h1,by simpa using h2,h3⟩
theorem lk_app : ∀ (a b:List (Nat × AV)) (t:Nat),lk (a ++ b) t=if t∈a.map (·.1) then lk a t else lk b t
 | [],b,t => by simp
 | (k, v) :: r, b, t => by
  simp only [List.cons_append,lk,List.map_cons,List.mem_cons]
  by_cases e:k=t
  ·subst e; simp
  ·rw [if_neg e,if_neg e,lk_app r b t]
   by_cases h:t∈r.map (·.1)
   ·rw [if_pos h,if_pos (.inr h)]
   ·rw [if_neg h,if_neg (by rintro (h' | h'); exact e h'.symm; exact h h')]
theorem lk_mem : ∀ (a:List (Nat × AV)) (t:Nat),t∈a.map (·.1)→∃ i:Nat,a[i]? = some (t,lk a t)
 | [],t,h => by simp at h
 | (k, v) :: r, t, h => by
  simp only [lk]
  by_cases e:k=t
  ·subst e; exact ⟨0,by simp⟩
  ·rw [if_neg e]
   have:t∈r.map (·.1):=by
    rcases List.mem_cons.1 h with h | h
    ·exact absurd h.symm e
    ·exact h
   obtain ⟨i,hi⟩:=lk_mem r t this
   exact ⟨i + 1,by simpa using hi⟩
theorem fold_tmps : ∀ (l:List (Nat × Value)) (tm:Array Value),(l.foldl (fun tmps (p:Nat × Value) => tmps.setIfInBounds p.1 p.2) tm).size=tm.size ∧
 (∀ t,t ∉ l.map (·.1)→(l.foldl (fun tmps (p:Nat × Value) => tmps.setIfInBounds p.1 p.2) tm).getD t undef=tm.getD t undef) ∧
 ((l.map (·.1)).Nodup→∀ (i t:Nat) (v:Value),l[i]? = some (t,v)→t < tm.size→(l.foldl (fun tmps (p:Nat × Value) => tmps.setIfInBounds p.1 p.2) tm).getD t undef=v)
 | [],tm => ⟨rfl,fun _ _ => rfl,fun _ i t v h => by simp at h⟩
 | (k, u) :: r, tm => by
  obtain ⟨h1,h2,h3⟩:=fold_tmps r (tm.setIfInBounds k u)
  simp only [List.foldl_cons]
  refine ⟨by rw [h1]; simp,fun t ht => ?_,fun hn i t v hi hlt => ?_⟩
  ·simp only [List.map_cons,List.mem_cons,not_or] at ht
   rw [h2 t ht.2]
   simp only [Array.getD_eq_getD_getElem?]
   rw [Array.getElem?_setIfInBounds_ne (Ne.symm ht.1)]
  ·simp only [List.map_cons] at hn
   have hn':=List.nodup_cons.1 hn
   cases i with
   | zero =>
    simp at hi
    obtain ⟨rfl,rfl⟩:=hi
    rw [h2 _ hn'.1]
    simp only [Array.getD_eq_getD_getElem?]
    rw [Array.getElem?_setIfInBounds,if_pos rfl,if_pos hlt]; rfl
   | succ i => exact h3 hn'.2 i t v (by simpa using hi) (by simpa using hlt)
theorem fn_step {G:Nat→Option (List FV)} {T:FuncId→Option LFunc} {E:RF} (hmix:P.follows .mixedOrders=true) (hT:TOk P T) (hE:RFSound P G E) (n:Nat) (RS:RFSound P G (runN G T E n)):FSound P G (runN G T E (n + 1)):=by
 intro f xs bl r bl' hf4 e
 simp only [runN] at e
 split at e
 case h_2 => exact hE.fn f xs bl r bl' hf4 e
 rename_i L hL
 rcases hT f L hL with ⟨fn,hh,hf,hnm,hc⟩ | ⟨hh,hc⟩
 case inr =>
  obtain ⟨N,ps,as,bd,la,lb,lv,hr,_⟩:=compR_inv hc
  have:=rcOf_low hr
  have h5 : @LT.lt Nat _ f 4096:=hf4
  have h6 : @LE.le Nat _ 4096 f:=this
  omega
 obtain ⟨b,lv',hb,hbody,hres,_,_,hprm,_⟩:=compF_inv hc
 rw [hprm] at e
 simp only at e
 have hfin : ∃ ex st,exec G (runN G T E n) bl.length n L.body (coSts L.ent { sl:=slots0 0 xs,hp:=numd 0 bl,nx:=bl.length })=some (ex,st)∧(ex=.nor∨ex=.ret)∧finish L bl.length (coSts L.fin st)=some (r,bl'):=by
  split at e
  ·rename_i st hs; exact ⟨.nor,st,hs,.inl rfl,e⟩
  ·rename_i st hs; exact ⟨.ret,st,hs,.inr rfl,e⟩
  ·cases e
 obtain ⟨ex,st,hex,hex2,hfi⟩:=hfin
 have hlen:bl.length≤bl'.length:=by
  unfold finish at hfi
  split at hfi
  ·injection hfi with hfi; injection hfi with _ h2; subst h2
   rw [blks_length]
   obtain ⟨q,hq⟩:=clos_pre (if L.own=true then ((_:List AV),(coSts L.fin st).hp) else froL bl.length (coSts L.fin st).hp _).2 1000 (argNames bl.length (if L.own=true then ((_:List AV),(coSts L.fin st).hp) else froL bl.length (coSts L.fin st).hp _).2 ++ (tupOf (if L.own=true then ((_:List AV),(coSts L.fin st).hp) else froL bl.length (coSts L.fin st).hp _).1).names) (upTo bl.length)
   rw [hq,List.length_append,upTo_length]; omega
  ·cases hfi
 refine ⟨hlen,fun w vs C σ hG hrc hw0 _ hnone R hxl hxs K hK => ?_⟩
 subst hG
 refine .inl ⟨?_,?_⟩
 ·simp only [callFunc]
  have hnm' : ¬ fn.name = "runtime.NumGoroutine" := by simpa using hnm
  simp [hf,hnm',hb,Sem.run_bind]
 ·refine (callsIn_wide (n:=0)).1 ?_
  have hgo:CallsIn (FW none) 0 P f vs.toArray w K:=by
   refine callsIn_of_wp_marks hf hb trivial ?_
   have R0:Rel { C with N:=fn.ntmps } σ { sl:=slots0 0 xs,hp:=numd 0 bl,nx:=bl.length } { tmps:=vs.toArray ++ Array.replicate (fn.ntmps - vs.toArray.size) undef,defers:=[] } w:=by
    refine HRel.rel (C:={ C with N:=fn.ntmps }) (st:={ sl:=slots0 0 xs,hp:=numd 0 bl,nx:=bl.length }) ⟨R.bk,R.inj,R.ow,R.fr,R.gl,R.xl⟩ (fun t => ?_) (.nil rfl) (by show fn.ntmps≤_; simp; omega)
    show VR σ (frz (hk (numd 0 bl)) σ C.X w) (lk (slots0 0 xs) t) _
    rw [slots_get,if_pos (Nat.zero_le _),Nat.sub_zero]
    cases hx:xs[t]? with
    | none => exact .dead _
    | some x =>
     have ht:=(List.getElem?_eq_some_iff.1 hx).1
     have hv:vs[t]? = some vs[t]:=List.getElem?_eq_getElem (by omega)
     have:=hxs t x _ hx hv
     have hg:(vs.toArray ++ Array.replicate (fn.ntmps - vs.toArray.size) undef).getD t undef=vs[t]:=by
      rw [Array.getD_eq_getD_getElem?,Array.getElem?_append_left (by simp; omega)]
      simp [hv]
     rw [hg]; exact this
   obtain ⟨σ0,R00,d1,d2,d3⟩:=coSts_sound (m:=bl.length) L.ent R0 ⟨hnone⟩ (Nat.le_refl _)
   refine (exec_sound (ro:=none) (fu:=0) (C:={ C with N:=fn.ntmps }) (m:=bl.length) hmix RS hrc n).1 b L.body hh.pr (some (f,1)) hh.lv lv' _ st ex σ0 _ w _ hbody ⟨rfl,hf4,fn,b,hf,hb,rfl,rfl⟩ hex R00 d2 d3 fun σ' a' w' q1 q2 q3 q4 => ?_
   obtain ⟨σ1,R1,c1,c2,c3⟩:=coSts_sound (m:=bl.length) L.fin q1 q3 q4
   obtain ⟨Ds,e1,_,_⟩:=R1.df
   have hlv:=leaves (P:=P) (ro:=none) (fu:=0) (fn:=fn) (K:=K) Ds a' w' e1 rfl R1 fun w'' R2 => by
    obtain ⟨_,u,σ2,f1,f2,f3,f4,f5⟩:=finish_sound (P:=P) (fn:=fn) hres R2 hfi
    exact ⟨u,f1,hK u σ2 w'' f2 ⟨f3.bk,f3.inj,f3.ow,f3.fr,f3.gl,f3.xl⟩ (fun b hb => by rw [f4 b hb,c1 b hb,q2 b hb,d1 b hb]) f5⟩
   rw [← e1] at hlv
   rcases hex2 with rfl | rfl
   ·exact hlv
   ·exact hlv
  exact hgo
theorem yl_step {G:Nat→Option (List FV)} {T:FuncId→Option LFunc} {E:RF} (hmix:P.follows .mixedOrders=true) (hT:TOk P T) (hE:RFSound P G E) (n:Nat) (RS:RFSound P G (runN G T E n)):YSound P G (runN G T E (n + 1)):=by
 intro pf caps xs bl q bl' N ps as bd hrc0 hpf e
 simp only [runN] at e
 split at e
 case h_2 => exact hE.yl pf caps xs bl q bl' N ps as bd hrc0 hpf e
 rename_i L hL
 rcases hT pf L hL with ⟨fn,hh,hf,hnm,hc⟩ | ⟨hh,hc⟩
 ·obtain ⟨b,lv',hb,hbody,hres,_,_,hprm,h4⟩:=compF_inv hc
  exact absurd h4 (Nat.not_lt.2 hpf)
 obtain ⟨N',ps',as',bd',la,lb,lv,hr,ha,hbd,hne,hnd,hlt,hprm,hLb⟩:=compR_inv hc
 rw [hrc0] at hr
 injection hr with hr; injection hr with r1 r2; injection r2 with r2 r3; injection r3 with r3 r4
 subst r1; subst r2; subst r3; subst r4
 rw [hprm,hLb] at e
 simp only at e
 split at e
 case h_2 => cases e
 rename_i sl hsl
 split at e
 case h_2 => cases e
 rename_i ex st hex
 injection e with e
 unfold finishR at e
 simp only at e
 injection e with e1 e2
 unfold slotsP capE at hsl
 simp only at hsl
 split at hsl
 case isFalse => cases hsl
 rename_i hxl
 split at hsl
 case h_2 => cases hsl
 rename_i cl hcl
 injection hsl with hsl
 obtain ⟨c1,c2⟩:=capsP_spec hcl
 have hcaps:cl=caps:=by
  have inj : ∀ (x y:List (Nat × AV)),x.map (fun p => AV.bm p.1 [p.2])=y.map (fun p => AV.bm p.1 [p.2])→x=y:=by
   intro x
   induction x with
   | nil => intro y h; cases y with
    | nil => rfl
    | cons => cases h
   | cons p x ih =>
    intro y h
    cases y with
    | nil => cases h
    | cons z y =>
     simp only [List.map_cons] at h
     injection h with h1 h2
     injection h1 with h1 h3
     injection h3 with h3 _
     rw [ih y h2,show p=z from Prod.ext h1 h3]
  exact (inj _ _ c1).symm
 subst hcaps
 have hav : ∃ exo,avEx q=some exo∧(∀ e,exo=some e→e.jump.isSome=true)∧exo.bind Ex.jump=ex.jump∧(exo.isNone=ex.jump.isNone):=by
  rw [← e1]
  cases ex with
  | nor => exact ⟨none,rfl,(fun e h => by cases h),rfl,rfl⟩
  | exit i => exact ⟨some (.exit i),by simp [exAV,avEx],(fun e h => by injection h with h; subst h; rfl),rfl,rfl⟩
  | ret => exact ⟨some .ret,rfl,(fun e h => by injection h with h; subst h; rfl),rfl,rfl⟩
 obtain ⟨exo,v1,v2,v3,v4⟩:=hav
 have hlen:bl.length≤bl'.length:=by
  rw [← e2,blks_length]
  obtain ⟨z,hz⟩:=clos_pre (coSts L.fin st).hp 1000 (argNames bl.length (coSts L.fin st).hp) (upTo bl.length)
  rw [hz,List.length_append,upTo_length]; omega
 refine ⟨exo,v1,v2,hlen,by simpa using hxl,fun w l r us hl hst hpd hp1 hp2 hp3 hN hus C σ hG hrc hw0 hY hnone R hxl2 hxs K hK => ?_⟩
 subst hG; subst hp1; subst hp2; subst hp3
 obtain ⟨hXl,hOl⟩:=hY l rfl
 let Cb:World→Ctx:=fun w0 => { G:=C.G,rc:=C.rc,X:=C.X,own0:=fun k => ∃ b,Live (hk (numd 0 bl)) σ w b k,w0:=w0,N:=N }
 have hnl : ∀ b,¬ Live (hk (numd 0 bl)) σ w b l:=fun b hb => (R.ow b l hb).1 hXl
 have hlsz:l < w.heap.size:=(Array.getElem?_eq_some_iff.1 hl).1
 have R0:Rel (Cb w) σ { sl:=sl,hp:=numd 0 bl,nx:=bl.length } { tmps:=yTmps r us,defers:=[] } w:=by
  have hus':us.length=r.params.toList.length:=by rw [← hus,hxl]
  have hf:=fold_tmps (r.params.toList.zip us) r.tmps
  have hyt:yTmps r us=(r.params.toList.zip us).foldl (fun tmps (p:Nat × Value) => tmps.setIfInBounds p.1 p.2) r.tmps:=by
   unfold yTmps
   rw [← Array.foldl_toList]
   simp
  have hzm:(r.params.toList.zip us).map (·.1)=r.params.toList:=List.map_fst_zip (by omega)
  refine HRel.rel (C:=Cb w) (st:={ sl:=sl,hp:=numd 0 bl,nx:=bl.length }) ⟨R.bk,R.inj,fun b k h => ⟨(R.ow b k h).1,(R.ow b k h).2.1,.inl ⟨b,h⟩⟩,Frame0.refl _ _,R.gl,fun k h => by have:=R.xl k h; rw [hw0] at this; exact this⟩ (fun t => ?_) (.nil rfl) (by show N≤(yTmps r us).size; rw [hyt,hf.1]; exact hN)
  show VR σ (frz (hk (numd 0 bl)) σ C.X w) (lk sl t) ((yTmps r us).getD t undef)
  rw [← hsl,lk_app,hyt]
  have hcr:=hxs 0 (capE cl) (capV r cl) rfl rfl
  obtain ⟨cvs,cv1,cv2,cv3⟩:=VR.tup_inv hcr
  have hcv:cvs=cl.map fun p => .func (.func p.1) #[r.tmps.getD p.1 undef] #[]:=by
   unfold capV at cv1
   injection cv1 with cv1
   have:=congrArg Array.toList cv1
   simpa using this.symm
  by_cases ht:t∈cl.map (·.1)
  ·rw [if_pos ht]
   obtain ⟨i,hi⟩:=lk_mem cl t ht
   have hnp:t ∉ r.params.toList:=c2 (t,lk cl t) (List.mem_of_getElem? hi)
   rw [hf.2.1 t (by rw [hzm]; exact hnp)]
   have hx:=cv3 i (.bm t [lk cl t]) (.func (.func t) #[r.tmps.getD t undef] #[]) (by rw [List.getElem?_map,hi]; rfl) (by rw [hcv,List.getElem?_map,hi]; rfl)
   obtain ⟨zs,z1,z2,z3⟩:=hx.bm_inv
   injection z1 with _ z1 _
   have:zs=[r.tmps.getD t undef]:=by
    have:=congrArg Array.toList z1
    simpa using this.symm
   subst this
   exact z3 0 _ _ rfl rfl
  ·rw [if_neg ht]
   rcases lk_zip r.params.toList xs t (by rw [hxl]) hnd with ⟨g1,g2⟩ | ⟨i,x,g1,g2,g3⟩
   ·rw [g1]; exact .dead _
   ·rw [g3]
    have hil:i < us.length:=by
     have:=(List.getElem?_eq_some_iff.1 g2).1
     omega
    have hu:us[i]? = some us[i]:=List.getElem?_eq_getElem hil
    rw [hf.2.2 (by rw [hzm]; exact hnd) i t us[i] (by rw [List.getElem?_zip_eq_some]; exact ⟨g1,hu⟩) (by
     have:=hlt t (List.mem_of_getElem? g1); omega)]
    exact hxs (i + 1) x us[i] (by simpa using g2) (by simp)
 obtain ⟨σ0,R00,d1,d2,d3⟩:=coSts_sound (m:=bl.length) L.ent R0 ⟨hnone⟩ (Nat.le_refl _)
 have hn1 : ∃ k,n=k + 1:=by
  cases n with
  | zero => simp [exec] at hex
  | succ k => exact ⟨k,rfl⟩
 obtain ⟨k,rfl⟩:=hn1
 simp only [exec] at hex
 have hparts : ∃ s,exec C.G (runN C.G T E (k + 1)) bl.length k la (coSts L.ent { sl:=sl,hp:=numd 0 bl,nx:=bl.length })=some (.nor,s)∧exec C.G (runN C.G T E (k + 1)) bl.length k lb s=some (ex,st):=by
  split at hex
  ·rename_i s hs; exact ⟨s,hs,hex⟩
  ·rename_i hno
   have:=noEx_nor k la _ _ _ hne hex
   subst this
   exact absurd hex (hno _)
 obtain ⟨s,hs1,hs2⟩:=hparts
 refine roundIn_of_wpIn trivial ?_
 have hexec:=fun (w0:World) => (exec_sound (ro:=some l) (fu:=0) (C:=Cb w0) (m:=bl.length) hmix RS hrc k).1
 refine hexec w r.assign la hh.pr none hh.lv lv _ s .nor σ0 _ w _ ha trivial hs1 R00 d2 d3 fun σ1 a1 w1 p1 p2 p3 p4 => ?_
 have hrec1:w1.heap[l]? = some (.loop r):=by rw [p1.fr.keep l hlsz fun ⟨b,hb⟩ => hnl b hb]; exact hl
 refine ⟨_,run_beginRound hrec1 hst,?_⟩
 generalize hw2:w1.putObj l (.loop { r with state:=.busy })=w2
 have hl1:l < w1.heap.size:=(Array.getElem?_eq_some_iff.1 hrec1).1
 have hother : ∀ k,k≠l→w2.heap[k]? = w1.heap[k]? := fun k hk => hw2 ▸ World.putObj_heap_other hk
 have hsame:w2.heap[l]? = some (.loop { r with state:=.busy }):=hw2 ▸ World.putObj_heap_same hl1
 have hsz2:w2.heap.size=w1.heap.size:=hw2 ▸ World.putObj_size
 let C2:Ctx:={ G:=C.G,rc:=C.rc,X:=C.X,own0:=fun k => (∃ b,Live (hk s.hp) σ1 w1 b k)∨mark1 k∈a1.defers,w0:=w2,N:=N }
 obtain ⟨Ds,ds1,ds2,ds3⟩:=p1.df
 have hmk : ∀ k,mark1 k∈a1.defers→k∈Ds:=by
  intro k hk
  rw [ds1] at hk
  obtain ⟨D,hD,hDe⟩:=List.mem_map.1 hk
  have:D=k:=by
   unfold mark1 at hDe
   injection hDe with h1 _
   injection h1
  exact this ▸ hD
 have hnl1 : ∀ b k,Live (hk s.hp) σ1 w1 b k→k≠l:=fun b k h e => (p1.ow b k h).1 (by subst e; exact hXl)
 have hlv2 : ∀ b k,Live (hk s.hp) σ1 w2 b k↔Live (hk s.hp) σ1 w1 b k:=by
  intro b k
  constructor
  ·rintro ⟨blk,h1,h2⟩
   exact ⟨blk,h1,h2.keep rfl fun k' d n sz hσ => hother k' (hnl1 b k' ⟨blk,h1,.at _ _ _ _ _ hσ⟩)⟩
  ·rintro ⟨blk,h1,h2⟩
   exact ⟨blk,h1,h2.keep rfl fun k' d n sz hσ => (hother k' (hnl1 b k' ⟨blk,h1,.at _ _ _ _ _ hσ⟩)).symm⟩
 have hfz2:frz (hk s.hp) σ1 C.X w2=frz (hk s.hp) σ1 C.X w1:=by
  funext k
  have hiff:((∃ b,Live (hk s.hp) σ1 w2 b k)∨C.X k)↔((∃ b,Live (hk s.hp) σ1 w1 b k)∨C.X k):=by simp only [hlv2]
  unfold frz
  by_cases h:(∃ b,Live (hk s.hp) σ1 w2 b k)∨C.X k
  ·rw [if_pos h,if_pos (hiff.1 h)]
  ·rw [if_neg h,if_neg (fun h' => h (hiff.2 h'))]
   exact hother k fun e => h (.inr (by subst e; exact hXl))
 have R2:Rel C2 σ1 s a1 w2:=by
  refine HRel.rel (C:=C2) ⟨fun b blk h => ?_,fun b b' k h1 h2 => p1.inj b b' k ((hlv2 _ _).1 h1) ((hlv2 _ _).1 h2),fun b k h => ⟨(p1.ow b k ((hlv2 _ _).1 h)).1,by rw [hsz2]; exact (p1.ow b k ((hlv2 _ _).1 h)).2.1,.inl (.inl ⟨b,(hlv2 _ _).1 h⟩)⟩,Frame0.refl _ _,?_,fun k h => ?_⟩ (fun t => ?_) ?_ p1.tz
  ·show BR C.rc σ1 (frz (hk s.hp) σ1 C.X w2) w2 b blk
   rw [hfz2]
   exact (p1.bk b blk h).mono (SLe.refl _) (HLe.refl _) fun k hk => hother k (hnl1 b k ⟨blk,h,hk⟩)
  ·show GR C.G (frz (hk s.hp) σ1 C.X w2)
   rw [hfz2]; exact p1.gl
  ·have h1:k < w.heap.size:=p1.xl k h
   have h2:w.heap.size≤w1.heap.size:=p1.fr.size
   show k < w2.heap.size; omega
  ·show VR σ1 (frz (hk s.hp) σ1 C.X w2) _ _
   rw [hfz2]; exact p1.sl t
  ·refine ⟨Ds,ds1,ds2,fun D hD => ⟨.inl (.inr (by rw [ds1]; exact List.mem_map_of_mem hD)),?_⟩⟩
   show frz (hk s.hp) σ1 C.X w2 D=_
   rw [hfz2]; exact (ds3 D hD).2
 refine (exec_sound (ro:=some l) (fu:=0) (C:=C2) (m:=bl.length) hmix RS hrc k).1 r.body lb hh.pr none lv [] _ st ex σ1 a1 w2 _ hbd trivial hs2 R2 p3 p4 fun σ2 a2 w3 q1 q2 q3 q4 => ?_
 obtain ⟨σ3,R3,f1,f2,f3⟩:=coSts_sound (m:=bl.length) L.fin q1 q3 q4
 have hrec3:w3.heap[l]? = some (.loop { r with state:=.busy }):=by
  rw [R3.fr.keep l (by show l < w2.heap.size; omega) fun h => h.elim (fun ⟨b,hb⟩ => hnl1 b l hb rfl) fun h => by
   have:=(ds3 l (hmk l h)).2
   rw [frz_some] at this
   rw [hrec1] at this
   exact absurd this.2 (by intro e; cases e)]
  exact hsame
 generalize hns:clos (coSts L.fin st).hp 1000 (argNames bl.length (coSts L.fin st).hp) (upTo bl.length)=ns at e2
 have hndn:ns.Nodup:=hns ▸ clos_nodup _ _ _ _ (upTo_nodup bl.length)
 obtain ⟨z,hz⟩:=clos_pre (coSts L.fin st).hp 1000 (argNames bl.length (coSts L.fin st).hp) (upTo bl.length)
 rw [hns] at hz
 obtain ⟨hR4,hle4⟩:=R3.heap.norm hndn
 rw [e2] at hR4 hle4
 have hget : ∀ b,b < bl.length→ns[b]? = some b:=fun b hb => by
  rw [hz,List.getElem?_append_left (by rw [upTo_length]; exact hb)]
  exact upTo_get _ b hb
 have hback : HRel C (σr σ3 ns) (hk (numd 0 bl')) w3 := by
  refine ⟨hR4.bk,hR4.inj,fun b k h => ⟨(hR4.ow b k h).1,(hR4.ow b k h).2.1,?_⟩,⟨?_,fun k h1 h2 => ?_,?_,?_,?_⟩,hR4.gl,R.xl⟩
  ·rcases (hR4.ow b k h).2.2 with (h | h) | h
   case inl.inr =>
    rcases (ds3 k (hmk k h)).1 with ⟨b2,hb2⟩ | h'
    ·exact (R.ow b2 k hb2).2.2
    ·have h'':w.heap.size≤k:=h'
     exact .inr (by rw [hw0]; exact h'')
   ·obtain ⟨b',hb'⟩:=h
    rcases (p1.ow b' k hb').2.2 with h' | h'
    ·obtain ⟨b2,hb2⟩:=h'
     exact (R.ow b2 k hb2).2.2
    ·have h'':w.heap.size≤k:=h'
     exact .inr (by rw [hw0]; exact h'')
   ·have h':w2.heap.size≤k:=h
    have h2:w.heap.size≤w1.heap.size:=p1.fr.size
    exact .inr (by rw [hw0]; omega)
  ·have h1:w2.heap.size≤w3.heap.size:=R3.fr.size
   have h2:w.heap.size≤w1.heap.size:=p1.fr.size
   rw [hw0]; omega
  ·rw [hw0] at h1 ⊢
   have hkl:k≠l:=fun e => h2 (e ▸ hOl)
   have hk0 : ¬ ∃ b,Live (hk (numd 0 bl)) σ w b k:=fun ⟨b,hb⟩ => by
    rcases (R.ow b k hb).2.2 with h | h
    ·exact h2 h
    ·rw [hw0] at h; omega
   have hk1:w1.heap[k]? = w.heap[k]? := p1.fr.keep k h1 hk0
   have hk2 : ¬ ((∃ b,Live (hk s.hp) σ1 w1 b k)∨mark1 k∈a1.defers):=by
    rintro (⟨b,hb⟩ | hb)
    ·rcases (p1.ow b k hb).2.2 with h | h
     ·exact hk0 h
     ·have h':w.heap.size≤k:=h
      omega
    ·rcases (ds3 k (hmk k hb)).1 with h | h
     ·exact hk0 h
     ·have h':w.heap.size≤k:=h
      omega
   have h3:w.heap.size≤w1.heap.size:=p1.fr.size
   rw [R3.fr.keep k (by show k < w2.heap.size; omega) hk2,hother k hkl,hk1]
  ·have h1:w3.os=w2.os:=R3.fr.os
   have h2:w1.os=w.os:=p1.fr.os
   rw [h1,← hw2,hw0]; exact h2
  ·have h1:w3.tape=w2.tape:=R3.fr.tape
   have h2:w1.tape=w.tape:=p1.fr.tape
   rw [h1,← hw2,hw0]; exact h2
  ·have h1:w3.output=w2.output:=R3.fr.output
   have h2:w1.output=w.output:=p1.fr.output
   rw [h1,← hw2,hw0]; exact h2
 have hu : ∃ u,VR (σr σ3 ns) (frz (hk (numd 0 bl')) (σr σ3 ns) C.X w3) q u:=by
  rw [← e1]
  cases ex with
  | nor => exact ⟨_,.tup [] [] rfl (fun i x v h => by simp at h)⟩
  | exit i => exact ⟨_,.tup _ [.int .i64 i] rfl fun j x v h1 h2 => by
   match j with
   | 0 => simp at h1 h2; subst h1; subst h2; exact .fz _ _ (.sc _ rfl)
   | n + 1 => simp at h1⟩
  | ret => exact ⟨_,.tup _ [.bool true] rfl fun j x v h1 h2 => by
   match j with
   | 0 => simp at h1 h2; subst h1; subst h2; exact .fz _ _ (.sc _ rfl)
   | n + 1 => simp at h1⟩
 obtain ⟨u,hu⟩:=hu
 have hKK:=hK u (σr σ3 ns) w3 hu hback (fun b hb => by rw [σr_get (hget b hb),f1 b hb,q2 b hb,p2 b hb,d1 b hb]) (fun b hb => by
  have:ns.length≤b:=by rw [← e2,blks_length] at hb; exact hb
  simp [σr,List.getElem?_eq_none this])
 have fin : ∀ j:Option Code,j=ex.jump→∃ v w',(Instr.endRound l j).run P w3=.ok v w'∧∃ u w'',K (.returned u) w''∧w''.heap[l]? = some (.loop { r with state:=.busy })∧Ending.returned v=.returned (.bool exo.isNone)∧w'=w''.putObj l (.loop (behindR r exo)):=by
  rintro j rfl
  refine ⟨_,_,run_endRound ex.jump hrec3,u,w3,hKK,hrec3,by rw [v4],?_⟩
  unfold behindR
  rw [v3,v4]
 cases ex with
 | nor => exact fin none rfl
 | exit i => exact fin _ rfl
 | ret => exact fin _ rfl
theorem runN_sound {G:Nat→Option (List FV)} {T:FuncId→Option LFunc} {E:RF} (hmix:P.follows .mixedOrders=true) (hT:TOk P T) (hE:RFSound P G E) : ∀ n,RFSound P G (runN G T E n)
 | 0 => ⟨fun f xs bl r bl' _ e => by simp [runN] at e,fun pf caps xs bl q bl' N ps as bd _ _ e => by simp [runN] at e⟩
 | n + 1 =>
  have RS:=runN_sound hmix hT hE n
  ⟨fn_step hmix hT hE n RS,yl_step hmix hT hE n RS⟩
end Go.Vai
