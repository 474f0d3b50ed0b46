/-
  A part of the abstract run of Go functions and of the proof that it tells the truth.
-/
import Derived.Test.YtljbbcpahapmnaaGreatDoorVaFm
set_option linter.unusedVariables false
set_option linter.unusedSimpArgs false
namespace Go.Vai
variable {P:Program} {C:Ctx} {σ:Nat→Option Loc} {w:World} {a:Act} {nm:Nat} {hp:HW} {sl:List (Nat × AV)}
theorem setAt_cell {cc:Array Value} {d sz i f:Nat} {us:List Value} (hpos:d + (i * sz + f) + us.length≤cc.size) (hfn:f + us.length≤sz) {i' j:Nat} (hj:j < sz) :
 (setAt cc.toList (d + (i * sz + f)) us).toArray[d + (i' * sz + j)]? = if i'=i∧f≤j∧j < f + us.length then us[j - f]? else cc[d + (i' * sz + j)]? := by
 rw [getElem?_toArray',setAt_get _ _ _ (by simpa using hpos)]
 by_cases hc:i'=i∧f≤j∧j < f + us.length
 ·rw [if_pos hc]
  obtain ⟨rfl,h1,h2⟩:=hc
  rw [if_neg (by omega : ¬ d + (i' * sz + j) < d + (i' * sz + f)),if_pos (by omega:d + (i' * sz + j) < d + (i' * sz + f) + us.length)]
  congr 1; omega
 ·rw [if_neg hc]
  by_cases hi:i'=i
  ·subst hi
   by_cases h2:j < f
   ·rw [if_pos (by omega:d + (i' * sz + j) < d + (i' * sz + f))]; simp
   ·rw [if_neg (by omega : ¬ d + (i' * sz + j) < d + (i' * sz + f)),if_neg (by omega : ¬ d + (i' * sz + j) < d + (i' * sz + f) + us.length)]; simp
  ·rcases Nat.lt_or_gt_of_ne hi with hlt | hgt
   ·have:(i' + 1) * sz≤i * sz:=Nat.mul_le_mul_right _ hlt
    rw [Nat.add_mul] at this
    rw [if_pos (by omega:d + (i' * sz + j) < d + (i * sz + f))]; simp
   ·have:(i + 1) * sz≤i' * sz:=Nat.mul_le_mul_right _ hgt
    rw [Nat.add_mul] at this
    rw [if_neg (by omega : ¬ d + (i' * sz + j) < d + (i * sz + f)),if_neg (by omega : ¬ d + (i' * sz + j) < d + (i * sz + f) + us.length)]; simp
theorem setrow_cell {es:List (List AV)} {i f:Nat} {c l:List AV} (hc:es[i]? = some c) (hf:f + l.length≤c.length) {i' j:Nat} {cl:List AV} {x:AV} (h1:(es.set i (setAt c f l))[i']? = some cl) (h2:cl[j]? = some x) :
 (i'=i∧f≤j∧j < f + l.length∧l[j - f]? = some x)∨(¬ (i'=i∧f≤j∧j < f + l.length)∧∃ cl0,es[i']? = some cl0∧cl0[j]? = some x):=by
 have hil:=(List.getElem?_eq_some_iff.1 hc).1
 rw [List.getElem?_set] at h1
 by_cases hi:i=i'
 ·subst hi
  rw [if_pos rfl,if_pos hil] at h1
  injection h1 with h1; subst h1
  rw [setAt_get _ _ _ hf] at h2
  split at h2
  ·exact .inr ⟨by omega,c,hc,h2⟩
  ·split at h2
   ·exact .inl ⟨rfl,by omega,by omega,h2⟩
   ·exact .inr ⟨by omega,c,hc,h2⟩
 ·rw [if_neg hi] at h1
  exact .inr ⟨fun h => hi h.1.symm,cl,h1,h2⟩
theorem heap_store_row_ok {t:TypeId} {n b i f sz:Nat} {p x:Operand} {l:List AV} {es:List (List AV)} {c:List AV} (hn:sizeC P t=some n) (H:Sl C.G σ (frz (hk hp) σ C.X w) sl a) (R:HRel C σ (hk hp) w) (hp':LX.av C.G sl (compX p)=.ep b i f) (hx':cellsOf (LX.av C.G sl (compX x))=some l) (hl:l.length=n) (hlf:l.all leaf=true)
 (hn0:0 < n) (hb:hk hp b=some (.row sz es)) (hc:es[i]? = some c) (hf:f + n≤c.length):HeapOk P C σ hp a w nm (.store t p x) .dead [(b,some (.row sz (es.set i (setAt c f l))))]:=by
 have hpv:=H.av p
 rw [hp'] at hpv
 obtain ⟨k,d,m,sz1,hσ,hv⟩:=hpv.ep_inv
 obtain ⟨us,hu,hlu,hr⟩:=cellsOf_sound hx' (H.av x)
 obtain ⟨rfl,cc,ty,z,rfl,r⟩:=row_at R hb hσ
 have hk:k < w.heap.size:=(Array.getElem?_eq_some_iff.1 r.mem).1
 have hul:=leaf_all hlu hr hlf
 have hcl:=r.len i c hc
 have hpos:d + (i * sz1 + f) + us.length≤cc.size:=by
  have:=r.pos hc (j:=f + n - 1) (by omega)
  omega
 have hfn:f + us.length≤sz1:=by omega
 have hnoown : ∀ (j:Nat) (x:AV) (s:Nat) (y:List (List FV)),l[j]? = some x→x≠.own s y:=by
  intro j x s y h e
  subst e
  have:=List.all_eq_true.1 hlf _ (List.mem_of_getElem? h)
  simp [leaf] at this
 have hsub : ∀ i' j' q,SubAt (setAt cc.toList (d + (i * sz1 + f)) us).toArray d sz1 (es.set i (setAt c f l)) i' j' q→SubAt cc d sz1 es i' j' q:=by
  rintro i' j' q ⟨cl,s2,y2,o2,sp2,n2,cap2,e1,e2,e3,e4⟩
  rcases setrow_cell hc (by omega) e1 e2 with ⟨_,_,_,h⟩ | ⟨h,cl0,h1,h2⟩
  ·exact absurd rfl (hnoown _ _ s2 y2 h)
  ·have hj:j' < sz1:=by have:=r.len i' cl0 h1; have:=(List.getElem?_eq_some_iff.1 h2).1; omega
   rw [setAt_cell hpos hfn hj,if_neg (by rw [← hlu]; exact h)] at e3
   exact ⟨cl0,s2,y2,o2,sp2,n2,cap2,h1,h2,e3,e4⟩
 have W:=R.write1' hb hσ (.cells (setAt cc.toList (d + (i * sz1 + f)) us).toArray ty z) (.row sz1 (es.set i (setAt c f l))) (fun q h => by
  cases h with
  | «at» _ _ d1 n1 s1 g => exact .at _ _ d1 n1 s1 g
  | sub _ _ k1 d1 n1 c1 e1 z1 i1 j1 _ g1 g2 g3 =>
   rw [hσ] at g1
   injection g1 with g1; injection g1 with q1 q2 q3 q4; subst q1; subst q2
   rw [setBlock_same hk] at g2
   injection g2 with g2; injection g2 with q1 q2 q3; subst q1
   exact r.owns (hsub _ _ _ g3)) (fun hl' => by
  refine .row sz1 _ k d _ ty z ?_ (setBlock_same hk) (r.nz.setAt _ us hpos) (fun i' cl e => ?_) (fun i' cl j y e1 e2 => ?_) (fun i1 j1 i2 j2 q g1 g2 => r.one _ _ _ _ _ (hsub _ _ _ g1) (hsub _ _ _ g2)) fun i1 j1 q g => r.ne _ _ _ (hsub _ _ _ g)
  ·rw [hσ]; simp only [List.size_toArray]; rw [setAt_length _ _ _ (by simpa using hpos)]; simp
  ·rw [List.getElem?_set] at e
   split at e
   ·split at e
    ·injection e with e; subst e; rw [setAt_length _ _ _ (by omega)]; exact hcl
    ·cases e
   ·exact r.len i' cl e
  ·rcases setrow_cell hc (by omega) e1 e2 with ⟨h0,h1,h2,h⟩ | ⟨h,cl0,h1,h2⟩
   ·subst h0
    rw [setAt_cell hpos hfn (by omega),if_pos ⟨rfl,h1,by omega⟩]
    have hjl:j - f < us.length:=by omega
    refine ⟨us[j - f],List.getElem?_eq_getElem hjl,CR.of ((hr _ _ _ h (List.getElem?_eq_getElem hjl)).mono (SLe.refl _) hl'),hul _ (List.getElem_mem hjl)⟩
   ·have hj:j < sz1:=by have:=r.len i' cl0 h1; have:=(List.getElem?_eq_some_iff.1 h2).1; omega
    rw [setAt_cell hpos hfn hj,if_neg (by rw [← hlu]; exact h)]
    obtain ⟨v,q1,q2,q3⟩:=r.cell i' cl0 j y h1 h2
    refine ⟨v,q1,q2.mono (SLe.refl _) hl' fun s2 y2 ex q o sp n2 cap ev hcap => ?_,q3⟩
    refine setBlock_ne (r.ne i' j q ⟨cl0,s2,y2,o,sp,n2,cap,h1,ex ▸ h2,ev ▸ q1,hcap⟩))
 refine ⟨undef,σ,World.setBlock w k (.cells (Go.Vai.setAt cc.toList (d + (i * sz1 + f)) us).toArray ty z),fun ob hob => .inr ⟨?_,rfl⟩,.dead _,?_,SLe.refl _,?_,fun _ _ h => h⟩
 ·simp only [execOp,hob,Instr.storeAt,Instr.sureAddr,hv,Sem.run_bind,Sem.run_pure,Result.andThen_ok,run_storeVar hn hu (by omega) r.mem r.nz hul (by omega:d + (i * sz1 + f) + n≤cc.size)]
 ·simp only [List.cons_append,List.nil_append,hk_cons]; exact W.1
 ·simp only [List.cons_append,List.nil_append,hk_cons]; exact W.2
structure FlatV (σ:Nat→Option Loc) (h:PH) (sz:Nat) (es:List (List AV)) (vs:List Value):Prop where
 len:vs.length=es.length * sz
 el : ∀ (i:Nat) (c:List AV),es[i]? = some c→c.length=sz
 rel : ∀ (i:Nat) (c:List AV) (j:Nat) (x:AV),es[i]? = some c→c[j]? = some x→∃ v,vs[i * sz + j]? = some v∧VR σ h x v∧leafV v=true
theorem FlatV.mono {h h':PH} (hl:HLe h h') {sz:Nat} {es:List (List AV)} {vs:List Value} (F:FlatV σ h sz es vs):FlatV σ h' sz es vs :=
 ⟨F.len,F.el,fun i c j x e1 e2 => let ⟨v,h1,h2,h3⟩:=F.rel i c j x e1 e2; ⟨v,h1,h2.mono (SLe.refl _) hl,h3⟩⟩
theorem FlatV.set {h:PH} {sz:Nat} {es:List (List AV)} {vs:List Value} (F:FlatV σ h sz es vs) {i:Nat} (hi:i < es.length) {ys:List AV} {us:List Value} (hy:ys.length=sz) (hl:us.length=sz) (hr : ∀ (j:Nat) (y:AV) (u:Value),ys[j]? = some y→us[j]? = some u→VR σ h y u∧leafV u=true) :
 FlatV σ h sz (es.set i ys) (setAt vs (i * sz) us)∧i * sz + us.length≤vs.length:=by
 have hle:i * sz + us.length≤vs.length:=by
  rw [F.len,hl]
  have:(i + 1) * sz≤es.length * sz:=Nat.mul_le_mul_right _ hi
  rw [Nat.add_mul] at this; omega
 refine ⟨⟨?_,fun i' c e => ?_,fun i' c j x e1 e2 => ?_⟩,hle⟩
 ·rw [setAt_length _ _ _ hle,F.len]; simp
 ·rw [List.getElem?_set] at e
  split at e
  ·first
   | (injection e with e; subst e; exact hy)
   | (split at e
      ·injection e with e; subst e; exact hy
      ·cases e)
  ·exact F.el i' c e
 ·rw [setAt_get _ _ _ hle]
  by_cases hii:i=i'
  ·subst hii
   rw [List.getElem?_set,if_pos rfl,if_pos hi] at e1
   injection e1 with e1; subst e1
   have hj:=(List.getElem?_eq_some_iff.1 e2).1
   rw [if_neg (by omega),if_pos (by omega)]
   have:i * sz + j - i * sz=j:=by omega
   rw [this]
   have hj':j < us.length:=by omega
   exact ⟨us[j],List.getElem?_eq_getElem hj',hr _ _ _ e2 (List.getElem?_eq_getElem hj')⟩
  ·rw [List.getElem?_set,if_neg hii] at e1
   have hj:j < sz:=by have:=F.el i' c e1; have:=(List.getElem?_eq_some_iff.1 e2).1; omega
   obtain ⟨v,h1,h2⟩:=F.rel i' c j x e1 e2
   refine ⟨v,?_,h2⟩
   rcases Nat.lt_or_gt_of_ne hii with hlt | hgt
   ·have:(i + 1) * sz≤i' * sz:=Nat.mul_le_mul_right _ hlt
    rw [Nat.add_mul] at this
    rw [if_neg (by omega),if_neg (by omega)]; exact h1
   ·have:(i' + 1) * sz≤i * sz:=Nat.mul_le_mul_right _ hgt
    rw [Nat.add_mul] at this
    rw [if_pos (by omega)]; exact h1
theorem FlatV.zeros {h:PH} (z:List Value) (hzl : ∀ u∈z,leafV u=true) (n:Nat):FlatV σ h z.length (List.replicate n (z.map cellAV)) ((List.range (n * z.length)).map fun i => z.getD (i % z.length) default):=by
 refine ⟨by simp,fun i c e => ?_,fun i c j x e1 e2 => ?_⟩
 ·rw [List.getElem?_replicate] at e
  split at e
  ·injection e with e; subst e; simp
  ·cases e
 ·rw [List.getElem?_replicate] at e1
  split at e1
  ·rename_i hi
   injection e1 with e1; subst e1
   have hj:j < z.length:=by have:=(List.getElem?_eq_some_iff.1 e2).1; simpa using this
   have hv:z[j]? = some z[j]:=List.getElem?_eq_getElem hj
   have hlt:i * z.length + j < n * z.length:=by
    have:(i + 1) * z.length≤n * z.length:=Nat.mul_le_mul_right _ hi
    rw [Nat.add_mul] at this; omega
   refine ⟨z[j],?_,VR.zeros z j x _ e2 hv,hzl _ (List.getElem_mem hj)⟩
   rw [List.getElem?_map,List.getElem?_range hlt]
   simp only [Option.map_some]
   have hm:(i * z.length + j) % z.length=j:=by
    rw [Nat.add_comm,Nat.add_mul_mod_self_right]; exact Nat.mod_eq_of_lt hj
   rw [hm]
   simp [List.getD,hv]
  ·cases e1
theorem bslGoR_sound {sz : Nat} {h : PH} (hh : h = frz (hk hp) σ C.X w) : ∀ (ps : List (Nat × Operand)) (es : List (List AV)) (vs : List Value), Sl C.G σ h sl a → FlatV σ h sz es vs → (∀ (i : Nat) (c : List AV), es[i]? = some c → c.all ownless = true) → ∀ es2, bslGoR sz (LX.av C.G sl) es (ps.map fun p => (p.1, compX p.2)) = some es2 →
 (∃ vs2:List Value,Instr.fill (fun i => some (i * sz,sz)) vs.toArray (ps.map fun p => (p.1,a.eval p.2))=some vs2.toArray∧FlatV σ h sz es2 vs2)∧es2.length=es.length∧∀ (i:Nat) (c:List AV),es2[i]? = some c→c.all ownless=true
 | [],es,vs,H,F,ho,es2,e => by
  simp only [List.map_nil,bslGoR] at e
  injection e with e; subst e
  exact ⟨⟨vs,rfl,F⟩,rfl,ho⟩
 | (i, x) :: ps, es, vs, H, F, ho, es2, e => by
  simp only [List.map_cons,bslGoR] at e
  split at e
  ·rename_i l hl
   split at e
   ·rename_i hc
    obtain ⟨us,hu,hlu,hr⟩:=cellsOf_sound hl (H.av x)
    have hul:=leaf_all hlu hr hc.2.1
    obtain ⟨F1,hle⟩:=F.set hc.2.2 hc.1 (by omega) fun j y u e1 e2 => ⟨hr j y u e1 e2,hul u (List.mem_of_getElem? e2)⟩
    obtain ⟨⟨vs2,g1,g2⟩,g3,g4⟩:=bslGoR_sound hh ps _ _ H F1 (fun i' c' e' => by
     rw [List.getElem?_set] at e'
     split at e'
     ·split at e'
      ·injection e' with e'; subst e'
       exact List.all_eq_true.2 fun y hy => by
        have:=List.all_eq_true.1 hc.2.1 y hy
        cases y <;> first | rfl | (simp [leaf] at this)
      ·cases e'
     ·exact ho i' c' e') es2 e
    refine ⟨⟨vs2,?_,g2⟩,by simpa using g3,g4⟩
    simp only [List.map_cons,Instr.fill,hu]
    rw [if_neg (by simp; omega)]
    rw [show us.toArray.zipIdx.foldl (fun (cs:Array Value) (p:Value × Nat) => cs.setIfInBounds (i * sz + p.2) p.1) vs.toArray=(setAt vs (i * sz) us).toArray from ?_]
    ·exact g1
    ·have:=foldl_setAt us 0 vs.toArray (i * sz) (by simp; omega)
     simp only [Nat.add_zero] at this
     rw [← this,← Array.foldl_toList]
     congr 1
     simp
   ·cases e
  ·cases e
theorem noOwn_row {sz:Nat} {es:List (List AV)} (h : ∀ (i:Nat) (c:List AV),es[i]? = some c→c.all ownless=true):NoOwn (.row sz es):=by
 refine ⟨?_,by intro _ _ _ h; cases h⟩
 intro sz' es' e i j cl s y h1 h2
 injection e with e1 e2
 subst e2
 have:=List.all_eq_true.1 (h i cl h1) _ (List.mem_of_getElem? h2)
 simp [ownless] at this
theorem heap_rrow {o:Op} {t:TypeId} {c:Array Value} {z:Nat × Nat} {sz len cap:Nat} {es:List (List AV)} (R:HRel C σ (hk hp) w) (hn:σ nm=none) (hz:NoFz c z) (ho : ∀ (i:Nat) (c:List AV),es[i]? = some c→c.all ownless=true)
 (F:FlatV σ (frz (hk hp) σ C.X w) sz es (c.toList.take (es.length * sz))) (hlen:len=es.length) (hcap:len≤cap) (hc:cap * sz≤c.size)
 (hrun : ∀ ob:Oper,ob.op=o→(execOp a.eval ob).run P w=.ok (.value (.slice (some ⟨w.heap.size,0,none⟩) len cap)) (w.alloc (.cells c t z))) :
 HeapOk P C σ hp a w nm o (.osl nm sz 0 len) [(nm,some (.row sz es))]:=by
 have hno:=noOwn_row (sz:=sz) ho
 have hl:=frz_fresh R nm (.cells c t z) 0 c.size sz (.row sz es) hno
 have hsub : ∀ i j q,¬ SubAt c 0 sz es i j q:=fun i j q h => by
  obtain ⟨cl,s,y,h1,h2⟩:=h.get
  exact hno.1 sz es rfl i j cl s y h1 h2
 refine ⟨_,upd σ nm (some (.here w.heap.size 0 c.size sz)),_,fun ob ho => .inl (hrun ob ho),?_,?_,SLe.upd hn _,?_,upd_none⟩
 ·exact .osl nm sz 0 len w.heap.size 0 c.size _ cap (upd_same _ _ _) hcap (.inr (by simp)) (by omega)
 ·simp only [List.cons_append,List.nil_append,hk_cons]
  refine R.fresh hn _ 0 c.size sz _ (.row sz es w.heap.size 0 c t z (upd_same _ _ _) heap_alloc_new hz F.el (fun i cl j x e1 e2 => ?_) (fun i j i' j' q h => absurd h (hsub _ _ _)) fun i j q h => absurd h (hsub _ _ _)) hno
  obtain ⟨v,hv,hr,hlf⟩:=F.rel i cl j x e1 e2
  refine ⟨v,?_,CR.of (hr.mono (SLe.upd hn _) hl),hlf⟩
  rw [List.getElem?_take] at hv
  split at hv
  ·simpa using hv
  ·cases hv
 ·simp only [List.cons_append,List.nil_append,hk_cons]; exact hl
theorem zeros_ownless (z:List Value) (n:Nat) : ∀ (i:Nat) (c:List AV),(List.replicate n (z.map cellAV))[i]? = some c→c.all ownless=true:=by
 intro i c e
 rw [List.getElem?_replicate] at e
 split at e
 ·injection e with e; subst e
  refine List.all_eq_true.2 fun x hx => ?_
  obtain ⟨v,_,rfl⟩:=List.mem_map.1 hx
  unfold cellAV
  split
  ·rfl
  ·split <;> rfl
 ·cases e
theorem heap_bslr_ok {t e:TypeId} {sz len:Nat} {z:List Value} {ps:Array (Nat × Operand)} {es:List (List AV)} (ht:P.underlying t=some (.slice e)) (hs:sizeC P e=some sz) (hz:zeroC P e=some z) (hc:0 < sz∧z.length=sz∧len * sz≤16777216)
 (H:Sl C.G σ (frz (hk hp) σ C.X w) sl a) (R:HRel C σ (hk hp) w) (hn:σ nm=none) (hb:bslGoR sz (LX.av C.G sl) (List.replicate len (z.map cellAV)) (ps.toList.map fun p => (p.1,compX p.2))=some es) :
 HeapOk P C σ hp a w nm (.buildSlice t len ps) (.osl nm sz 0 len) [(nm,some (.row sz es))]:=by
 obtain ⟨h0,rfl,h2⟩:=hc
 obtain ⟨zv,hzc,hzl,hzr⟩:=zeroC_inv hz
 obtain ⟨⟨vs2,g1,g2⟩,g3,g4⟩:=bslGoR_sound rfl ps.toList _ _ H (FlatV.zeros z hzl len) (zeros_ownless z len) es hb
 have hel:es.length=len:=by simpa using g3
 have hmap:(ps.map fun (i,x) => (i,a.eval x)).toList=ps.toList.map fun p => (p.1,a.eval p.2):=by simp
 have hvl:vs2.length=es.length * z.length:=g2.len
 refine heap_rrow (c:=vs2.toArray) (z:=(0,0)) (t:=e) (cap:=len) R hn (.inl rfl) g4 ?_ hel.symm (Nat.le_refl _) (by simp [hvl,hel]) fun ob ho => ?_
 ·have:vs2.toArray.toList.take (es.length * z.length)=vs2:=by simp [← hvl]
  rw [this]; exact g2
 ·simp only [execOp,ho,Instr.buildSlice,Sem.run_bind,run_und ht,run_size hs,Result.andThen_ok]
  rw [if_neg (by omega)]
  simp only [hmap]
  by_cases h00:len * z.length=0
  ·rw [if_pos h00]
   have harr:(Array.range (len * z.length)).map (fun i => (#[]:Array Value)[i % (#[]:Array Value).size]!)=((List.range (len * z.length)).map fun i => z.getD (i % z.length) default).toArray:=by
    rw [h00]; simp
   simp only [Sem.run_bind,Sem.run_pure,Result.andThen_ok,harr,g1,run_newRow]
  ·rw [if_neg h00]
   simp only [Sem.run_bind,Sem.run_pure,Result.andThen_ok,hzr,hzc,zeros_arr,g1,run_newRow]
theorem heap_mksr_ok {t e:TypeId} {i:TypeInfo} {z:List Value} {l c:Operand} {n m:Int} {k1 k2:IntKind} (ht:P.underlying t=some (.slice e)) (hi:P.info? e=some i) (hz:zeroC P e=some z) (hc:0 < i.bytes∧0 < i.size∧z.length=i.size)
 (hl:a.eval l=.int k1 n) (hcv:a.eval c=.int k2 m) (hb:0≤n∧n≤m∧i.bytes * m≤281474976710656) (R:HRel C σ (hk hp) w) (hn:σ nm=none) :
 HeapOk P C σ hp a w nm (.makeSlice t l c) (.osl nm i.size 0 n.toNat) [(nm,some (.row i.size (List.replicate n.toNat (z.map cellAV))))]:=by
 obtain ⟨h0,h1,h2⟩:=hc
 obtain ⟨b0,b1,b2⟩:=hb
 obtain ⟨zv,hzc,hzl,hzr⟩:=zeroC_inv hz
 have hm:m≤281474976710656:=by
  have:(1:Int) * m≤i.bytes * m:=Int.mul_le_mul_of_nonneg_right (by omega) (by omega)
  omega
 have hsize:sizeC P e=some i.size:=by simp [sizeC,hi]
 refine heap_rrow (c:=((List.range (m.toNat * z.length)).map fun i => z.getD (i % z.length) default).toArray) (z:=(0,0)) (t:=e) (cap:=m.toNat) R hn (.inl rfl) (zeros_ownless z _) ?_ (by simp) (by omega) (by simp [h2]) fun ob ho => ?_
 ·rw [← h2]
  have F:=FlatV.zeros (σ:=σ) (h:=frz (hk hp) σ C.X w) z hzl n.toNat
  have hle:n.toNat * z.length≤m.toNat * z.length:=Nat.mul_le_mul_right _ (by omega)
  have:(((List.range (m.toNat * z.length)).map fun i => z.getD (i % z.length) default).toArray.toList.take ((List.replicate n.toNat (z.map cellAV)).length * z.length))=(List.range (n.toNat * z.length)).map fun i => z.getD (i % z.length) default:=by
   simp only [List.length_replicate]
   rw [← List.map_take]
   congr 1
   apply List.ext_getElem?
   intro q
   rw [List.getElem?_take]
   by_cases hq:q < n.toNat * z.length
   ·rw [if_pos hq,List.getElem?_range (by omega),List.getElem?_range hq]
   ·rw [if_neg hq,List.getElem?_eq_none (by simp; omega)]
  rw [this]; exact F
 ·have w1:IntKind.i64.wrap n=n:=wrap64_id (by omega) (by omega)
  have w2:IntKind.i64.wrap m=m:=wrap64_id (by omega) (by omega)
  simp only [execOp,ho,Instr.makeSlice,Sem.run_bind,run_und ht,Result.andThen_ok,hl,hcv,asInt,asIntOf,Sem.run_pure,run_info hi,w1,w2]
  rw [if_neg (by rw [Bool.or_eq_true,Bool.or_eq_true] ; simp; omega)]
  simp only [Sem.run_bind,run_askRoom,Result.andThen_ok,run_size hsize]
  by_cases h00:m.toNat * i.size=0
  ·rw [if_pos h00]
   have e0:m.toNat * z.length=0:=by rw [h2]; exact h00
   have er:Array.range 0 = #[]:=rfl
   simp only [Sem.run_bind,Sem.run_pure,Result.andThen_ok,run_newRow,h00,e0,er]
   simp
  ·rw [if_neg h00]
   simp only [Sem.run_bind,Sem.run_pure,Result.andThen_ok,hzr,hzc,run_newRow]
   rw [← h2,zeros_arr]
end Go.Vai
namespace Go.Vai
variable {P:Program} {C:Ctx} {σ:Nat→Option Loc} {w:World} {a:Act} {nm:Nat} {hp:HW} {sl:List (Nat × AV)}
def SubB (σ:Nat→Option Loc) (hp:HW) (w:World) (b i j q:Nat):Prop :=
 ∃ sz es k d c e z,hk hp b=some (.row sz es)∧σ b=some (.here k d c.size sz)∧w.heap[k]? = some (.cells c e z)∧SubAt c d sz es i j q
theorem SubB.live {b i j q:Nat} (h:SubB σ hp w b i j q):Live (hk hp) σ w b q :=
 let ⟨sz,es,k,d,c,e,z,h1,h2,h3,h4⟩:=h
 ⟨_,h1,.sub sz es k d c.size c e z i j q h2 h3 h4⟩
theorem RowAt.subB {b sz:Nat} {es:List (List AV)} {k d:Nat} {c:Array Value} {e:TypeId} {z:Nat × Nat} (hb:hk hp b=some (.row sz es)) (r:RowAt C σ hp w b sz es k d c e z) {i j q:Nat}:SubB σ hp w b i j q↔SubAt c d sz es i j q:=by
 constructor
 ·rintro ⟨sz1,es1,k1,d1,c1,e1,z1,h1,h2,h3,h4⟩
  rw [hb] at h1
  injection h1 with h1; injection h1 with q1 q2; subst q1; subst q2
  rw [r.at'] at h2
  injection h2 with h2; injection h2 with q1 q2 q3 q4; subst q1; subst q2
  rw [r.mem] at h3
  injection h3 with h3; injection h3 with q1 q2 q3; subst q1
  exact h4
 ·intro h
  exact ⟨sz,es,k,d,c,e,z,hb,r.at',r.mem,h⟩
theorem SubB.one (R:HRel C σ (hk hp) w) {b i j i' j' q:Nat} (h:SubB σ hp w b i j q) (h':SubB σ hp w b i' j' q):i=i'∧j=j':=by
 obtain ⟨sz,es,k,d,c,e,z,h1,h2,h3,h4⟩:=h
 obtain ⟨_,c2,e2,z2,hc,r⟩:=row_at R h1 h2
 have hh:=(r.subB h1).1 h'
 have h3':=r.mem
 rw [h3] at h3'
 injection h3' with h3'; injection h3' with q1 q2 q3; subst q1
 exact r.one _ _ _ _ _ h4 hh
theorem HRel.rowNew (R:HRel C σ (hk hp) w) (hn:σ nm=none) {b bx len:Nat} (hbb:b≠bx∨len=0) {dr:Nat→Option Blk} (hdr : ∀ b' blk,dr b'=some blk→hk hp b'=some blk∧b'≠bx∧(0 < len→b'≠b)) {w':World} {K d sz:Nat} {c:Array Value} {e:TypeId} {z:Nat × Nat} {L:List (List AV)}
 (hF:Frame0 C.own0 C.w0 w') (hsz:w.heap.size≤w'.heap.size) (hkeep : ∀ k,k < w.heap.size→k≠K→w'.heap[k]? = w.heap[k]?) (hK:(Owns σ w b ((hk hp b).getD (.box [])) K∧hk hp b≠none∧b≠bx∧(∀ b' blk,dr b'=some blk→b'≠b)∧∀ i j q,SubB σ hp w b i j q→q≠K)∨w.heap.size≤K)
 (hm:w'.heap[K]? = some (.cells c e z)) (hz:NoFz c z) (hlen : ∀ (i:Nat) (cl:List AV),L[i]? = some cl→cl.length=sz)
 (hcell : ∀ (i:Nat) (cl:List AV) (j:Nat) (x:AV),L[i]? = some cl→cl[j]? = some x→∃ v,c[d + (i * sz + j)]? = some v∧CR σ (frz (hk hp) σ C.X w) w x v∧leafV v=true)
 (hsrc : ∀ i j q,SubAt c d sz L i j q→(i < len∧SubB σ hp w b i j q)∨(len≤i∧SubB σ hp w bx (i - len) j q)) :
 HRel C (upd σ nm (some (.here K d c.size sz))) (upd dr nm (some (.row sz L))) w'∧HLe (frz (hk hp) σ C.X w) (frz (upd dr nm (some (.row sz L))) (upd σ nm (some (.here K d c.size sz))) C.X w'):=by
 have hsub : ∀ i j q,SubAt c d sz L i j q→q≠K∧q < w.heap.size∧(Live (hk hp) σ w bx q∨(0 < len∧Live (hk hp) σ w b q)):=by
  intro i j q h
  rcases hsrc i j q h with ⟨h1,h2⟩ | ⟨h1,h2⟩
  ·have hq:=(R.ow _ _ h2.live).2.1
   refine ⟨fun e => ?_,hq,.inr ⟨by omega,h2.live⟩⟩
   rcases hK with ⟨_,_,_,_,g⟩ | g
   ·exact g _ _ _ h2 e
   ·omega
  ·have hq:=(R.ow _ _ h2.live).2.1
   refine ⟨fun e => ?_,hq,.inl h2.live⟩
   rcases hK with ⟨g1,g2,g3,_⟩ | g
   ·subst e
    cases hb:hk hp b with
    | none => exact g2 hb
    | some blk =>
     rw [hb] at g1
     exact g3 (R.inj _ _ _ ⟨blk,hb,g1⟩ h2.live)
   ·omega
 have hown : ∀ q,Owns (upd σ nm (some (.here K d c.size sz))) w' nm (.row sz L) q→q=K∨∃ i j,SubAt c d sz L i j q:=by
  intro q h
  cases h with
  | «at» _ _ d1 n1 s1 g =>
   rw [upd_same] at g
   injection g with g; injection g with g
   exact .inl g.symm
  | sub _ _ k1 d1 n1 c1 e1 z1 i1 j1 _ g1 g2 g3 =>
   rw [upd_same] at g1
   injection g1 with g1; injection g1 with q1 q2 q3 q4; subst q1; subst q2
   rw [hm] at g2
   injection g2 with g2; injection g2 with q1 q2 q3; subst q1
   exact .inr ⟨i1,j1,g3⟩
 have hKw:K < w'.heap.size:=(Array.getElem?_eq_some_iff.1 hm).1
 have hKl:K < w.heap.size→∃ b0,Live (hk hp) σ w b0 K∧∀ b' blk,dr b'=some blk→b'≠b0:=by
  intro h
  rcases hK with ⟨g1,g2,g3,g4,g5⟩ | g
  ·cases hb:hk hp b with
   | none => exact absurd hb g2
   | some blk => rw [hb] at g1; exact ⟨b,⟨blk,hb,g1⟩,g4⟩
  ·omega
 have hlv : ∀ b' q,Live (upd dr nm (some (.row sz L))) (upd σ nm (some (.here K d c.size sz))) w' b' q→(b'=nm∧(q=K∨∃ i j,SubAt c d sz L i j q))∨(b'≠nm∧(∃ blk,dr b'=some blk)∧Live (hk hp) σ w b' q∧q≠K):=by
  rintro b' q ⟨blk',h1,h2⟩
  by_cases e:b'=nm
  ·subst e
   rw [upd_same] at h1
   injection h1 with h1; subst h1
   exact .inl ⟨rfl,hown _ h2⟩
  ·rw [upd_ne _ _ e] at h1
   obtain ⟨g1,g2,g3⟩:=hdr _ _ h1
   have keep : ∀ k d n sz,σ b'=some (.here k d n sz)→w'.heap[k]? = w.heap[k]?∧k≠K:=by
    intro k d n sz hσ
    have hL:Live (hk hp) σ w b' k:=⟨blk',g1,.at _ _ _ _ _ hσ⟩
    have hk:=(R.ow _ _ hL).2.1
    have hne:k≠K:=by
     rintro rfl
     obtain ⟨b0,q1,q2⟩:=hKl hk
     exact q2 _ _ h1 (R.inj _ _ _ hL q1)
    exact ⟨hkeep k hk hne,hne⟩
   have h2':=h2.keep (upd_ne _ _ e) fun k d n sz hσ => (keep k d n sz hσ).1
   refine .inr ⟨e,⟨blk',h1⟩,⟨blk',g1,h2'⟩,?_⟩
   rintro rfl
   have hk:=(R.ow _ _ ⟨blk',g1,h2'⟩).2.1
   obtain ⟨b0,q1,q2⟩:=hKl hk
   exact q2 _ _ h1 (R.inj _ _ _ ⟨blk',g1,h2'⟩ q1)
 have hdis : ∀ b' q i j,(∃ blk,dr b'=some blk)→Live (hk hp) σ w b' q→SubAt c d sz L i j q→False:=by
  rintro b' q i j ⟨blk,h0⟩ h1 h2
  obtain ⟨g1,g2,g3⟩:=hdr _ _ h0
  rcases (hsub i j q h2).2.2 with h | ⟨hl,h⟩
  ·exact g2 (R.inj _ _ _ h1 h)
  ·exact g3 hl (R.inj _ _ _ h1 h)
 refine R.step (fun k => k=K) (SLe.upd hn _) hF hsz hkeep (fun k hk hlt => by subst hk; obtain ⟨b0,q1,_⟩:=hKl hlt; exact ⟨b0,q1⟩) (fun b' q h => ?_) (fun b1 b2 q h1 h2 => ?_) fun b' blk e => ?_
 ·rcases hlv _ _ h with ⟨_,rfl | ⟨i,j,hs⟩⟩ | ⟨_,_,h,_⟩
  ·refine ⟨hKw,?_⟩
   rcases Nat.lt_or_ge q w.heap.size with hq | hq
   ·obtain ⟨b0,q1,_⟩:=hKl hq; exact .inl ⟨b0,q1⟩
   ·exact .inr hq
  ·obtain ⟨_,g2,g3⟩:=hsub _ _ _ hs
   refine ⟨by omega,.inl ?_⟩
   rcases g3 with g | ⟨_,g⟩
   ·exact ⟨_,g⟩
   ·exact ⟨_,g⟩
  ·have:=(R.ow _ _ h).2.1
   exact ⟨by omega,.inl ⟨_,h⟩⟩
 ·rcases hlv _ _ h1 with ⟨rfl,g1⟩ | ⟨e1,e1',g1,n1⟩ <;> rcases hlv _ _ h2 with ⟨rfl,g2⟩ | ⟨e2,e2',g2,n2⟩
  ·rfl
  ·rcases g1 with g1 | ⟨i,j,g1⟩
   ·exact absurd g1 n2
   ·exact (hdis _ _ _ _ e2' g2 g1).elim
  ·rcases g2 with g2 | ⟨i,j,g2⟩
   ·exact absurd g2 n1
   ·exact (hdis _ _ _ _ e1' g1 g2).elim
  ·exact R.inj _ _ _ g1 g2
 ·by_cases e1:b'=nm
  ·subst e1
   rw [upd_same] at e
   injection e with e; subst e
   refine .inr fun hl => .row sz L K d c _ z (upd_same _ _ _) hm hz hlen (fun i cl j x h1 h2 => ?_) (fun i j i' j' q h1 h2 => ?_) fun i j q h => (hsub _ _ _ h).1
   ·obtain ⟨v,q1,q2,q3⟩:=hcell i cl j x h1 h2
    refine ⟨v,q1,q2.mono (SLe.upd hn _) hl fun s2 y2 ex q o sp n2 cap ev hcap => ?_,q3⟩
    obtain ⟨r1,r2,_⟩:=hsub i j q ⟨cl,s2,y2,o,sp,n2,cap,h1,ex ▸ h2,ev ▸ q1,hcap⟩
    exact hkeep q r2 r1
   ·rcases hsrc _ _ _ h1 with ⟨a1,a2⟩ | ⟨a1,a2⟩ <;> rcases hsrc _ _ _ h2 with ⟨c1,c2⟩ | ⟨c1,c2⟩
    ·exact a2.one R c2
    ·exact absurd (R.inj _ _ _ a2.live c2.live) (hbb.resolve_right (by omega))
    ·exact absurd (R.inj _ _ _ c2.live a2.live) (hbb.resolve_right (by omega))
    ·have:=a2.one R c2
     exact ⟨by omega,this.2⟩
  ·rw [upd_ne _ _ e1] at e
   obtain ⟨g1,g2,g3⟩:=hdr _ _ e
   refine .inl ⟨g1,fun k hko hkK => ?_⟩
   subst hkK
   have hL:Live (hk hp) σ w b' k:=⟨blk,g1,hko⟩
   obtain ⟨b0,q1,q2⟩:=hKl (R.ow _ _ hL).2.1
   exact q2 _ _ e (R.inj _ _ _ hL q1)
def dumRow (c:Array Value) (d sz n:Nat):List (List FV):=(List.range n).map fun i => (List.range sz).map fun j => .sc (c.getD (d + (i * sz + j)) undef)
theorem dumRow_get {c:Array Value} {d sz n i:Nat} {cl:List FV} (h:(dumRow c d sz n)[i]? = some cl):i < n∧cl=(List.range sz).map fun j => FV.sc (c.getD (d + (i * sz + j)) undef):=by
 unfold dumRow at h
 rw [List.getElem?_map] at h
 by_cases hi:i < n
 ·rw [List.getElem?_range hi,Option.map_some] at h
  injection h with h
  exact ⟨hi,h.symm⟩
 ·rw [List.getElem?_eq_none (by simpa using hi)] at h
  cases h
theorem RowAt.dum {b sz:Nat} {es:List (List AV)} {k d:Nat} {c:Array Value} {e:TypeId} {z:Nat × Nat} (r:RowAt C σ hp w b sz es k d c e z) {n:Nat} (hn:n≤es.length) (h:PH):ElemsAt w h k d sz (dumRow c d sz n):=by
 refine ⟨fun i cl e => ?_,fun i cl j x e1 e2 => ?_⟩
 ·obtain ⟨_,rfl⟩:=dumRow_get e; simp
 ·obtain ⟨hi,rfl⟩:=dumRow_get e1
  rw [List.getElem?_map] at e2
  by_cases hj:j < sz
  ·rw [List.getElem?_range hj,Option.map_some] at e2
   injection e2 with e2
   subst e2
   have hie:es[i]? = some es[i]:=List.getElem?_eq_getElem (by omega)
   have hl:=r.len i _ hie
   obtain ⟨v,q1,q2,q3⟩:=r.cell i _ j _ hie (List.getElem?_eq_getElem (by omega))
   refine ⟨v,by rw [cell_block r.mem]; exact q1,?_⟩
   have:c.getD (d + (i * sz + j)) undef=v:=by
    have hlt:=(Array.getElem?_eq_some_iff.1 q1).1
    rw [Array.getD,dif_pos hlt]
    exact (Array.getElem?_eq_some_iff.1 q1).2
   rw [this]
   exact .sc v q3
  ·rw [List.getElem?_eq_none (by simpa using hj)] at e2
   cases e2
theorem dumRow_len (c:Array Value) (d sz n:Nat):(dumRow c d sz n).length=n:=by simp [dumRow]
theorem dumRow_flat {h:PH} {c:Array Value} {d sz n:Nat} {us:List Value} (F:FlatR h sz (dumRow c d sz n) us) {i j:Nat} (hi:i < n) (hj:j < sz):us[i * sz + j]? = some (c.getD (d + (i * sz + j)) undef):=by
 obtain ⟨v,h1,h2⟩:=F.rel i ((List.range sz).map fun j => FV.sc (c.getD (d + (i * sz + j)) undef)) j (.sc (c.getD (d + (i * sz + j)) undef)) (by
  unfold dumRow
  rw [List.getElem?_map,List.getElem?_range hi]; rfl) (by rw [List.getElem?_map,List.getElem?_range hj]; rfl)
 cases h2 with
 | sc _ _ => exact h1
section
variable {t u e:TypeId} {i:TypeInfo} {z:List Value} {s x:Operand} {xs:Array Operand} {ts:Array TypeId} {us:List Value}
theorem row_appX (R:HRel C σ (hk hp) w) {bx sz:Nat} {er:List (List AV)} {v:Value} (hb:hk hp bx=some (.row sz er)) {szx:Nat} (hszx:er≠[]→szx=sz) (hv:VR σ (frz (hk hp) σ C.X w) (.osl bx szx 0 er.length) v) :
 ∃ ex us,AppX P w (frz (hk hp) σ C.X w) szx v ex us∧ex.length=er.length∧(er≠[]→∃ k d c e z,RowAt C σ hp w bx sz er k d c e z∧∀ i j,i < er.length→j < sz→us[i * sz + j]? = some (c.getD (d + (i * sz + j)) undef)):=by
 by_cases h0:er=[]
 ·subst h0
  have : ∃ A cap,v=.slice A 0 cap:=by
   rcases hv.osl_inv with ⟨_,_,A,e1⟩ | ⟨k,d,n,a,cap,_,_,_,_,e1⟩
   ·exact ⟨A,0,e1⟩
   ·exact ⟨some a,cap,e1⟩
  obtain ⟨A,cap,rfl⟩:=this
  obtain ⟨us,hX⟩:=appX_arr (P:=P) (w:=w) (h:=frz (hk hp) σ C.X w) (sz:=szx) (A:=A) (cap:=cap) (ex:=[]) fun h => absurd rfl h
  exact ⟨[],us,hX,rfl,fun h => absurd rfl h⟩
 ·obtain rfl:=hszx h0
  have hpos:0 < er.length:=List.length_pos_iff.2 h0
  rcases hv.osl_inv with ⟨_,h1,_⟩ | ⟨k,d,n,a,cap,hσ,h1,h2,h3,rfl⟩
  ·omega
  ·obtain ⟨_,c,e,z,rfl,r⟩:=row_at R hb hσ
   have ha:=h2.resolve_left (by omega)
   simp only [Nat.zero_mul,Nat.add_zero] at ha
   subst ha
   obtain ⟨us,hX⟩:=appX_arr (P:=P) (w:=w) (h:=frz (hk hp) σ C.X w) (sz:=szx) (A:=some ⟨k,d,none⟩) (cap:=cap) (ex:=dumRow c d szx er.length) fun _ => ⟨k,d,rfl,r.dum (Nat.le_refl _) _⟩
   rw [dumRow_len] at hX
   exact ⟨_,us,hX,dumRow_len _ _ _ _,fun _ => ⟨k,d,c,e,z,r,fun i j hi hj => dumRow_flat hX.flat hi hj⟩⟩
theorem joined_cells {b bx len sz szb:Nat} {es er:List (List AV)} {cN:Array Value} {dN:Nat} (hlen:len≤es.length)
 (h1:0 < len→∃ k d c e z,hk hp b=some (.row sz es)∧RowAt C σ hp w b sz es k d c e z∧∀ i j,i < len→j < sz→cN[dN + (i * sz + j)]? = some (c.getD (d + (i * sz + j)) undef))
 (h2:er≠[]→∃ k d c e z,hk hp bx=some (.row sz er)∧RowAt C σ hp w bx sz er k d c e z∧∀ i j,i < er.length→j < sz→cN[dN + ((len + i) * sz + j)]? = some (c.getD (d + (i * sz + j)) undef)) :
 (∀ (i:Nat) (cl:List AV),(es.take len ++ er)[i]? = some cl→cl.length=sz) ∧
 (∀ (i:Nat) (cl:List AV) (j:Nat) (x:AV),(es.take len ++ er)[i]? = some cl→cl[j]? = some x→∃ v,cN[dN + (i * sz + j)]? = some v∧CR σ (frz (hk hp) σ C.X w) w x v∧leafV v=true) ∧
 ∀ i j q,SubAt cN dN sz (es.take len ++ er) i j q→(i < len∧SubB σ hp w b i j q)∨(len≤i∧SubB σ hp w bx (i - len) j q):=by
 have htl:(es.take len).length=len:=by simp; omega
 have hget : ∀ (i:Nat) (cl:List AV),(es.take len ++ er)[i]? = some cl→(i < len∧es[i]? = some cl)∨(len≤i∧er[i - len]? = some cl):=by
  intro i cl h
  rw [List.getElem?_append,htl] at h
  split at h
  ·rename_i hi
   rw [List.getElem?_take,if_pos hi] at h
   exact .inl ⟨hi,h⟩
  ·exact .inr ⟨by omega,h⟩
 have gd : ∀ {c:Array Value} {p:Nat} {v:Value},c[p]? = some v→c.getD p undef=v:=by
  intro c p v h
  have hlt:=(Array.getElem?_eq_some_iff.1 h).1
  rw [Array.getD,dif_pos hlt]
  exact (Array.getElem?_eq_some_iff.1 h).2
 refine ⟨fun i cl h => ?_,fun i cl j x e1 e2 => ?_,fun i j q h => ?_⟩
 ·rcases hget i cl h with ⟨a1,a2⟩ | ⟨a1,a2⟩
  ·obtain ⟨k,d,c,e,z,_,r,_⟩:=h1 (by omega)
   exact r.len i cl a2
  ·obtain ⟨k,d,c,e,z,_,r,_⟩:=h2 (fun h => by subst h; simp at a2)
   exact r.len _ cl a2
 ·rcases hget i cl e1 with ⟨a1,a2⟩ | ⟨a1,a2⟩
  ·obtain ⟨k,d,c,e,z,_,r,hc⟩:=h1 (by omega)
   have hj:j < sz:=by have:=r.len _ _ a2; have:=(List.getElem?_eq_some_iff.1 e2).1; omega
   obtain ⟨v,q1,q2,q3⟩:=r.cell i cl j x a2 e2
   exact ⟨v,by rw [hc i j a1 hj,gd q1],q2,q3⟩
  ·obtain ⟨k,d,c,e,z,_,r,hc⟩:=h2 (fun h => by subst h; simp at a2)
   have hj:j < sz:=by have:=r.len _ _ a2; have:=(List.getElem?_eq_some_iff.1 e2).1; omega
   obtain ⟨v,q1,q2,q3⟩:=r.cell _ cl j x a2 e2
   have hi:=(List.getElem?_eq_some_iff.1 a2).1
   have:=hc (i - len) j hi hj
   rw [show len + (i - len)=i by omega] at this
   exact ⟨v,by rw [this,gd q1],q2,q3⟩
 ·obtain ⟨cl,s2,y2,o,sp,n2,cap,e1,e2,e3,e4⟩:=h
  rcases hget i cl e1 with ⟨a1,a2⟩ | ⟨a1,a2⟩
  ·obtain ⟨k,d,c,e,z,hb,r,hc⟩:=h1 (by omega)
   have hj:j < sz:=by have:=r.len _ _ a2; have:=(List.getElem?_eq_some_iff.1 e2).1; omega
   obtain ⟨v,q1,q2,q3⟩:=r.cell i cl j _ a2 e2
   rw [hc i j a1 hj,gd q1] at e3
   injection e3 with e3; subst e3
   exact .inl ⟨a1,(r.subB hb).2 ⟨cl,s2,y2,o,sp,n2,cap,a2,e2,q1,e4⟩⟩
  ·obtain ⟨k,d,c,e,z,hb,r,hc⟩:=h2 (fun h => by subst h; simp at a2)
   have hj:j < sz:=by have:=r.len _ _ a2; have:=(List.getElem?_eq_some_iff.1 e2).1; omega
   obtain ⟨v,q1,q2,q3⟩:=r.cell _ cl j _ a2 e2
   have hi:=(List.getElem?_eq_some_iff.1 a2).1
   have:=hc (i - len) j hi hj
   rw [show len + (i - len)=i by omega] at this
   rw [this,gd q1] at e3
   injection e3 with e3; subst e3
   exact .inr ⟨a1,(r.subB hb).2 ⟨cl,s2,y2,o,sp,n2,cap,a2,e2,q1,e4⟩⟩
theorem isRow_inv {x:AV} {bx:Nat} {er:List (List AV)} (h:isRow hp x=some (bx,er)) : ∃ sz off len szr,x=.osl bx sz off len∧hk hp bx=some (.row szr er):=by
 unfold isRow at h
 split at h
 ·rename_i b sz off len
  split at h
  ·rename_i szr es hb
   injection h with h; injection h with h1 h2; subst h1; subst h2
   exact ⟨sz,off,len,szr,rfl,hb⟩
  ·cases h
 ·cases h
theorem rapp_grow (hxs:xs.toList=[s,x]) (hts:ts.toList=[t,u]) (ht:P.underlying t=some (.slice e)) (hu : ∃ e',P.underlying u=some (.slice e')) (hi:P.info? e=some i) (hz:zeroC P e=some z) (hzl:z.length=i.size) (hb0:0 < i.bytes) (R:HRel C σ (hk hp) w) (hn:σ nm=none)
 {ex:List (List FV)} (X:AppX P w (frz (hk hp) σ C.X w) i.size (a.eval x) ex us) {B:Option Addr} {n0 cap:Nat} (hv:a.eval s=.slice B n0 cap) (hneed:cap < n0 + ex.length) (hbd:(n0 + ex.length) * i.bytes≤140737488355328) {us0:List Value} (h0 : ∀ w2:World,w2.heap=w.heap→(Builtin.firstCells i.size n0 (.slice B n0 cap)).run P w2=.ok us0.toArray w2) (hu0:us0.length=n0 * i.size)
 {b bx:Nat} {es er:List (List AV)} (hle:n0≤es.length) (hlx:ex.length=er.length) (hbb:b≠bx∨n0=0) {ws:HW} (hdr : ∀ b' blk,hk (ws ++ hp) b'=some blk→hk hp b'=some blk∧b'≠bx∧(0 < n0→b'≠b))
 (h1:0 < n0→∃ k d c e z,hk hp b=some (.row i.size es)∧RowAt C σ hp w b i.size es k d c e z∧∀ i' j,i' < n0→j < i.size→us0[i' * i.size + j]? = some (c.getD (d + (i' * i.size + j)) undef))
 (h2:er≠[]→∃ k d c e z,hk hp bx=some (.row i.size er)∧RowAt C σ hp w bx i.size er k d c e z∧∀ i' j,i' < er.length→j < i.size→us[i' * i.size + j]? = some (c.getD (d + (i' * i.size + j)) undef)) :
 HeapOk P C σ hp a w nm (.call { callee:=.builtin .append,args:=xs,argTypes:=ts }) (.osl nm i.size 0 (n0 + er.length)) ((nm,some (.row i.size (es.take n0 ++ er))) :: ws):=by
 obtain ⟨cap',w1,rest,g1,rfl,g2,hr⟩:=run_append_grow ht (.inl hu) hi rfl hz hzl hb0 X (B:=B) (n0:=n0) (cap:=cap) hneed hbd h0
 have hxl:=X.flat.len
 have R1:HRel C σ (hk hp) { w with drawn:=w.drawn + 1 }:=R.drewn rfl rfl rfl rfl
 have hN : ∀ p,(us0.toArray ++ us.toArray ++ rest)[p]? = if p < us0.length then us0[p]? else if p < us0.length + us.length then us[p - us0.length]? else rest[p - (us0.length + us.length)]? := by
  intro p
  rw [Array.getElem?_append,Array.getElem?_append]
  simp only [Array.size_append,List.size_toArray,List.getElem?_toArray]
  by_cases hp1:p < us0.length
  ·rw [if_pos hp1,if_pos (by omega),if_pos hp1]
  ·rw [if_neg hp1]
   by_cases hp2:p < us0.length + us.length
   ·rw [if_pos hp2,if_neg hp1]
   ·rw [if_neg hp2,if_neg hp1]
 obtain ⟨q1,q2,q3⟩:=joined_cells (C:=C) (σ:=σ) (hp:=hp) (w:=w) (b:=b) (bx:=bx) (len:=n0) (sz:=i.size) (szb:=i.size) (es:=es) (er:=er) (cN:=us0.toArray ++ us.toArray ++ rest) (dN:=0) hle (fun hpos => by
  obtain ⟨k,d,c,e',z',a1,a2,a3⟩:=h1 hpos
  refine ⟨k,d,c,e',z',a1,a2,fun i' j hi' hj => ?_⟩
  have:(i' + 1) * i.size≤n0 * i.size:=Nat.mul_le_mul_right _ hi'
  rw [Nat.add_mul] at this
  rw [Nat.zero_add,hN,if_pos (by omega)]
  exact a3 i' j hi' hj) (fun hne => by
  obtain ⟨k,d,c,e',z',a1,a2,a3⟩:=h2 hne
  refine ⟨k,d,c,e',z',a1,a2,fun i' j hi' hj => ?_⟩
  have h3:(i' + 1) * i.size≤er.length * i.size:=Nat.mul_le_mul_right _ hi'
  rw [Nat.add_mul] at h3
  have h4:(n0 + i') * i.size=n0 * i.size + i' * i.size:=Nat.add_mul _ _ _
  rw [hlx] at hxl
  rw [Nat.zero_add,hN,if_neg (by omega),if_pos (by omega),hu0]
  rw [← a3 i' j hi' hj]
  congr 1; omega)
 have hfr : ∀ k,w.heap.size≤k∨k < w.heap.size:=fun k => by omega
 have V:=R.rowNew (hn:=hn) (b:=b) (bx:=bx) (len:=n0) hbb (dr:=hk (ws ++ hp)) hdr (w':=World.alloc { w with drawn:=w.drawn + 1 } (.cells (us0.toArray ++ us.toArray ++ rest) e)) (K:=w.heap.size) (d:=0) (sz:=i.size) (c:=us0.toArray ++ us.toArray ++ rest) (e:=e) (z:=(0,0)) (L:=es.take n0 ++ er)
  (by
    have:=Frame0.alloc (w:={ w with drawn:=w.drawn + 1 }) (own0:=C.own0) (w0:=C.w0) R1.fr (.cells (us0.toArray ++ us.toArray ++ rest) e)
    exact this) (by rw [size_alloc']; exact Nat.le_succ _) (fun k hk1 hk2 => by
    have:=heap_alloc_lt (w:={ w with drawn:=w.drawn + 1 }) (o:=.cells (us0.toArray ++ us.toArray ++ rest) e) (k:=k) hk1
    exact this) (.inr (Nat.le_refl _)) heap_alloc_new (.inl rfl) q1 q2 q3
 refine ⟨.slice (some ⟨w.heap.size,0,none⟩) (n0 + ex.length) cap',upd σ nm (some (.here w.heap.size 0 (us0.toArray ++ us.toArray ++ rest).size i.size)),_,fun ob ho => .inl (run_app hxs hts (fun ty => by rw [hv]; exact hr ty) ob ho),?_,?_,SLe.upd hn _,?_,upd_none⟩
 ·rw [← hlx]
  refine .osl nm i.size 0 (n0 + ex.length) w.heap.size 0 _ _ cap' (upd_same _ _ _) g1 (.inr (by simp)) ?_
  simp only [Array.size_append,g2,List.size_toArray,hxl,hu0,Nat.zero_mul,Nat.zero_add]
  rw [← Nat.add_mul,← Nat.add_mul]
  exact Nat.mul_le_mul_right _ (by omega)
 ·simp only [List.cons_append,hk_cons]; exact V.1
 ·simp only [List.cons_append,hk_cons]; exact V.2
theorem heap_rapp_ok {v:AV} {ws:HW} {nn bx:Nat} {er:List (List AV)} (hxs:xs.toList=[s,x]) (hts:ts.toList=[t,u]) (ht:P.underlying t=some (.slice e)) (hu : ∃ e',P.underlying u=some (.slice e')) (hi:P.info? e=some i) (hz:zeroC P e=some z) (hzl:z.length=i.size) (hb0:0 < i.bytes)
 (H:Sl C.G σ (frz (hk hp) σ C.X w) sl a) (R:HRel C σ (hk hp) w) (hn:σ nm=none) (hir:isRow hp (LX.av C.G sl (compX x))=some (bx,er)) (hop:rowApp i.size i.bytes nm hp (LX.av C.G sl (compX s)) (LX.av C.G sl (compX x)) bx er=some (v,ws,nn)) :
 HeapOk P C σ hp a w nm (.call { callee:=.builtin .append,args:=xs,argTypes:=ts }) v ws∧nn=0:=by
 obtain ⟨szx,offx,lenx,szr,hax,hbx⟩:=isRow_inv hir
 rw [hax] at hop
 simp only [rowApp] at hop
 split at hop
 case isFalse => cases hop
 rename_i hcx
 obtain ⟨rfl,rfl,rfl⟩:=hcx
 have hvx:=H.av x
 rw [hax] at hvx
 have hszx:er≠[]→i.size=szr:=by
  intro hne
  rcases hvx.osl_inv with ⟨_,h1,_⟩ | ⟨k,d,n,A,cap,hσ,_⟩
  ·exact absurd (List.eq_nil_of_length_eq_zero h1) hne
  ·exact (row_at R hbx hσ).1
 have hbx':er≠[]→hk hp bx=some (.row i.size er):=fun h => by rw [hszx h]; exact hbx
 obtain ⟨ex,us,X,hlx,hX2⟩:=row_appX (P:=P) (σ:=σ) R hbx hszx hvx
 have h2:er≠[]→∃ k d c e z,hk hp bx=some (.row i.size er)∧RowAt C σ hp w bx i.size er k d c e z∧∀ i' j,i' < er.length→j < i.size→us[i' * i.size + j]? = some (c.getD (d + (i' * i.size + j)) undef):=by
  intro hne
  obtain ⟨k,d,c,e',z',r,g⟩:=hX2 hne
  have:=hszx hne
  subst this
  exact ⟨k,d,c,e',z',hbx,r,g⟩
 have hxl:=X.flat.len
 have fresh : ∀ {B:Option Addr} {ws:HW} {b:Nat},a.eval s=.slice B 0 0→er.length * i.bytes≤140737488355328→(∀ b' blk,hk (ws ++ hp) b'=some blk→hk hp b'=some blk∧b'≠bx) →
  HeapOk P C σ hp a w nm (.call { callee:=.builtin .append,args:=xs,argTypes:=ts }) (.osl nm i.size 0 er.length) ((nm,some (.row i.size er)) :: ws):=by
  intro B ws b hv hbd hdr
  by_cases h0:er=[]
  ·subst h0
   have hus:us=[]:=List.eq_nil_of_length_eq_zero (by rw [hxl,hlx]; simp)
   have hr:=run_append_in ht (.inl hu) hi rfl X (B:=B) (n0:=0) (cap:=0) (w':=w) (by simp [hlx]) (fun A _ => by rw [hus]; rfl) (fun _ => rfl)
   rw [hlx] at hr
   have hsub : ∀ b' blk,hk (ws ++ hp) b'=some blk→hk hp b'=some blk:=fun b' blk h => (hdr b' blk h).1
   have V:=(R.shrink hsub).virt0 hn (.row i.size []) fun _ _ _ h => .rvir i.size h
   refine ⟨.slice B 0 0,upd σ nm (some .vir),w,fun ob ho => .inl (run_app hxs hts (fun ty => by rw [hv]; exact hr ty) ob ho),.vir nm i.size 0 B (upd_same _ _ _),?_,SLe.upd hn _,?_,upd_none⟩
   ·simp only [List.cons_append,hk_cons]; exact V.1
   ·simp only [List.cons_append,hk_cons]; exact (frz_shrink hsub C.X).trans V.2
  ·have hpos:0 < er.length:=List.length_pos_iff.2 h0
   have:=rapp_grow (P:=P) (a:=a) (nm:=nm) hxs hts ht hu hi hz hzl hb0 R hn X (B:=B) (n0:=0) (cap:=0) hv (by omega) (by simpa [hlx] using hbd) (us0:=[]) (fun w2 _ => by
    cases B with
    | none => rfl
    | some A => simp [Builtin.firstCells,loadCells,loadCellsFrom]) (by simp) (b:=b) (bx:=bx) (es:=[]) (er:=er) (Nat.zero_le _) hlx (.inr rfl) (ws:=ws) (fun b' blk h => ⟨(hdr b' blk h).1,(hdr b' blk h).2,fun h => absurd h (Nat.lt_irrefl _)⟩) (fun h => absurd h (Nat.lt_irrefl _)) h2
   simpa using this
 have drop1 : ∀ b' blk,hk ([(bx,none)] ++ hp) b'=some blk→hk hp b'=some blk∧b'≠bx:=by
  intro b' blk h
  simp only [List.cons_append,List.nil_append,hk_cons] at h
  by_cases e1:b'=bx
  ·subst e1; rw [upd_same] at h; cases h
  ·rw [upd_ne _ _ e1] at h; exact ⟨h,e1⟩
 split at hop
 ·rename_i hs
  split at hop
  ·rename_i hbd
   injection hop with hop; injection hop with e1 e2; injection e2 with e2 e3
   subst e1; subst e2; subst e3
   have hv:=H.av s
   rw [hs] at hv
   obtain ⟨B,hB⟩:=hv.emp_inv
   exact ⟨fresh (b:=bx) hB hbd drop1,rfl⟩
  ·cases hop
 ·rename_i b sz' off len hs
  split at hop
  case h_2 => cases hop
  rename_i szb es hb
  split at hop
  case isFalse => cases hop
  rename_i hcs
  obtain ⟨rfl,rfl,hle,hne,hbd⟩:=hcs
  injection hop with hop; injection hop with e1 e2; injection e2 with e2 e3
  subst e1; subst e2; subst e3
  refine ⟨?_,rfl⟩
  have drop2 : ∀ b' blk,hk ([(b,none),(bx,none)] ++ hp) b'=some blk→hk hp b'=some blk∧b'≠bx∧b'≠b:=by
   intro b' blk h
   simp only [List.cons_append,List.nil_append,hk_cons] at h
   by_cases e0:b'=b
   ·subst e0; rw [upd_same] at h; cases h
   ·rw [upd_ne _ _ e0] at h
    by_cases e1:b'=bx
    ·subst e1; rw [upd_same] at h; cases h
    ·rw [upd_ne _ _ e1] at h; exact ⟨h,e1,e0⟩
  have hv:=H.av s
  rw [hs] at hv
  rcases hv.osl_inv with ⟨hσ,hl0,A',e1⟩ | ⟨k,d,n,A',cap0,hσ,g1,g2,g3,e1⟩
  ·subst hl0
   have:=fresh (b:=bx) (ws:=[(b,none),(bx,none)]) e1 (by simpa using hbd) fun b' blk h => ⟨(drop2 b' blk h).1,(drop2 b' blk h).2.1⟩
   simpa using this
  ·obtain ⟨hsz,cc,ty,zz,rfl,r⟩:=row_at R hb hσ
   subst hsz
   have hA:0 < len→A'=⟨k,d,none⟩:=fun h => by
    have:=g2.resolve_left (by omega)
    simpa using this
   by_cases hneed:len + er.length≤cap0
   ·-- in place
    have hmul:(len + er.length) * i.size≤cap0 * i.size:=Nat.mul_le_mul_right _ hneed
    rw [Nat.add_mul] at hmul
    have hklt:k < w.heap.size:=(Array.getElem?_eq_some_iff.1 r.mem).1
    have hle2:d + len * i.size + us.length≤cc.size:=by rw [hxl,hlx]; omega
    have hself:us=[]→World.setBlock w k (.cells (Go.Vai.setAt cc.toList (d + len * i.size) us).toArray ty zz)=w:=by
     rintro rfl
     have:setAt cc.toList (d + len * i.size) ([]:List Value)=cc.toList:=by simp [setAt]
     rw [this,Array.toArray_toList,setBlock_self r.mem]
    have hst : ∀ A,some A'=some A→(storeCells (A.add (len * i.size)) us).run P w=.ok () (World.setBlock w k (.cells (Go.Vai.setAt cc.toList (d + len * i.size) us).toArray ty zz)):=by
     rintro A ⟨⟩
     by_cases hus:us=[]
     ·rw [hself hus,hus]; rfl
     ·have hus2:er.length≠0:=by
       intro h
       apply hus
       apply List.eq_nil_of_length_eq_zero
       rw [hxl,hlx,h,Nat.zero_mul]
      have hA':=g2.resolve_left (by omega)
      simp only [Nat.zero_mul,Nat.add_zero] at hA'
      subst hA'
      have:=run_storeCells (P:=P) us 0 (d + len * i.size) cc w r.mem r.nz X.flat.leaf (by omega)
      rw [add_at]
      simpa using this
    have hr:=run_append_in ht (.inl hu) hi rfl X (B:=some A') (n0:=len) (cap:=cap0) (by rw [hlx]; exact hneed) hst (fun h => by cases h)
    have hcN : ∀ p,(Go.Vai.setAt cc.toList (d + len * i.size) us).toArray[p]? = if p < d + len * i.size then cc[p]? else if p < d + len * i.size + us.length then us[p - (d + len * i.size)]? else cc[p]? := by
     intro p
     rw [getElem?_toArray',setAt_get _ _ _ (by simpa using hle2)]
     simp
    obtain ⟨q1,q2,q3⟩:=joined_cells (C:=C) (σ:=σ) (hp:=hp) (w:=w) (b:=b) (bx:=bx) (len:=len) (sz:=i.size) (szb:=i.size) (es:=es) (er:=er) (cN:=(Go.Vai.setAt cc.toList (d + len * i.size) us).toArray) (dN:=d) hle (fun hpos => ⟨k,d,cc,ty,zz,hb,r,fun i' j hi' hj => by
     have h3:(i' + 1) * i.size≤len * i.size:=Nat.mul_le_mul_right _ hi'
     rw [Nat.add_mul] at h3
     rw [hcN,if_pos (by omega)]
     have hlt:d + (i' * i.size + j) < cc.size:=by omega
     rw [Array.getD,dif_pos hlt,Array.getElem?_eq_getElem hlt]
     rfl⟩) (fun hne' => by
     obtain ⟨kx,dx,cx,ex',zx,a1,a2,a3⟩:=h2 hne'
     refine ⟨kx,dx,cx,ex',zx,a1,a2,fun i' j hi' hj => ?_⟩
     have h3:(i' + 1) * i.size≤er.length * i.size:=Nat.mul_le_mul_right _ hi'
     rw [Nat.add_mul] at h3
     have h4:(len + i') * i.size=len * i.size + i' * i.size:=Nat.add_mul _ _ _
     rw [hlx] at hxl
     rw [hcN,if_neg (by omega),if_pos (by omega),← a3 i' j hi' hj]
     congr 1; omega)
    have hF:Frame0 C.own0 C.w0 (World.setBlock w k (.cells (Go.Vai.setAt cc.toList (d + len * i.size) us).toArray ty zz)):=by
     refine ⟨by rw [setBlock_size]; exact R.fr.size,fun q h1 h2 => ?_,R.fr.os,R.fr.tape,R.fr.output⟩
     by_cases hqk:q=k
     ·subst hqk
      rcases (R.ow _ _ ⟨_,hb,.at _ _ _ _ _ hσ⟩).2.2 with g | g
      ·exact absurd g h2
      ·omega
     ·rw [setBlock_ne hqk]; exact R.fr.keep q h1 h2
    have V:=R.rowNew (hn:=hn) (b:=b) (bx:=bx) (len:=len) (.inl hne) (dr:=hk ([(b,none),(bx,none)] ++ hp)) (fun b' blk h => ⟨(drop2 b' blk h).1,(drop2 b' blk h).2.1,fun _ => (drop2 b' blk h).2.2⟩) (w':=World.setBlock w k (.cells (Go.Vai.setAt cc.toList (d + len * i.size) us).toArray ty zz)) (K:=k) (d:=d) (sz:=i.size) (c:=(Go.Vai.setAt cc.toList (d + len * i.size) us).toArray) (e:=ty) (z:=zz) (L:=es.take len ++ er)
     hF (by rw [setBlock_size]; exact Nat.le_refl _) (fun q _ h => setBlock_ne h) (.inl ⟨by rw [hb]; exact .at _ _ _ _ _ hσ,by rw [hb]; simp,hne,fun b' blk h => (drop2 b' blk h).2.2,fun i' j q h => r.ne i' j q ((r.subB hb).1 h)⟩) (setBlock_same hklt) (r.nz.setAt _ us hle2) q1 q2 q3
    have hsize:(Go.Vai.setAt cc.toList (d + len * i.size) us).toArray.size=cc.size:=by
     simp only [List.size_toArray]; rw [setAt_length _ _ _ (by simpa using hle2)]; simp
    refine ⟨.slice (some A') (len + ex.length) cap0,upd σ nm (some (.here k d (Go.Vai.setAt cc.toList (d + len * i.size) us).toArray.size i.size)),_,fun ob ho => .inl (run_app hxs hts (fun ty => by rw [e1]; exact hr ty) ob ho),?_,?_,SLe.upd hn _,?_,upd_none⟩
    ·rw [hlx]
     refine .osl nm i.size 0 (len + er.length) k d _ A' cap0 (upd_same _ _ _) hneed ?_ (by rw [hsize]; omega)
     rcases g2 with g2 | g2
     ·exact .inl g2
     ·exact .inr (by rw [g2])
    ·simp only [List.cons_append,List.nil_append,hk_cons] at V ⊢; exact V.1
    ·simp only [List.cons_append,List.nil_append,hk_cons] at V ⊢; exact V.2
   ·-- grown
    obtain ⟨us0,u1,u2,u3⟩:=firstCells_any (P:=P) (w:=w) (A:=some A') (cap:=cap0) (h:=frz (hk hp) σ C.X w) (sz:=i.size) (n:=len) (es:=dumRow cc d i.size len) (by rw [dumRow_len]; exact Nat.le_refl _) (fun hne' => by
     have hpos:0 < len:=by
      rcases Nat.eq_zero_or_pos len with h | h
      ·subst h; exact absurd rfl hne'
      ·exact h
     exact ⟨k,d,by rw [hA hpos],r.dum hle _⟩)
    rw [dumRow_len] at u3
    have htk:(dumRow cc d i.size len).take len=dumRow cc d i.size len:=List.take_of_length_le (by rw [dumRow_len]; exact Nat.le_refl _)
    rw [htk] at u2
    exact rapp_grow (P:=P) (a:=a) (nm:=nm) hxs hts ht hu hi hz hzl hb0 R hn X (B:=some A') (n0:=len) (cap:=cap0) e1 (by rw [hlx]; omega) (by rw [hlx]; exact hbd) u3 u1 (b:=b) (bx:=bx) (es:=es) (er:=er) hle hlx (.inl hne) (ws:=[(b,none),(bx,none)]) (fun b' blk h => ⟨(drop2 b' blk h).1,(drop2 b' blk h).2.1,fun _ => (drop2 b' blk h).2.2⟩)
     (fun _ => ⟨k,d,cc,ty,zz,hb,r,fun i' j hi' hj => dumRow_flat u2 hi' hj⟩) h2
 ·cases hop
end
end Go.Vai
