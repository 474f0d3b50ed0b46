/-
  A part of the abstract run of Go functions and of the proof that it tells the truth.
-/
import Derived.Laws.StructEq
import Derived.Test.YtljbbcpahapmnaaGreatDoorVa5
set_option linter.unusedVariables false
set_option linter.unusedSimpArgs false
namespace Go.Vai
variable {P:Program} {G:Nat→Option (List FV)} {σ:Nat→Option Loc} {h:PH} {sl:List (Nat × AV)} {a:Act}
theorem add_at (k o n:Nat):(⟨k,o,none⟩:Addr).add n=⟨k,o + n,none⟩:=by
 unfold Addr.add
 split
 ·rename_i e; subst e; rfl
 ·rfl
theorem elem_get {l:List AV} {vs:List Value} (hl:l.length=vs.length) {i:Nat} {x:AV} (e:l[i]? = some x) : ∃ u,vs[i]? = some u:=by
 have hi:=(List.getElem?_eq_some_iff.1 e).1
 exact ⟨vs[i]'(by omega),List.getElem?_eq_getElem (by omega)⟩
theorem VR.part {l:List AV} {vs:List Value} (hl:l.length=vs.length) (hr : ∀ (i:Nat) (x:AV) (v:Value),l[i]? = some x→vs[i]? = some v→VR σ h x v) (d n:Nat) (hd:d + n≤l.length) :
 VR σ h (.agg ((l.drop d).take n)) (.agg (vs.toArray.extract d (d + n))):=by
 have e:vs.toArray.extract d (d + n)=((vs.drop d).take n).toArray:=by
  apply Array.ext'
  simp [List.extract_eq_take_drop]
 rw [e]
 refine .agg _ _ (by simp; omega) fun i x v e1 e2 => ?_
 rw [List.getElem?_take] at e1 e2
 split at e1
 ·rename_i hi
  rw [if_pos hi] at e2
  rw [List.getElem?_drop] at e1 e2
  exact hr _ _ _ e1 e2
 ·cases e1
theorem run_part {t:TypeId} {g:Option Nat} (hg:agT P t=some g) {l:List AV} {vs:List Value} (hl:l.length=vs.length) (hr : ∀ (i:Nat) (x:AV) (v:Value),l[i]? = some x→vs[i]? = some v→VR σ h x v) (d:Nat) {v:AV}
 (hp:(match g with
   | some n => if d + n≤l.length then some (AV.agg ((l.drop d).take n)) else none
   | none => l[d]?)=some v) : ∃ u,VR σ h v u∧∀ w,(part t vs.toArray d).run P w=.ok u w:=by
 cases g with
 | some n =>
  simp only at hp
  split at hp
  ·rename_i hd
   injection hp with hp; subst hp
   refine ⟨_,VR.part hl hr d n hd,fun w => ?_⟩
   have hs:=(run_isAgg hg w).2 n rfl
   simp [Go.part,Sem.run_bind,(run_isAgg hg w).1,run_size hs]
  ·cases hp
 | none =>
  simp only at hp
  obtain ⟨u,hu⟩:=elem_get hl hp
  refine ⟨u,hr _ _ _ hp hu,fun w => ?_⟩
  have hlt:=(List.getElem?_eq_some_iff.1 hu).1
  have hu':vs[d]=u:=(List.getElem?_eq_some_iff.1 hu).2
  simp [Go.part,Sem.run_bind,(run_isAgg hg w).1,hlt,hu']
theorem pure_field {s:TypeId} {fs:Array Field} {k:Nat} {f:Field} {g:Option Nat} {x:Operand} {v:AV} (hs:P.underlying s=some (.struct fs)) (hf:fs[k]? = some f) (hg:agT P f.type=some g) (H:Sl G σ h sl a)
 (hp:pureOp (LX.av G sl) (.field g (compX x) f.offset)=some v) : ∃ u,VR σ h v u∧Gives P a (.field s x k) u:=by
 have hx:=H.av x
 simp only [pureOp] at hp
 split at hp
 ·rename_i l ex
  rw [ex] at hx
  obtain ⟨vs,e,hl,hr⟩:=hx.agg_inv
  obtain ⟨u,hu,hrun⟩:=run_part hg hl hr f.offset (v:=v) (by cases g <;> simpa using hp)
  refine ⟨u,hu,fun o ho w => ?_⟩
  simp [execOp,ho,Instr.field,Sem.run_bind,run_und hs,hf,e,asAgg,hrun]
 ·cases hp
theorem eqIn_slice {t e:TypeId} (hu:P.underlying t=some (.slice e)) (d:Nat) (A:Option Addr) (n c:Nat) (w:World) :
 (Op.equalIn (d + 1) t (.slice A n c) (.slice none 0 0)).run P w=.ok A.isNone w∧(Op.equalIn (d + 1) t (.slice none 0 0) (.slice A n c)).run P w=.ok A.isNone w:=by
 constructor
 ·simp only [Op.equalIn,Sem.run_bind,run_und hu,Result.andThen_ok]
  cases A <;> rfl
 ·simp only [Op.equalIn,Sem.run_bind,run_und hu,Result.andThen_ok]
  cases A <;> rfl
theorem eqIn_pointer {t e:TypeId} (hu:P.underlying t=some (.pointer e)) (d:Nat) (A:Option Addr) (w:World) :
 (Op.equalIn (d + 1) t (.pointer A) (.pointer none)).run P w=.ok A.isNone w∧(Op.equalIn (d + 1) t (.pointer none) (.pointer A)).run P w=.ok A.isNone w:=by
 constructor
 ·simp only [Op.equalIn,Sem.run_bind,run_und hu,Result.andThen_ok]
  cases A <;> rfl
 ·simp only [Op.equalIn,Sem.run_bind,run_und hu,Result.andThen_ok]
  cases A <;> rfl
theorem eqIn_func {t:TypeId} {p q:Array TypeId} {vr:Bool} (hu:P.underlying t=some (.func p q vr)) (d:Nat) (u:Value) (r:Bool) (hs:(u=.nilFunc∧r=true)∨(∃ f p q,u=.func f p q)∧r=false) (w:World) :
 (Op.equalIn (d + 1) t u .nilFunc).run P w=.ok r w∧(Op.equalIn (d + 1) t .nilFunc u).run P w=.ok r w:=by
 rcases hs with ⟨rfl,rfl⟩ | ⟨⟨f,p,q,rfl⟩,rfl⟩
 ·simp only [Op.equalIn,Sem.run_bind,run_und hu,Result.andThen_ok]
  exact ⟨rfl,rfl⟩
 ·constructor
  ·simp only [Op.equalIn,Sem.run_bind,run_und hu,Result.andThen_ok]
   rfl
  ·simp only [Op.equalIn,Sem.run_bind,run_und hu,Result.andThen_ok]
   rfl
theorem run_of_eql {t:TypeId} {u v:Value} {r:Bool} {w:World} (hb:binOp .eql t u v=(do pure (.bool (← Op.equal t u v)))) (he : ∀ d,(Op.equalIn (d + 1) t u v).run P w=.ok r w):(binOp .eql t u v).run P w=.ok (.bool r) w:=by
 rw [hb,Sem.run_bind,show (Op.equal t u v).run P w=.ok r w from he 9999]; rfl
theorem run_of_neq {t:TypeId} {u v:Value} {r:Bool} {w:World} (hb:binOp .neq t u v=(do pure (.bool (!(← Op.equal t u v))))) (he : ∀ d,(Op.equalIn (d + 1) t u v).run P w=.ok r w):(binOp .neq t u v).run P w=.ok (.bool (!r)) w:=by
 rw [hb,Sem.run_bind,show (Op.equal t u v).run P w=.ok r w from he 9999]; rfl
def NilRun (P:Program) (ng:Bool) (t:TypeId) (u c:Value) (r:Bool):Prop := ∀ w:World,
 ((binOp (if ng then .neq else .eql) t u c).run P w=.ok (.bool (if ng then !r else r)) w∧∀ p z,(eqGuard (if ng then .neq else .eql) t p (.const z) u c).run P w=.ok () w) ∧
 ((binOp (if ng then .neq else .eql) t c u).run P w=.ok (.bool (if ng then !r else r)) w∧∀ z q,(eqGuard (if ng then .neq else .eql) t (.const z) q c u).run P w=.ok () w)
theorem eqIn_iface {t:TypeId} {ms:Array (String × TypeId)} (hu:P.underlying t=some (.interface ms)) (d:Nat) (u:Value) (r:Bool) (hs:(u=.nilIface∧r=true)∨(∃ te pe,u=.iface te pe)∧r=false) (w:World) :
 (Op.equalIn (d + 1) t u .nilIface).run P w=.ok r w∧(Op.equalIn (d + 1) t .nilIface u).run P w=.ok r w:=by
 rcases hs with ⟨rfl,rfl⟩ | ⟨⟨te,pe,rfl⟩,rfl⟩
 ·simp only [Op.equalIn,Sem.run_bind,run_und hu,Result.andThen_ok]
  exact ⟨rfl,rfl⟩
 ·constructor
  ·simp only [Op.equalIn,Sem.run_bind,run_und hu,Result.andThen_ok]
   rfl
  ·simp only [Op.equalIn,Sem.run_bind,run_und hu,Result.andThen_ok]
   rfl
theorem nilK_const {t:TypeId} {y:Operand} {k:Nat} (h:nilK P t y=some k) : ∃ z,y=.const z:=by
 unfold nilK at h
 split at h <;> first | exact ⟨_,rfl⟩ | cases h
theorem run_nil_side (ng:Bool) {t:TypeId} {k:Nat} {y:Operand} (hk:nilK P t y=some k) {x:AV} {u:Value} (hx:VR σ h x u) {r:Bool} (hr:isNil k x=some r):NilRun P ng t u (a.eval y) r:=by
 unfold nilK at hk
 intro w
 split at hk
 ·split at hk
  ·rename_i e hu
   injection hk with hk; subst hk
   have hs : ∃ A n c,u=.slice A n c∧A.isNone=r:=by
    unfold isNil at hr
    split at hr <;> (try cases hr) <;> rename_i h0 <;> simp at h0 <;> (try (split at hr <;> cases hr))
    ·rename_i he
     obtain ⟨A,c,e,_,hne⟩:=hx.slc_slice
     refine ⟨A,_,c,e,?_⟩
     have:=hne (by simpa using he)
     cases A <;> simp_all
    ·rename_i he
     rcases hx.osl_inv with ⟨_,h0,_⟩ | ⟨_,_,_,A,c,_,_,_,_,e⟩
     ·exact absurd h0 he
     ·exact ⟨some A,_,c,e,rfl⟩
    ·exact ⟨_,_,_,hx.sc_inv,rfl⟩
   obtain ⟨A,n,c,rfl,rfl⟩:=hs
   cases ng
   ·exact ⟨⟨run_of_eql rfl fun d => (eqIn_slice hu d A n c w).1,fun _ _ => rfl⟩,run_of_eql rfl fun d => (eqIn_slice hu d A n c w).2,fun _ _ => rfl⟩
   ·exact ⟨⟨run_of_neq rfl fun d => (eqIn_slice hu d A n c w).1,fun _ _ => rfl⟩,run_of_neq rfl fun d => (eqIn_slice hu d A n c w).2,fun _ _ => rfl⟩
  ·cases hk
 ·split at hk
  ·rename_i e hu
   injection hk with hk; subst hk
   have hs : ∃ A,u=.pointer A∧A.isNone=r:=by
    unfold isNil at hr
    split at hr <;> (try cases hr) <;> rename_i h0 <;> simp at h0 <;> (try (split at hr <;> cases hr))
    ·exact ⟨none,hx.sc_inv,rfl⟩
    ·obtain ⟨k,n,_,e⟩:=hx.bp_inv; exact ⟨_,e,rfl⟩
    ·obtain ⟨_,_,_,_,_,e⟩:=hx.ep_inv; exact ⟨_,e,rfl⟩
    ·obtain ⟨_,_,_,_,_,e⟩:=hx.fp_inv; exact ⟨_,e,rfl⟩
   obtain ⟨A,rfl,rfl⟩:=hs
   cases ng
   ·exact ⟨⟨run_of_eql rfl fun d => (eqIn_pointer hu d A w).1,fun _ _ => rfl⟩,run_of_eql rfl fun d => (eqIn_pointer hu d A w).2,fun _ _ => rfl⟩
   ·exact ⟨⟨run_of_neq rfl fun d => (eqIn_pointer hu d A w).1,fun _ _ => rfl⟩,run_of_neq rfl fun d => (eqIn_pointer hu d A w).2,fun _ _ => rfl⟩
  ·cases hk
 ·split at hk
  ·rename_i p1 p2 p3 hu
   injection hk with hk; subst hk
   have hs:(u=.nilFunc∧r=true)∨(∃ f p q,u=.func f p q)∧r=false:=by
    unfold isNil at hr
    split at hr <;> (try cases hr) <;> rename_i h0 <;> simp at h0 <;> (try (split at hr <;> cases hr))
    ·exact .inl ⟨hx.sc_inv,rfl⟩
    ·obtain ⟨vs,e,_⟩:=hx.fn_inv; exact .inr ⟨⟨_,_,_,e⟩,rfl⟩
    ·obtain ⟨vs,e,_⟩:=hx.bm_inv; exact .inr ⟨⟨_,_,_,e⟩,rfl⟩
   have k1:=fun d => (eqIn_func hu d u r hs w).1
   have k2:=fun d => (eqIn_func hu d u r hs w).2
   have g : ∀ op p q,(eqGuard op t p q u .nilFunc).run P w=.ok () w∧(eqGuard op t p q .nilFunc u).run P w=.ok () w:=by
    intro op p q
    rcases hs with ⟨rfl,rfl⟩ | ⟨⟨f,p,q,rfl⟩,rfl⟩ <;> exact ⟨by cases op <;> rfl,by cases op <;> rfl⟩
   have b:binOp .eql t u .nilFunc=(do pure (.bool (← Op.equal t u .nilFunc)))∧binOp .eql t .nilFunc u=(do pure (.bool (← Op.equal t .nilFunc u))) ∧
    binOp .neq t u .nilFunc=(do pure (.bool (!(← Op.equal t u .nilFunc))))∧binOp .neq t .nilFunc u=(do pure (.bool (!(← Op.equal t .nilFunc u)))):=by
    rcases hs with ⟨rfl,rfl⟩ | ⟨⟨f,p,q,rfl⟩,rfl⟩ <;> exact ⟨rfl,rfl,rfl,rfl⟩
   cases ng
   ·exact ⟨⟨run_of_eql b.1 k1,fun p z => (g _ p (.const z)).1⟩,run_of_eql b.2.1 k2,fun z q => (g _ (.const z) q).2⟩
   ·exact ⟨⟨run_of_neq b.2.2.1 k1,fun p z => (g _ p (.const z)).1⟩,run_of_neq b.2.2.2 k2,fun z q => (g _ (.const z) q).2⟩
  ·cases hk
 ·split at hk
  ·rename_i ms hu
   injection hk with hk; subst hk
   have hs:(u=.nilIface∧r=true)∨(∃ te pe,u=.iface te pe)∧r=false:=by
    unfold isNil at hr
    split at hr <;> (try cases hr) <;> rename_i h0 <;> simp at h0 <;> (try (split at hr <;> cases hr))
    ·exact .inl ⟨hx.sc_inv,rfl⟩
    ·obtain ⟨te,pe,e⟩:=hx.err_inv; exact .inr ⟨⟨_,_,e⟩,rfl⟩
    ·obtain ⟨pe,e,_⟩:=hx.ifc_inv; exact .inr ⟨⟨_,_,e⟩,rfl⟩
   have k1:=fun d => (eqIn_iface hu d u r hs w).1
   have k2:=fun d => (eqIn_iface hu d u r hs w).2
   have g : ∀ op p z,(eqGuard op t p (.const z) u .nilIface).run P w=.ok () w∧(eqGuard op t (.const z) p .nilIface u).run P w=.ok () w:=by
    intro op p z
    rcases hs with ⟨rfl,rfl⟩ | ⟨⟨f,p',rfl⟩,rfl⟩
    ·exact ⟨by cases op <;> cases p <;> rfl,by cases op <;> cases p <;> rfl⟩
    ·exact ⟨by cases op <;> rfl,by cases op <;> rfl⟩
   have b:binOp .eql t u .nilIface=(do pure (.bool (← Op.equal t u .nilIface)))∧binOp .eql t .nilIface u=(do pure (.bool (← Op.equal t .nilIface u))) ∧
    binOp .neq t u .nilIface=(do pure (.bool (!(← Op.equal t u .nilIface))))∧binOp .neq t .nilIface u=(do pure (.bool (!(← Op.equal t .nilIface u)))):=by
    rcases hs with ⟨rfl,rfl⟩ | ⟨⟨f,p,rfl⟩,rfl⟩ <;> exact ⟨rfl,rfl,rfl,rfl⟩
   cases ng
   ·exact ⟨⟨run_of_eql b.1 k1,fun p z => (g _ p z).1⟩,run_of_eql b.2.1 k2,fun z q => (g _ q z).2⟩
   ·exact ⟨⟨run_of_neq b.2.2.1 k1,fun p z => (g _ p z).1⟩,run_of_neq b.2.2.2 k2,fun z q => (g _ q z).2⟩
  ·cases hk
 ·cases hk
theorem pure_isnil {ng:Bool} {t:TypeId} {x y:Operand} {yt:TypeId} {l:LOp} {v:AV} (hc:compNil P ng t x y=some l) (H:Sl G σ h sl a) (hp:pureOp (LX.av G sl) l=some v) :
 ∃ u,VR σ h v u∧Gives P a (.binOp (if ng then .neq else .eql) t x y yt) u:=by
 unfold compNil at hc
 split at hc
 ·rename_i k hk
  injection hc with hc; subst hc
  have hx:=H.av x
  simp only [pureOp] at hp
  split at hp
  ·rename_i r hr
   injection hp with hp; subst hp
   refine ⟨_,.sc _,fun o ho w => ?_⟩
   obtain ⟨⟨h1,h2⟩,_⟩:=run_nil_side (a:=a) ng hk hx hr w
   obtain ⟨z,rfl⟩:=nilK_const hk
   simp only [execOp,ho,Sem.run_bind,h2,Result.andThen_ok,h1]; rfl
  ·cases hp
 ·split at hc
  ·rename_i k hk
   injection hc with hc; subst hc
   have hx:=H.av y
   simp only [pureOp] at hp
   split at hp
   ·rename_i r hr
    injection hp with hp; subst hp
    refine ⟨_,.sc _,fun o ho w => ?_⟩
    obtain ⟨_,h1,h2⟩:=run_nil_side (a:=a) ng hk hx hr w
    obtain ⟨z,rfl⟩:=nilK_const hk
    simp only [execOp,ho,Sem.run_bind,h2,Result.andThen_ok,h1]; rfl
   ·cases hp
  ·cases hc
theorem run_eqK {t:TypeId} {k:Nat} {p q:Value} {r:Bool} (ht:match k with
 | 0 => ∃ j,P.underlying t=some (.int j)
 | 1 => P.underlying t=some .string
 | 2 => P.underlying t=some .bool
 | _ => False) (e:eqK k p q=some r) (d:Nat) (w:World):(Op.equalIn (d + 1) t p q).run P w=.ok r w:=by
 unfold eqK at e
 split at e
 ·obtain ⟨j,ht⟩:=ht
  split at e
  ·rename_i hk; subst hk
   injection e with e; subst e
   rw [run_equalIn_int w d t _ j _ _ ht]; rfl
  ·cases e
 ·injection e with e; subst e
  rw [run_equalIn_string w d t _ _ ht,beq_toList]
 ·injection e with e; subst e
  rw [run_equalIn_bool ht]
 ·exact ht.elim
 ·cases e
theorem run_eqFields {d:Nat} : ∀ (fs:List Field) (i:Nat) (ks:List Nat),fieldKinds P i fs=some ks→∀ (la lb:List AV) (xs ys:List Value) (r:Bool),eqCs ks la lb=some r →
 (∀ (j:Nat) (x:AV),la[j]? = some x→∃ u,xs[i + j]? = some u∧VR σ h x u)→(∀ (j:Nat) (x:AV),lb[j]? = some x→∃ u,ys[i + j]? = some u∧VR σ h x u)→∀ w,(Op.eqFields (d + 1) xs.toArray ys.toArray fs).run P w=.ok r w
 | [],i,ks,hk,la,lb,xs,ys,r,e,hx,hy,w => by
  simp only [fieldKinds] at hk
  injection hk with hk; subst hk
  cases la <;> cases lb <;> simp [eqCs] at e
  subst e; rfl
 | f :: fs, i, ks, hk, la, lb, xs, ys, r, e, hx, hy, w => by
  simp only [fieldKinds] at hk
  split at hk
  ·rename_i hf
   have step : ∀ k l,fieldKinds P (i + 1) fs=some l→ks=k :: l→(match k with
    | 0 => ∃ j,P.underlying f.type=some (.int j)
    | 1 => P.underlying f.type=some .string
    | 2 => P.underlying f.type=some .bool
    | _ => False)→(Op.eqFields (d + 1) xs.toArray ys.toArray (f :: fs)).run P w=.ok r w:=by
    intro k l hl hks ht
    subst hks
    unfold eqCs at e
    split at e
    ·rename_i heq; cases heq
    ·rename_i k' ks' p la' q lb' heq
     injection heq with h1 h2; subst h1; subst h2
     split at e
     ·rename_i r1 r2 e1 e2
      injection e with e; subst e
      obtain ⟨u,hu,hxr⟩:=hx 0 _ rfl
      obtain ⟨v,hv,hyr⟩:=hy 0 _ rfl
      have hu':=hxr.sc_inv
      have hv':=hyr.sc_inv
      subst hu'; subst hv'
      have hag:agT P f.type=some none:=by
       unfold agT
       rcases k with _ | _ | _ | k
       ·obtain ⟨j,hj⟩:=ht; rw [hj]
       ·simp only at ht; rw [ht]
       ·simp only at ht; rw [ht]
       ·exact ht.elim
      have pa : ∀ (zs:List Value) z,zs[i]? = some z→(part f.type zs.toArray f.offset).run P w=.ok z w:=by
       intro zs z hz
       rw [hf.2]
       have hlt:=(List.getElem?_eq_some_iff.1 hz).1
       have hz':=(List.getElem?_eq_some_iff.1 hz).2
       simp [Go.part,Sem.run_bind,(run_isAgg hag w).1,hlt,hz']
      have ih:=run_eqFields (d:=d) fs (i + 1) l hl la' lb' xs ys r2 e2 (fun j x hj => by
       have:=hx (j + 1) x (by simpa using hj)
       rwa [Nat.add_right_comm i 1 j,Nat.add_assoc i j 1]) (fun j x hj => by
       have:=hy (j + 1) x (by simpa using hj)
       rwa [Nat.add_right_comm i 1 j,Nat.add_assoc i j 1]) w
      rw [Op.eqFields,if_pos hf.1]
      simp only [Sem.run_bind,pa xs _ (by simpa using hu),pa ys _ (by simpa using hv),Result.andThen_ok,run_eqK ht e1]
      cases r1
      ·simp
      ·simpa using ih
     ·cases e
    ·cases e
   split at hk
   ·rename_i j l hj hl
    injection hk with hk
    exact step 0 l hl hk.symm ⟨j,hj⟩
   ·rename_i l hj hl
    injection hk with hk
    exact step 1 l hl hk.symm hj
   ·rename_i l hj hl
    injection hk with hk
    exact step 2 l hl hk.symm hj
   ·cases hk
  ·cases hk
theorem eqFields_cons {d:Nat} {xs ys:Array Value} {f:Field} {fs:List Field} {r1 r2:Bool} {w:World} (h1:(Op.eqFields d xs ys [f]).run P w=.ok r1 w) (h2:(Op.eqFields d xs ys fs).run P w=.ok r2 w):(Op.eqFields d xs ys (f :: fs)).run P w=.ok (r1 && r2) w:=by
 simp only [Op.eqFields] at h1 ⊢
 split
 ·rename_i hn
  rw [if_pos hn] at h1
  simp only [Sem.run_bind] at h1 ⊢
  generalize (part f.type xs f.offset).run P w=q1 at h1 ⊢
  cases q1 with
  | ok a w1 =>
   simp only [Result.andThen_ok] at h1 ⊢
   generalize (part f.type ys f.offset).run P w1=q2 at h1 ⊢
   cases q2 with
   | ok b w2 =>
    simp only [Result.andThen_ok] at h1 ⊢
    generalize (Op.equalIn d f.type a b).run P w2=q3 at h1 ⊢
    cases q3 with
    | ok r w3 =>
     cases r
     ·simp only [Result.andThen_ok,Bool.not_false,if_true,Sem.run_pure] at h1 ⊢
      injection h1 with e1 e2; subst e1; subst e2; rfl
     ·simp only [Result.andThen_ok,Bool.not_true,Bool.false_eq_true,if_false,Sem.run_pure] at h1 ⊢
      injection h1 with e1 e2; subst e1; subst e2; simpa using h2
    | halt x w3 => simp [Result.andThen] at h1
   | halt x w2 => simp [Result.andThen] at h1
  | halt x w1 => simp [Result.andThen] at h1
 ·rename_i hn
  rw [if_neg hn] at h1
  simp only [Sem.run_pure] at h1
  injection h1 with e1 e2; subst e1; simpa using h2
theorem eqCs_append : ∀ (l m:List Nat) (la lb:List AV) (r:Bool),eqCs (l ++ m) la lb=some r→∃ r1 r2,eqCs l (la.take l.length) (lb.take l.length)=some r1∧eqCs m (la.drop l.length) (lb.drop l.length)=some r2∧r=(r1 && r2)
 | [],m,la,lb,r,e => ⟨true,r,by simp [eqCs],by simpa using e,by simp⟩
 | k :: l, m, la, lb, r, e => by
  rw [List.cons_append] at e
  unfold eqCs at e
  split at e
  ·rename_i heq; cases heq
  ·rename_i k' ks' p la' q lb' heq
   injection heq with h1 h2; subst h1; subst h2
   split at e
   ·rename_i r1 r2 e1 e2
    injection e with e; subst e
    obtain ⟨s1,s2,g1,g2,rfl⟩:=eqCs_append l m la' lb' r2 e2
    refine ⟨r1 && s1,s2,?_,by simpa using g2,by rw [Bool.and_assoc]⟩
    simp only [List.length_cons,List.take_succ_cons,eqCs,e1,g1]
   ·cases e
  ·cases e
theorem run_eqFields2 {d : Nat} : ∀ (fs : List Field) (i : Nat) (ks : List Nat), fieldKinds2 P i fs = some ks → ∀ (la lb : List AV) (xs ys : List Value) (r : Bool), eqCs ks la lb = some r →
 (∀ (j:Nat) (x:AV),la[j]? = some x→∃ u,xs[i + j]? = some u∧VR σ h x u)→(∀ (j:Nat) (x:AV),lb[j]? = some x→∃ u,ys[i + j]? = some u∧VR σ h x u)→∀ w,(Op.eqFields (d + 2) xs.toArray ys.toArray fs).run P w=.ok r w
 | [],i,ks,hk,la,lb,xs,ys,r,e,hx,hy,w => by
  simp only [fieldKinds2] at hk
  injection hk with hk; subst hk
  cases la <;> cases lb <;> simp [eqCs] at e
  subst e; rfl
 | f :: fs, i, ks, hk, la, lb, xs, ys, r, e, hx, hy, w => by
  have tk : ∀ {zs:List AV} {us:List Value} (n:Nat),(∀ (j:Nat) (x:AV),zs[j]? = some x→∃ u,us[i + j]? = some u∧VR σ h x u)→∀ (j:Nat) (x:AV),(zs.take n)[j]? = some x→j < n∧∃ u,us[i + j]? = some u∧VR σ h x u:=by
   intro zs us n H j x hj
   rw [List.getElem?_take] at hj
   split at hj
   ·rename_i hlt; exact ⟨hlt,H j x hj⟩
   ·cases hj
  have dr : ∀ {zs:List AV} {us:List Value} (n:Nat),(∀ (j:Nat) (x:AV),zs[j]? = some x→∃ u,us[i + j]? = some u∧VR σ h x u)→∀ (j:Nat) (x:AV),(zs.drop n)[j]? = some x→∃ u,us[i + n + j]? = some u∧VR σ h x u:=by
   intro zs us n H j x hj
   rw [List.getElem?_drop] at hj
   have:=H _ x hj
   rwa [← Nat.add_assoc] at this
  simp only [fieldKinds2] at hk
  split at hk
  ·rename_i l hl
   split at hk
   ·rename_i m hm
    injection hk with hk; subst hk
    obtain ⟨r1,r2,g1,g2,rfl⟩:=eqCs_append l m la lb r e
    have hl1:l.length=1:=by
     simp only [fieldKinds] at hl
     split at hl
     ·split at hl <;> first | (rename_i hq; simp only [fieldKinds,Option.some.injEq] at hq; subst hq; injection hl with hl; subst hl; rfl) | cases hl
     ·cases hl
    refine eqFields_cons ?_ ?_
    ·exact run_eqFields (d:=d + 1) [f] i l hl _ _ xs ys r1 g1 (fun j x hj => (tk _ hx j x hj).2) (fun j x hj => (tk _ hy j x hj).2) w
    ·rw [hl1] at g2
     exact run_eqFields2 fs (i + 1) m hm _ _ xs ys r2 g2 (dr 1 hx) (dr 1 hy) w
   ·cases hk
  ·split at hk
   ·rename_i hf
    split at hk
    ·rename_i gs n hu hn
     split at hk
     ·rename_i l hl
      split at hk
      ·rename_i hln
       split at hk
       ·rename_i m hm
        injection hk with hk; subst hk
        obtain ⟨r1,r2,g1,g2,rfl⟩:=eqCs_append l m la lb r e
        rw [hln] at g1 g2
        refine eqFields_cons ?_ (run_eqFields2 fs (i + n) m hm _ _ xs ys r2 g2 (dr n hx) (dr n hy) w)
        obtain ⟨inf,hi1,hi2⟩:=Option.map_eq_some_iff.1 hn
        have hag:agT P f.type=some (some n):=by
         unfold agT; rw [hu]; simp [hi1,hi2]
        have pa : ∀ (zs:List Value),(part f.type zs.toArray f.offset).run P w=.ok (.agg ((zs.drop i).take n).toArray) w:=by
         intro zs
         rw [hf.2.1]
         simp [Go.part,Sem.run_bind,(run_isAgg hag w).1,run_size hn,List.take_drop]
        have hfo:P.fieldsOf f.type=gs:=by simp [Program.fieldsOf,hu]
        have hin : ∀ w,(Op.equalIn (d + 2) f.type (.agg ((xs.drop i).take n).toArray) (.agg ((ys.drop i).take n).toArray)).run P w=.ok r1 w:=by
         intro w
         rw [run_equalIn_struct (P:=P) w (d + 1) f.type _ _ (by rw [hfo]; exact hu) hf.2.2,hfo]
         refine run_eqFields (σ:=σ) (h:=h) (d:=d) gs.toList 0 l hl _ _ _ _ r1 g1 (fun j x hj => ?_) (fun j x hj => ?_) w
         ·obtain ⟨hlt,u,hu,hv⟩:=tk n hx j x hj
          exact ⟨u,by simp [List.getElem?_take,hlt,hu],hv⟩
         ·obtain ⟨hlt,u,hu,hv⟩:=tk n hy j x hj
          exact ⟨u,by simp [List.getElem?_take,hlt,hu],hv⟩
        rw [Op.eqFields,if_pos hf.1]
        simp only [Sem.run_bind,pa xs,pa ys,Result.andThen_ok,hin,Op.eqFields]
        cases r1 <;> simp
       ·cases hk
      ·cases hk
     ·cases hk
    ·cases hk
   ·cases hk
theorem pure_eqs {ng:Bool} {t:TypeId} {fs:Array Field} {ks:List Nat} {x y:Operand} {yt:TypeId} {v:AV} (ht:P.underlying t=some (.struct fs)) (hk:fieldKinds2 P 0 fs.toList=some ks) (h1:P.stoodInHeld t=false) (h2:P.eqGuardType P.depth t=false)
 (H:Sl G σ h sl a) (hp:pureOp (LX.av G sl) (.eqs ks ng (compX x) (compX y))=some v) : ∃ u,VR σ h v u∧Gives P a (.binOp (if ng then .neq else .eql) t x y yt) u:=by
 have hx:=H.av x
 have hy:=H.av y
 simp only [pureOp] at hp
 split at hp
 ·rename_i la lb ex ey
  rw [ex] at hx
  rw [ey] at hy
  obtain ⟨xs,e1,hl1,hr1⟩:=hx.agg_inv
  obtain ⟨ys,e2,hl2,hr2⟩:=hy.agg_inv
  split at hp
  ·rename_i r hr
   injection hp with hp; subst hp
   refine ⟨_,.sc _,fun o ho w => ?_⟩
   have key : ∀ d,(Op.equalIn (d + 3) t (.agg xs.toArray) (.agg ys.toArray)).run P w=.ok r w:=by
    intro d
    have hf:P.fieldsOf t=fs:=by simp [Program.fieldsOf,ht]
    rw [run_equalIn_struct (P:=P) w (d + 2) t _ _ (by rw [hf]; exact ht) h1,hf]
    refine run_eqFields2 (σ:=σ) (h:=h) fs.toList 0 ks hk la lb xs ys r hr (fun j x' hj => ?_) (fun j x' hj => ?_) w
    ·obtain ⟨u,hu⟩:=elem_get hl1 hj
     exact ⟨u,by simpa using hu,hr1 _ _ _ hj hu⟩
    ·obtain ⟨u,hu⟩:=elem_get hl2 hj
     exact ⟨u,by simpa using hu,hr2 _ _ _ hj hu⟩
   have hg : ∀ op:BinOp,(eqGuard op t x y (.agg xs.toArray) (.agg ys.toArray)).run P w=.ok () w:=by
    intro op
    unfold eqGuard
    cases op <;> simp [Sem.run_bind,program,h2,Sem.run,pure]
   have hb:(binOp (if ng then .neq else .eql) t (.agg xs.toArray) (.agg ys.toArray)).run P w=.ok (.bool (if ng then !r else r)) w:=by
    cases ng
    ·show (do pure (Value.bool (← Op.equal t (.agg xs.toArray) (.agg ys.toArray))):Sem Value).run P w=_
     rw [Sem.run_bind,show (Op.equal t (.agg xs.toArray) (.agg ys.toArray)).run P w=.ok r w from key 9997]; rfl
    ·show (do pure (Value.bool (!(← Op.equal t (.agg xs.toArray) (.agg ys.toArray)))):Sem Value).run P w=_
     rw [Sem.run_bind,show (Op.equal t (.agg xs.toArray) (.agg ys.toArray)).run P w=.ok r w from key 9997]; rfl
   simp only [execOp,ho,Sem.run_bind,e1,e2,hg,Result.andThen_ok,hb]; rfl
  ·cases hp
 ·cases hp
theorem bytes_get? (s:ByteArray) (i:Nat):s[i]? = s.data.toList[i]? := by
 by_cases hi:i < s.size
 ·have h2:i < s.data.toList.length:=by simpa using hi
  rw [List.getElem?_eq_getElem h2]
  have:s[i]? = some (s[i]'hi):=getElem?_pos s i hi
  rw [this]
  simp
  rfl
 ·have h2:s.data.toList.length≤i:=by simpa using hi
  rw [List.getElem?_eq_none h2]
  exact getElem?_neg s i hi
theorem pure_ixs {t:TypeId} {x i:Operand} {v:AV} (ht:P.underlying t=some .string) (H:Sl G σ h sl a) (hp:pureOp (LX.av G sl) (.ixs (compX x) (compX i))=some v) : ∃ u,VR σ h v u∧Gives P a (.index t x i) u:=by
 have hx:=H.av x
 have hi:=H.av i
 simp only [pureOp] at hp
 split at hp
 ·rename_i s k n ex ei
  rw [ex] at hx
  rw [ei] at hi
  have e1:=hx.sc_inv
  have e2:=hi.sc_inv
  split at hp
  ·rename_i hn
   split at hp
   ·rename_i b hb
    injection hp with hp; subst hp
    refine ⟨_,.sc _,fun o ho w => ?_⟩
    have hb':s[n.toNat]? = some b:=by rw [← hb,bytes_get?]
    simp [execOp,ho,Instr.index,Sem.run_bind,asIntOf,e1,e2,run_und ht,hn,hb']
   ·cases hp
  ·cases hp
 ·cases hp
theorem pure_ixv {t e:TypeId} {m n:Nat} {g:Option Nat} {x i:Operand} {v:AV} (ht:P.underlying t=some (.array m e)) (hn:sizeC P e=some n) (hg:agT P e=some g) (H:Sl G σ h sl a) (hp:pureOp (LX.av G sl) (.ixv m n g (compX x) (compX i))=some v) :
 ∃ u,VR σ h v u∧Gives P a (.index t x i) u:=by
 have hx:=H.av x
 have hi:=H.av i
 simp only [pureOp] at hp
 split at hp
 ·rename_i l k j ex ei
  rw [ex] at hx
  rw [ei] at hi
  obtain ⟨vs,e1,hl,hr⟩:=hx.agg_inv
  have e2:=hi.sc_inv
  split at hp
  ·rename_i hj
   obtain ⟨u,hu,hrun⟩:=run_part hg hl hr (j.toNat * n) (v:=v) (by cases g <;> simpa using hp)
   refine ⟨u,hu,fun o ho w => ?_⟩
   simp [execOp,ho,Instr.index,Sem.run_bind,asIntOf,e1,e2,run_und ht,hj,run_size hn,hrun]
  ·cases hp
 ·cases hp
theorem pure_ixa {t e:TypeId} {n:Nat} {x i:Operand} {v:AV} (ht:P.underlying t=some (.slice e)) (hn:sizeC P e=some n) (H:Sl G σ h sl a) (hp:pureOp (LX.av G sl) (.ixa n (compX x) (compX i))=some v) : ∃ u,VR σ h v u∧Gives P a (.indexAddr t x i) u:=by
 have hx:=H.av x
 have hi:=H.av i
 simp only [pureOp] at hp
 split at hp
 ·rename_i es k j ex ei
  rw [ex] at hx
  rw [ei] at hi
  have e2:=hi.sc_inv
  split at hp
  ·rename_i hj
   split at hp
   ·rename_i c hc
    split at hp
    ·rename_i hcl
     injection hp with hp; subst hp
     have hlt:=(List.getElem?_eq_some_iff.1 hc).1
     obtain ⟨sz,kk,oo,cap,vs,hv,hsz,hcap,hat,hr⟩:=hx.slc_inv.sl_inv (by intro e; rw [e] at hc; simp at hc)
     have hsz':sz=n:=(hsz _ _ hc).symm.trans hcl
     subst hsz'
     refine ⟨_,.fp c 0 kk (oo + j.toNat * sz) (vs j.toNat) (fun q y e => ?_) (fun q y e => hr _ _ _ _ hc e),fun o ho w => ?_⟩
     ·rw [Nat.add_assoc]; exact hat _ _ _ _ hc e
     ·have hj2:j < (es.length:Int):=by omega
      simp [execOp,ho,Instr.indexAt,Sem.run_bind,asIntOf,hv,e2,run_und ht,hj,hj2,run_size hn,add_at]
    ·cases hp
   ·cases hp
  ·cases hp
 ·rename_i b sz off len k j ex ei
  rw [ex] at hx
  rw [ei] at hi
  have e2:=hi.sc_inv
  split at hp
  ·rename_i hj
   obtain ⟨rfl,hj1,hj2⟩:=hj
   injection hp with hp; subst hp
   rcases hx.osl_inv with ⟨_,h0,_⟩ | ⟨kk,d,m,A,cap,hσ,h1,h2,h3,hv⟩
   ·omega
   ·have hA:A=⟨kk,d + off * sz,none⟩:=h2.resolve_left (by omega)
    subst hA
    have:=VR.ep (σ:=σ) (h:=h) b (off + j.toNat) 0 kk d m sz hσ
    refine ⟨_,this,fun o ho w => ?_⟩
    simp [execOp,ho,Instr.indexAt,Sem.run_bind,asIntOf,hv,e2,run_und ht,hj1,hj2,run_size hn,add_at,Nat.add_mul,Nat.add_assoc]
  ·cases hp
 ·cases hp
theorem pure_ixp {t e:TypeId} {m n:Nat} {p i:Operand} {v:AV} (ht:P.underlying t=some (.array m e)) (hn:sizeC P e=some n) (H:Sl G σ h sl a) (hp:pureOp (LX.av G sl) (.ixp m n (compX p) (compX i))=some v) :
 ∃ u,VR σ h v u∧Gives P a (.indexAddr t p i) u:=by
 have hx:=H.av p
 have hi:=H.av i
 simp only [pureOp] at hp
 split at hp
 ·rename_i b o k j ex ei
  rw [ex] at hx
  rw [ei] at hi
  have e2:=hi.sc_inv
  obtain ⟨kk,c,hσ,e1⟩:=hx.bp_inv
  split at hp
  ·rename_i hj
   injection hp with hp; subst hp
   refine ⟨_,.bp b _ kk c hσ,fun oo ho w => ?_⟩
   simp [execOp,ho,Instr.indexAt,Instr.sureAddr,Sem.run_bind,asIntOf,e1,e2,run_und ht,hj.1,hj.2,run_size hn,add_at]
  ·cases hp
 ·rename_i cc f k j ex ei
  rw [ex] at hx
  rw [ei] at hi
  have e2:=hi.sc_inv
  obtain ⟨kk,o,us,h1,h2,e1⟩:=hx.fp_inv
  split at hp
  ·rename_i hj
   injection hp with hp; subst hp
   refine ⟨_,.fp cc _ kk o us h1 h2,fun oo ho w => ?_⟩
   simp [execOp,ho,Instr.indexAt,Instr.sureAddr,Sem.run_bind,asIntOf,e1,e2,run_und ht,hj.1,hj.2,run_size hn,add_at,Nat.add_assoc]
  ·cases hp
 ·cases hp
theorem run_bound {v:Value} {k:IntKind} {i:Int} {y:Nat} {c:BoundsCode} (hv:v=.int k i) (h0:0≤i) (h1:i≤y) (w:World):(Instr.sliceBound v y c).run P w=.ok i.toNat w:=by
 subst hv
 simp [Instr.sliceBound,asIntOf,Sem.run_bind,h0,h1]
theorem intOf_inv {x:AV} {i:Int} (e:intOf' x=some i) {u:Value} (hx:VR σ h x u) : ∃ k,u=.int k i:=by
 unfold intOf' at e
 split at e
 ·injection e with e; subst e
  exact ⟨_,hx.sc_inv⟩
 ·cases e
theorem run_bounds {lo hi:Option Operand} {l:Int} {hh:Option Int} (H:Sl G σ h sl a)
 (h1:(match lo.map compX with | none => some 0 | some y => intOf' (LX.av G sl y))=some l) (h2:(match hi.map compX with | none => some none | some y => (intOf' (LX.av G sl y)).map some)=some hh)
 (isS:Bool) (len cap:Nat) (h0:0≤l) (hl:l≤hh.getD len) (hc:hh.getD len≤cap) (hlen:len≤cap) (w:World) :
 (Instr.sliceBounds isS len cap (lo.map a.eval) (hi.map a.eval) none).run P w=.ok (l.toNat,(hh.getD len).toNat,cap) w:=by
 have lo0 : ∀ (q:Nat),(q:Int)=hh.getD len→∀ y,lo=some y→∃ k,a.eval y=.int k l∧l≤q:=by
  rintro q hq y rfl
  simp only [Option.map_some] at h1
  obtain ⟨k,hv⟩:=intOf_inv h1 (H.av y)
  exact ⟨k,hv,by omega⟩
 have lo1:lo=none→l=0:=by
  rintro rfl
  simpa using h1.symm
 unfold Instr.sliceBounds
 cases hi with
 | none =>
  simp at h2
  subst h2
  simp only [Option.getD_none,Int.toNat_natCast] at *
  cases lo with
  | none =>
   obtain rfl:=lo1 rfl
   simp [Sem.run_bind]
  | some y =>
   obtain ⟨k,hv,hl'⟩:=lo0 len rfl y rfl
   simp [Sem.run_bind,run_bound hv h0 hl']
 | some z =>
  simp only [Option.map_some] at h2
  obtain ⟨i,hi',hi0⟩:=Option.map_eq_some_iff.1 h2
  subst hi0
  obtain ⟨k1,hv1⟩:=intOf_inv hi' (H.av z)
  simp only [Option.getD_some] at *
  have hq:((i.toNat:Nat):Int)=i:=by omega
  cases lo with
  | none =>
   obtain rfl:=lo1 rfl
   simp [Sem.run_bind,run_bound hv1 (show 0≤i by omega) hc]
  | some y =>
   obtain ⟨k,hv,hl'⟩:=lo0 i.toNat hq y rfl
   simp [Sem.run_bind,run_bound hv1 (show 0≤i by omega) hc,run_bound hv h0 hl']
theorem pure_slcs {t:TypeId} {x:Operand} {lo hi mx:Option Operand} {v:AV} (ht:P.underlying t=some .string) (hm:mx.isNone=true) (H:Sl G σ h sl a) (hp:pureOp (LX.av G sl) (.slcs (compX x) (lo.map compX) (hi.map compX))=some v) :
 ∃ u,VR σ h v u∧Gives P a (.slice t x lo hi mx) u:=by
 obtain rfl:mx=none:=by simpa using hm
 have hx:=H.av x
 simp only [pureOp] at hp
 split at hp
 ·rename_i l hh h1 h2
  split at hp
  ·rename_i s ex
   rw [ex] at hx
   have e1:=hx.sc_inv
   split at hp
   ·rename_i hb
    injection hp with hp; subst hp
    refine ⟨_,.sc _,fun o ho w => ?_⟩
    have hr:=run_bounds (P:=P) (w:=w) H h1 h2 false s.size s.size hb.1 hb.2.1 hb.2.2 (Nat.le_refl _)
    simp only [execOp,ho,Instr.sliceAt,Sem.run_bind,run_und ht,Result.andThen_ok,Instr.slice,e1,Option.map_none,Option.isSome_none,Bool.false_eq_true,if_false,Sem.run_pure,hr]
   ·cases hp
  ·cases hp
 ·cases hp
theorem okSz_get {sz:Nat} {es:List (List FV)} (h:okSz sz es=true) {i:Nat} {c:List FV} (e:es[i]? = some c):c.length=sz:=by
 unfold okSz at h
 rw [List.all_eq_true] at h
 simpa using h c (List.mem_of_getElem? e)
theorem FR.sub {sz:Nat} {es:List (List FV)} {A:Option Addr} {n c:Nat} (r:FR h (.sl es) (.slice A n c)) (hok:okSz sz es=true) (l q:Nat) (h1:l≤q) (h2:q≤es.length) (A':Option Addr) (hA:l < q→A'=A.map (·.add (l * sz))) :
 FR h (.sl ((es.take q).drop l)) (.slice A' (q - l) (c - l)):=by
 have hn:=r.sl_slice
 obtain ⟨A0,c0,e0,hc0,_⟩:=hn
 injection e0 with eA en ec
 subst eA; subst en; subst ec
 by_cases hlt:l < q
 ·have hne:es≠[]:=by intro e; rw [e] at h2; simp at h2; omega
  obtain ⟨sz',k,o,cap,vs,e,hsz,hcap,hat,hr⟩:=r.sl_inv hne
  have hszz:sz'=sz:=by
   have h0:es[0]? = some es[0]:=List.getElem?_eq_getElem (by omega)
   exact (hsz _ _ h0).symm.trans (okSz_get hok h0)
  subst hszz
  injection e with e1 e2 e3
  subst e1; subst e3
  have hA':=hA hlt
  simp only [Option.map_some,add_at] at hA'
  subst hA'
  have hlen:((es.take q).drop l).length=q - l:=by simp; omega
  have gt : ∀ (i:Nat) (c:List FV),((es.take q).drop l)[i]? = some c→es[l + i]? = some c:=by
   intro i c e
   rw [List.getElem?_drop,List.getElem?_take] at e
   split at e
   ·exact e
   ·cases e
  have:=FR.sl (h:=h) ((es.take q).drop l) sz' k (o + l * sz') none (c - l) (fun i j => vs (l + i) j) (fun i c e => hsz _ _ (gt i c e)) (by rw [hlen]; omega) (fun _ => rfl)
   (fun i c j x e1 e2 => by
     have:=hat _ _ _ _ (gt i c e1) e2
     rw [Nat.add_mul] at this
     rw [← this]; congr 1; omega) (fun i c j x e1 e2 => hr _ _ _ _ (gt i c e1) e2)
  rw [hlen] at this
  exact this
 ·obtain rfl:l=q:=by omega
  have he:(es.take l).drop l=[]:=by
   apply List.drop_eq_nil_of_le; simp; omega
  rw [he,Nat.sub_self]
  exact .sl0 _ _
theorem pure_slc {t e:TypeId} {n:Nat} {x:Operand} {lo hi mx:Option Operand} {v:AV} (ht:P.underlying t=some (.slice e)) (hn:sizeC P e=some n) (H:Sl G σ h sl a) (hp:pureOp (LX.av G sl) (.slc n (compX x) (lo.map compX) (hi.map compX) (mx.map compX))=some v) :
 ∃ u,VR σ h v u∧Gives P a (.slice t x lo hi mx) u:=by
 have hx:=H.av x
 simp only [pureOp] at hp
 have base : ∀ (A:Option Addr) (len cap:Nat) (l q m:Nat) w,a.eval x=.slice A len cap→(Instr.sliceBounds true len cap (lo.map a.eval) (hi.map a.eval) (mx.map a.eval)).run P w=.ok (l,q,m) w →
  ∀ o:Oper,o.op=.slice t x lo hi mx→(execOp a.eval o).run P w=.ok (.value (.slice (if m=l then A else A.map (·.add (l * n))) (q - l) (m - l))) w:=by
  intro A len cap l q m w e hb o ho
  simp only [execOp,ho,Instr.sliceAt,Sem.run_bind,run_und ht,Result.andThen_ok,Instr.slice,e,hb,run_size hn,Sem.run_pure]
 split at hp
 ·rename_i l hh h1 h2 hm
  obtain rfl:mx=none:=by
   cases mx with
   | none => rfl
   | some y => simp at hm
  split at hp
  ·rename_i es ex
   rw [ex] at hx
   split at hp
   ·rename_i hb
    injection hp with hp; subst hp
    obtain ⟨hsz,hb0,hb1,hb2⟩:=hb
    obtain ⟨A,cap,e,hcap,hne⟩:=hx.slc_slice
    have hfr:=hx.slc_inv
    rw [e] at hfr
    refine ⟨.slice (if cap=l.toNat then A else A.map (·.add (l.toNat * n))) ((hh.getD es.length).toNat - l.toNat) (cap - l.toNat),.fz _ _ (hfr.sub hsz l.toNat (hh.getD es.length).toNat (by omega) (by omega) _ (fun hlt => ?_)),fun o ho w => ?_⟩
    ·rw [if_neg (by omega)]
    ·have hr:=run_bounds (P:=P) (w:=w) H h1 h2 true es.length cap hb0 hb1 (by omega) hcap
     exact base A _ cap _ _ _ w e hr o ho
   ·cases hp
  ·rename_i ex
   rw [ex] at hx
   split at hp
   ·rename_i hb
    obtain ⟨rfl,hb1⟩:=hb
    injection hp with hp; subst hp
    obtain ⟨A,e⟩:=hx.emp_inv
    refine ⟨.slice A 0 0,.emp A,fun o ho w => ?_⟩
    have hr:=run_bounds (P:=P) (w:=w) H h1 h2 true 0 0 (Int.le_refl 0) (by simp only [Int.natCast_zero] at *; omega) (by simp only [Int.natCast_zero] at *; omega) (Nat.le_refl 0)
    have:=base A _ 0 _ _ _ w e hr o ho
    have hq:((hh.getD ((0:Nat):Int)).toNat - (0:Int).toNat:Nat)=0:=by simp only [Int.natCast_zero] at *; omega
    rw [hq] at this
    simpa using this
   ·cases hp
  ·rename_i b sz off len ex
   rw [ex] at hx
   split at hp
   ·rename_i hb
    obtain ⟨rfl,hb0,hb1,hb2⟩:=hb
    injection hp with hp; subst hp
    obtain ⟨A,cap,e,hcap⟩:=hx.osl_slice
    have hr:=fun w => run_bounds (P:=P) (w:=w) H h1 h2 true len cap hb0 hb1 (by omega) hcap
    refine ⟨.slice (if cap=l.toNat then A else A.map (·.add (l.toNat * sz))) ((hh.getD len).toNat - l.toNat) (cap - l.toNat),?_,fun o ho w => base A _ cap _ _ _ w e (hr w) o ho⟩
    have hq:((hh.getD len).toNat - l.toNat:Nat)=(hh.getD len - l).toNat:=by omega
    rw [hq]
    rcases hx.osl_inv with ⟨hσ,h0,A',e'⟩ | ⟨k,d,m,A',cap',hσ,g1,g2,g3,e'⟩
    ·rw [e'] at e
     injection e with eA en ec
     subst eA; subst ec; subst h0
     have:(hh.getD ((0:Nat):Int) - l).toNat=0:=by omega
     rw [this]
     have hl0:l.toNat=0:=by omega
     rw [hl0]
     exact .vir _ _ _ _ hσ
    ·rw [e'] at e
     injection e with eA en ec
     subst eA; subst ec
     by_cases hc:cap'=l.toNat
     ·rw [if_pos hc]
      exact .osl b sz _ _ k d m A' _ hσ (by omega) (.inl (by omega)) (by
       have:(off + l.toNat) * sz=off * sz + cap' * sz:=by rw [Nat.add_mul,hc]
       have h0:(cap' - l.toNat) * sz=0:=by rw [hc,Nat.sub_self,Nat.zero_mul]
       omega)
     ·rw [if_neg hc]
      have hA:A'=⟨k,d + off * sz,none⟩:=g2.resolve_left (by omega)
      subst hA
      simp only [Option.map_some,add_at]
      refine .osl b sz _ _ k d m _ _ hσ (by omega) (.inr ?_) ?_
      ·rw [Nat.add_mul]; congr 1; omega
      ·have h1:(off + l.toNat) * sz=off * sz + l.toNat * sz:=Nat.add_mul _ _ _
       have h2:(cap' - l.toNat) * sz=cap' * sz - l.toNat * sz:=Nat.sub_mul _ _ _
       have h3:l.toNat * sz≤cap' * sz:=Nat.mul_le_mul_right _ (by omega)
       omega
   ·cases hp
  ·cases hp
 ·rename_i m h1 h2 hm
  obtain ⟨z,rfl,rfl⟩ : ∃ z,mx=some z∧m=compX z:=by
   cases mx with
   | none => simp at hm
   | some z => simp at hm; exact ⟨z,rfl,hm.symm⟩
  split at hp
  ·rename_i km em
   have hm':=H.av z
   rw [em] at hm'
   have e3:=hm'.sc_inv
   have hb : ∀ (len cap:Nat) w,(Instr.sliceBounds true len cap (lo.map a.eval) (hi.map a.eval) (some (a.eval z))).run P w=.ok (0,0,0) w:=by
    intro len cap w
    obtain ⟨y,rfl⟩ : ∃ y,hi=some y:=by
     cases hi with
     | none => simp at h2
     | some y => exact ⟨y,rfl⟩
    simp only [Option.map_some] at h2
    obtain ⟨i,hi',hi0⟩:=Option.map_eq_some_iff.1 h2
    injection hi0 with hi0; subst hi0
    obtain ⟨k1,hv1⟩:=intOf_inv hi' (H.av y)
    unfold Instr.sliceBounds
    have b0:=run_bound (P:=P) (y:=cap) (c:=.slice3Acap) e3 (Int.le_refl 0) (by omega) w
    have b1:=run_bound (P:=P) (y:=0) (c:=.slice3B) hv1 (Int.le_refl 0) (by omega) w
    cases lo with
    | none =>
     simp only [Option.map_some,Option.map_none,Sem.run_bind,if_true,b0,Result.andThen_ok,Int.toNat_zero,b1,Sem.run_pure]
    | some w0 =>
     simp only [Option.map_some] at h1
     obtain ⟨k2,hv2⟩:=intOf_inv h1 (H.av w0)
     have b2:=run_bound (P:=P) (y:=0) (c:=.slice3C) hv2 (Int.le_refl 0) (by omega) w
     simp only [Option.map_some,Sem.run_bind,if_true,b0,Result.andThen_ok,Int.toNat_zero,b1,Sem.run_pure,Option.isSome_some,b2]
   split at hp
   ·rename_i es ex
    rw [ex] at hx
    injection hp with hp; subst hp
    obtain ⟨A,cap,e,hcap,hA⟩:=hx.slc_slice
    exact ⟨_,.emp A,fun o ho w => by
     have:=base A _ cap 0 0 0 w e (hb _ _ w) o ho
     simpa using this⟩
   ·rename_i ex
    rw [ex] at hx
    injection hp with hp; subst hp
    obtain ⟨A,e⟩:=hx.emp_inv
    exact ⟨_,.emp A,fun o ho w => by
     have:=base A _ 0 0 0 0 w e (hb _ _ w) o ho
     simpa using this⟩
   ·cases hp
  ·cases hp
 ·cases hp
theorem leafV_cells {v:Value} (e:leafV v=true):v.cells = #[v]:=by
 cases v <;> first | rfl | (simp [leafV] at e)
theorem leaf_val {x:AV} (e:leaf x=true) {u:Value} (r:VR σ h x u):leafV u=true:=by
 cases r with
 | dead v => simp [leaf] at e
 | fz x v r => exact r.leaf
 | agg => simp [leaf] at e
 | tup => simp [leaf] at e
 | _ => rfl
theorem cellsOf_sound {x:AV} {l:List AV} (e:cellsOf x=some l) {u:Value} (r:VR σ h x u) :
 ∃ us:List Value,u.cells=us.toArray∧l.length=us.length∧∀ (i:Nat) (y:AV) (v:Value),l[i]? = some y→us[i]? = some v→VR σ h y v:=by
 unfold cellsOf at e
 split at e
 ·injection e with e; subst e
  obtain ⟨vs,rfl,hl,hr⟩:=r.agg_inv
  exact ⟨vs,rfl,hl,hr⟩
 ·split at e
  ·rename_i hlf
   injection e with e; subst e
   refine ⟨[u],leafV_cells (leaf_val hlf r),rfl,fun i y v e1 e2 => ?_⟩
   cases i with
   | zero => simp at e1 e2; subst e1; subst e2; exact r
   | succ i => simp at e1
  ·cases e
theorem setAt_length {α:Type} (l:List α) (o:Nat) (x:List α) (h:o + x.length≤l.length):(setAt l o x).length=l.length:=by
 simp [setAt]; omega
theorem setAt_get {α:Type} (l:List α) (o:Nat) (x:List α) (h:o + x.length≤l.length) (i:Nat):(setAt l o x)[i]? = if i < o then l[i]? else if i < o + x.length then x[i - o]? else l[i]? := by
 unfold setAt
 rw [List.append_assoc]
 have ht:(l.take o).length=o:=by simp; omega
 by_cases h1:i < o
 ·rw [if_pos h1,List.getElem?_append_left (by omega),List.getElem?_take,if_pos h1]
 ·rw [if_neg h1,List.getElem?_append_right (by omega),ht]
  by_cases h2:i < o + x.length
  ·rw [if_pos h2,List.getElem?_append_left (by omega)]
  ·rw [if_neg h2,List.getElem?_append_right (by omega),List.getElem?_drop]
   congr 1; omega
theorem setAt_cons {α:Type} (l:List α) (o:Nat) (y:α) (x:List α) (h:o + (y :: x).length≤l.length):setAt l o (y :: x)=setAt (l.set o y) (o + 1) x:=by
 simp at h
 apply List.ext_getElem?
 intro i
 rw [setAt_get l o (y :: x) (by simpa using h),setAt_get (l.set o y) (o + 1) x (by simp; omega)]
 simp only [List.length_cons,List.getElem?_set]
 by_cases h1:i < o
 ·rw [if_pos h1,if_pos (by omega),if_neg (by omega)]
 ·by_cases h2:i=o
  ·subst h2
   rw [if_neg (by omega),if_pos (by omega),if_pos (by omega),if_pos rfl,if_pos (by omega)]
   simp
  ·rw [if_neg h1]
   by_cases h3:i < o + (x.length + 1)
   ·rw [if_pos h3,if_neg (by omega),if_pos (by omega)]
    have:i - o=(i - (o + 1)) + 1:=by omega
    rw [this]; simp
   ·rw [if_neg h3,if_neg (by omega),if_neg (by omega),if_neg (by omega)]
theorem foldl_setAt (us:List Value) : ∀ (k:Nat) (c:Array Value) (o:Nat),o + k + us.length≤c.size→(us.zipIdx k).foldl (fun (cs:Array Value) (p:Value × Nat) => cs.setIfInBounds (o + p.2) p.1) c=(setAt c.toList (o + k) us).toArray:=by
 induction us with
 | nil => intro k c o hk; simp [setAt]
 | cons u us ih =>
  intro k c o hk
  simp only [List.zipIdx_cons,List.foldl_cons]
  rw [ih (k + 1) _ o (by simp at hk ⊢; omega),setAt_cons _ _ _ _ (by simp at hk ⊢; omega)]
  congr 2
  ·simp
theorem VR.setAt {cs:List AV} {vs:List Value} (hl:cs.length=vs.length) (hr : ∀ (i:Nat) (x:AV) (v:Value),cs[i]? = some x→vs[i]? = some v→VR σ h x v) {l:List AV} {us:List Value} (hl2:l.length=us.length)
 (hr2 : ∀ (i:Nat) (x:AV) (v:Value),l[i]? = some x→us[i]? = some v→VR σ h x v) (o:Nat) (ho:o + l.length≤cs.length) :
 ∀ (i:Nat) (x:AV) (v:Value),(setAt cs o l)[i]? = some x→(setAt vs o us)[i]? = some v→VR σ h x v:=by
 intro i x v e1 e2
 rw [setAt_get _ _ _ ho] at e1
 rw [setAt_get _ _ _ (by omega)] at e2
 split at e1
 ·rename_i h1; rw [if_pos h1] at e2; exact hr _ _ _ e1 e2
 ·rename_i h1
  rw [if_neg h1] at e2
  split at e1
  ·rename_i h2; rw [if_pos (by omega)] at e2; exact hr2 _ _ _ e1 e2
  ·rename_i h2; rw [if_neg (by omega)] at e2; exact hr _ _ _ e1 e2
theorem fill_sound {place:Nat→Option (Nat × Nat)} (H:Sl G σ h sl a) : ∀ (ps:List (Nat × Operand)) (qs:List (Nat × Nat × LX)),compParts P place ps=some qs→∀ (cs:List AV) (vs:List Value),cs.length=vs.length →
 (∀ (i:Nat) (x:AV) (v:Value),cs[i]? = some x→vs[i]? = some v→VR σ h x v)→∀ l,buildC (LX.av G sl) cs qs=some l →
 ∃ us:List Value,Instr.fill place vs.toArray (ps.map fun p => (p.1,a.eval p.2))=some us.toArray∧l.length=us.length∧∀ (i:Nat) (x:AV) (v:Value),l[i]? = some x→us[i]? = some v→VR σ h x v
 | [],qs,hq,cs,vs,hl,hr,l,e => by
  simp only [compParts] at hq
  injection hq with hq; subst hq
  simp only [buildC] at e
  injection e with e; subst e
  exact ⟨vs,rfl,hl,hr⟩
 | (i, x) :: ps, qs, hq, cs, vs, hl, hr, l, e => by
  simp only [compParts] at hq
  split at hq
  ·rename_i o n qs' hp hq'
   injection hq with hq; subst hq
   simp only [buildC] at e
   split at e
   ·rename_i ll hll
    split at e
    ·rename_i hc
     obtain ⟨us,hu,hl2,hr2⟩:=cellsOf_sound hll (H.av x)
     have hset:=VR.setAt hl hr hl2 hr2 o (by omega)
     obtain ⟨ws,hf,h3,h4⟩:=fill_sound H ps qs' hq' (setAt cs o ll) (setAt vs o us) (by rw [setAt_length _ _ _ (by omega),setAt_length _ _ _ (by omega),hl]) hset l e
     refine ⟨ws,?_,h3,h4⟩
     simp only [List.map_cons,Instr.fill,hp,hu]
     rw [if_neg (by simp; omega)]
     rw [show us.toArray.zipIdx.foldl (fun (cs:Array Value) (p:Value × Nat) => cs.setIfInBounds (o + p.2) p.1) vs.toArray=(setAt vs o us).toArray from ?_]
     ·exact hf
     ·have:=foldl_setAt us 0 vs.toArray o (by simp; omega)
      simp only [Nat.add_zero] at this
      rw [← this,← Array.foldl_toList]
      congr 1
      simp
    ·cases e
   ·cases e
  ·cases hq
theorem zeroC_inv {t:TypeId} {z:List Value} (e:zeroC P t=some z) : ∃ v:Value,v.cells=z.toArray∧(∀ u∈z,leafV u=true)∧∀ w,(zeroValue t).run P w=.ok v w:=by
 unfold zeroC at e
 split at e
 ·rename_i i hi
  split at e
  ·rename_i v hv
   split at e
   ·rename_i hlf
    injection e with e; subst e
    refine ⟨v,by simp,fun u hu => List.all_eq_true.1 hlf u hu,fun w => ?_⟩
    simp [zeroValue,Sem.run_bind,run_info hi,hv]
   ·cases e
  ·cases e
 ·cases e
theorem VR.zeros (z:List Value) : ∀ (i:Nat) (x:AV) (v:Value),(z.map cellAV)[i]? = some x→z[i]? = some v→VR σ h x v:=by
 intro i x v e1 e2
 rw [List.getElem?_map,e2] at e1
 simp at e1
 subst e1
 exact .cell v
theorem mapM_places (fs:List Field) (hs:fs.all (fun f => (sizeC P f.type).isSome)=true) : ∃ l:List (Nat × Nat),(∀ w,(fs.mapM (fun f => do pure (f.offset,← sizeOf f.type):Field→Sem (Nat × Nat))).run P w=.ok l w) ∧
 ∀ (i:Nat),l[i]? = (fs[i]?).bind (fun f => (sizeC P f.type).map fun n => (f.offset,n)):=by
 induction fs with
 | nil => exact ⟨[],fun w => by simp,fun i => by simp⟩
 | cons f fs ih =>
  simp only [List.all_cons,Bool.and_eq_true] at hs
  obtain ⟨l,h1,h2⟩:=ih hs.2
  obtain ⟨n,hn⟩:=Option.isSome_iff_exists.1 hs.1
  refine ⟨(f.offset,n) :: l,fun w => ?_,fun i => ?_⟩
  ·simp only [List.mapM_cons,Sem.run_bind,run_size hn,h1,Result.andThen_ok,Sem.run_pure]
  ·cases i with
   | zero => simp [hn]
   | succ i => simp [h2]
theorem pure_build {t:TypeId} {ps:Array (Nat × Operand)} {l:LOp} {v:AV} (hc:compOp P (.build t ps)=some l) (H:Sl G σ h sl a) (hp:pureOp (LX.av G sl) l=some v) : ∃ u,VR σ h v u∧Gives P a (.build t ps) u:=by
 have hmap : ∀ w:World,(ps.map fun (i,x) => (i,a.eval x)).toList=ps.toList.map fun p => (p.1,a.eval p.2):=fun w => by simp
 simp only [compOp] at hc
 split at hc
 ·rename_i fs z hu hz
  split at hc
  ·rename_i hall
   obtain ⟨qs,hq,rfl⟩:=Option.map_eq_some_iff.1 hc
   simp only [pureOp] at hp
   split at hp
   ·rename_i ll hb
    injection hp with hp; subst hp
    obtain ⟨zv,hzc,hzl,hzr⟩:=zeroC_inv hz
    obtain ⟨us,hf,hl,hr⟩:=fill_sound (P:=P) H ps.toList qs hq (z.map cellAV) z (by simp) (VR.zeros z) ll hb
    obtain ⟨pl,hpl,hpl2⟩:=mapM_places (P:=P) fs.toList hall
    refine ⟨.agg us.toArray,.agg _ _ hl hr,fun o ho w => ?_⟩
    have hplace:(fun i => (pl.toArray)[i]?)=compFields P fs:=by
     funext i
     simp only [List.getElem?_toArray,hpl2,compFields]
     rw [Array.getElem?_toList]
     cases fs[i]? <;> rfl
    have harr:(fs.mapM fun f => do pure (f.offset,← sizeOf f.type):Sem (Array (Nat × Nat))).run P w=.ok pl.toArray w:=by
     rw [Array.mapM_eq_mapM_toList]
     have : ∀ (x:Sem (List (Nat × Nat))),(List.toArray <$> x).run P w=(x.run P w).andThen fun l w' => .ok l.toArray w':=fun x => by
      rw [← bind_pure_comp,Sem.run_bind]; rfl
     rw [this,hpl]; rfl
    simp only [execOp,ho,Instr.build,Sem.run_bind,hzr,Result.andThen_ok,run_und hu,harr,hmap w,hplace,hzc,hf,Sem.run_pure]
   ·cases hp
  ·cases hc
 ·rename_i m e z hu hz
  split at hc
  ·rename_i n hn
   obtain ⟨qs,hq,rfl⟩:=Option.map_eq_some_iff.1 hc
   simp only [pureOp] at hp
   split at hp
   ·rename_i ll hb
    injection hp with hp; subst hp
    obtain ⟨zv,hzc,hzl,hzr⟩:=zeroC_inv hz
    obtain ⟨us,hf,hl,hr⟩:=fill_sound (P:=P) H ps.toList qs hq (z.map cellAV) z (by simp) (VR.zeros z) ll hb
    refine ⟨.agg us.toArray,.agg _ _ hl hr,fun o ho w => ?_⟩
    simp only [execOp,ho,Instr.build,Sem.run_bind,hzr,Result.andThen_ok,run_und hu,run_size hn,hmap w,hzc,hf,Sem.run_pure]
   ·cases hp
  ·cases hc
 ·cases hc
end Go.Vai
