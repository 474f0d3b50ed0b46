/-
  A part of the abstract run of Go functions and of the proof that it tells the truth.
-/
import Derived.Below
import Derived.Carry
import Derived.ChangeSame
import Derived.RowKit
import Derived.Test.YtljbbcpahapmnaaGreatDoorVaUx
set_option linter.unusedVariables false
set_option linter.unusedSimpArgs false
namespace Go.Vai
open Go.RowKit Go.ChangeShapes Go.WideShapes
theorem Frame0.below {W W':World} (F:Frame0 (fun _ => False) W W'):Below W.heap.size W W' :=
 ⟨F.os,F.tape,F.output,F.size,fun k hk => F.keep k hk fun h => h⟩
theorem trodAll_stays {H:Type} {enc:TypeId × Value→H} {P:Program} (hl:laidOutB P=true) {W W':World} (hb:Below W.heap.size W W') {sp:Nat→Bool} : ∀ {ts:List TypeId} {vs:List Value} {ds:List (DataW H)} {ps:List MemPlace},
 (∀ t∈ts,P.readableRec t=true∧t < P.types.size)→DataW.TrodAll enc P W 0 (fun _ => true) true ts vs ds ps→(∀ p∈ps,p.block < W.heap.size∧sp p.block=true)→DataW.TrodAll enc P W' 0 sp true ts vs ds ps
 | [],_,_,_,ht,h,hp => by
  obtain ⟨rfl,rfl,rfl⟩:=trodAll_nil h
  exact h
 | t :: ts,_,_,_,ht,h,hp => by
  obtain ⟨v,vs1,d,ds1,a,b,rfl,rfl,rfl,h1,h2⟩:=trodAll_cons h
  have htt:=ht t (by simp)
  refine ⟨a,b,?_,trodAll_stays hl hb (fun u hu => ht u (by simp [hu])) h2 fun p hp' => hp p (by simp [hp']),rfl⟩
  exact WideElems.Trod_stays hl htt.1 htt.2 h1 (fun x hx => hb.same (hp x (by simp [hx])).1) fun x hx => (hp x (by simp [hx])).2
theorem post_true {H:Type} {enc:TypeId × Value→H} {P:Program} {f:Func} {s:ChangeSpec} {apart fresh handsOn again:Bool} {W W':World} {args:Array Value} {ds gs:List (DataW H)} {before:List MemPlace} {tb:TypeId}
 (hW:DataW.Whole enc P f.params.toList s.vars apart W args.toList ds gs before) (hv:s.vars=[]) (F:Frame0 (fun _ => False) W W') (hl:laidOutB P=true) (hps : ∀ t∈f.params.toList,P.readableRec t=true∧t < P.types.size)
 (hres:f.resultTypes = #[tb]) (hb:P.underlying tb=some .bool) (hfn:s.fn H (ds ++ gs)={ results:=[.lit (.bool true)],args:=ds }):s.post enc P f apart fresh handsOn again W args (.bool true) W':=by
 have hB:=F.below
 have hlt : ∀ p∈before,p.block < W.heap.size:=fun p hp => hW.lt p hp
 have hW0:=hW
 obtain ⟨p,q,hA,hV,hpq,hz,hn⟩:=hW
 rw [hv] at hV
 have hgq:gs=[]∧q=[]:=by
  cases gs with
  | nil => exact ⟨rfl,hV⟩
  | cons g r => exact absurd hV (by intro h; cases h)
 obtain ⟨rfl,rfl⟩:=hgq
 rw [List.append_nil] at hpq
 subst hpq
 have hargs : ∀ sp:Nat→Bool,(∀ x∈before,sp x.block=true)→DataW.TrodAll enc P W' 0 sp true f.params.toList args.toList ds before:=fun sp hsp => trodAll_stays hl hB hps hA fun x hx => ⟨hlt x hx,hsp x hx⟩
 have hold : ∀ x∈before,(fun b => decide (b < W.heap.size)) x.block=true:=fun x hx => by simpa using hlt x hx
 have hr : ∀ (b:Nat) (sp:Nat→Bool) (hd:Bool),DataW.TrodAll enc P W' b sp hd f.resultTypes.toList ((Value.bool true).resultList f.resultTypes.size) [.lit (.bool true)] []:=by
  intro b sp hd
  rw [hres]
  exact trodAll_mk1 (shut_bool hb true)
 have hvv : ∀ sp:Nat→Bool,DataW.TrodVars enc P W' sp s.vars ([]:List (DataW H)) []:=fun sp => by rw [hv]; rfl
 refine ⟨ds,[],before,[],before,[],hW0,by rw [hfn]; exact hr _ _ _,by rw [hfn]; exact hargs _ hold,by rw [hfn]; exact hvv _,?_,fun _ => ?_⟩
 ·refine ⟨F.os,F.output,fun i hi => ?_⟩
  rw [hB.block i hi]
  split
  ·rename_i h1 h2
   rw [h1] at h2
   injection h2 with h2
   injection h2 with a1 a2 a3
   subst a1; subst a2; subst a3
   exact ⟨rfl,rfl,rfl,fun j _ => rfl⟩
  ·rename_i h1 h2
   rw [h1] at h2
   injection h2 with h2
   injection h2 with a1 a2
   subst a1; subst a2
   exact .inr ⟨rfl,rfl⟩
  ·rfl
 ·refine ⟨ok_one hres rfl (okWide_bool_mk hb true),_,_,([] ++ before) ++ [],⟨[] ++ before,[],trodAll_append (hargs _ (fun _ _ => rfl)) (hr _ _ _),hvv _,rfl,?_,?_⟩,?_⟩
  ·intro b off hp
   have hp':MemPlace.cell b off∈before:=by simpa using hp
   have hbl:=hlt _ hp'
   have:W'.frozen? ⟨b,off,none⟩=W.frozen? ⟨b,off,none⟩:=by
    have:=hB.block b hbl
    simp only [World.frozen?,this]
   rw [this]
   exact hz b off hp'
  ·intro ha
   simpa using hn ha
  ·intro x hx _
   simpa using hx
theorem args_x {H:Type} {enc:TypeId × Value→H} {P:Program} {w:World} {base b0:Nat} {r:Reach} {spare:Nat→Bool} {held:Bool} {Γ:TG} (hΓ : ∀ (j:Nat) (T:Tx) (t:TypeId),Γ[j]? = some (T,t)→TxOk P Γ T t∧∃ fs,T=.st fs) : ∀ (Ts:List Tx) (ts:List TypeId) (vs:List Value) (ds:List (DataW H)) (ps:List MemPlace),Ts.length=ts.length →
 (∀ (i:Nat) (T:Tx) (t:TypeId),Ts[i]? = some T→ts[i]? = some t→TxOk P Γ T t)→(∀ (i:Nat) (t:TypeId) (v:Value),ts[i]? = some t→vs[i]? = some v→Value.okWide P w r b0 t v)→DataW.TrodAll enc P w base spare held ts vs ds ps→(∀ n∈DataW.weightsEach P ts ds,n≤reachBytes) →
 ∃ xss:List (List FV),xss.length=Ts.length∧(∀ (i:Nat) (T:Tx) (xs:List FV),Ts[i]? = some T→xss[i]? = some xs→HasX Γ T xs)∧(List.zipWith argAX Ts xss).length=vs.length ∧
  ∀ (i:Nat) (x:AV) (u:Value),(List.zipWith argAX Ts xss)[i]? = some x→vs[i]? = some u→VR (fun _ => none) (heapOf w) x u
 | [],[],vs,ds,ps,hl,hT,hv,h,hw => by
  obtain ⟨rfl,rfl,rfl⟩:=trodAll_nil h
  exact ⟨[],rfl,fun i T xs e => by simp at e,rfl,fun i x u e => by simp at e⟩
 | [],_ :: _,vs,ds,ps,hl,hT,hv,h,hw => by simp at hl
 | _ :: _,[],vs,ds,ps,hl,hT,hv,h,hw => by simp at hl
 | T :: Ts, t :: ts, vs, ds, ps, hl, hT, hv, h, hw => by
  obtain ⟨v,vs1,d,ds1,a,b,rfl,rfl,rfl,h1,h2⟩:=trodAll_cons h
  obtain ⟨xs,g1,g2⟩:=arg_x hΓ (hT 0 T t rfl rfl) (hv 0 t v rfl rfl) h1 fun n hn => hw n (by simp [DataW.weightsEach,hn])
  obtain ⟨xss,q1,q2,q3,q4⟩:=args_x hΓ Ts ts vs1 ds1 b (by simpa using hl) (fun i T t e1 e2 => hT (i + 1) T t (by simpa using e1) (by simpa using e2)) (fun i t v e1 e2 => hv (i + 1) t v (by simpa using e1) (by simpa using e2)) h2 fun n hn => hw n (by simp [DataW.weightsEach,hn])
  refine ⟨xs :: xss,by simp [q1],fun i T' xs' e1 e2 => ?_,by simp [q3],fun i x u e1 e2 => ?_⟩
  ·cases i with
   | zero => simp at e1 e2; subst e1; subst e2; exact g1
   | succ i => exact q2 i T' xs' (by simpa using e1) (by simpa using e2)
  ·cases i with
   | zero => simp at e1 e2; subst e1; subst e2; exact g2
   | succ i => exact q4 i x u (by simpa using e1) (by simpa using e2)
theorem contract_x {H : Type} {enc : TypeId × Value → H} {P : Program} {Γ : TG} (hΓ : ∀ (j : Nat) (T : Tx) (t : TypeId), Γ[j]? = some (T, t) → TxOk P Γ T t ∧ ∃ fs, T = .st fs) (v : Env) (hmix : P.follows .mixedOrders = true) (hT : TOk P v.T) (hE : RFSound P v.G v.E) (hl : laidOutB P = true) {f : FuncId} (hf4 : f < 4096) {fn : Func} {c : Code} (hf : P.funcs[f]? = some fn) (hnm : (fn.name == "runtime.NumGoroutine") = false) (hb : fn.body = some c)
 {Ts:List Tx} (hlen:Ts.length=fn.params.toList.length) (hTy : ∀ (i:Nat) (T:Tx) (t:TypeId),Ts[i]? = some T→fn.params.toList[i]? = some t→TxOk P Γ T t) (hps : ∀ t∈fn.params.toList,P.readableRec t=true∧t < P.types.size)
 {s:ChangeSpec} (hv:s.vars=[]) {tb:TypeId} (hres:fn.resultTypes = #[tb]) (hbool:P.underlying tb=some .bool) (hfn : ∀ ds:List (DataW H),ds.length=Ts.length→s.fn H (ds ++ [])={ results:=[.lit (.bool true)],args:=ds })
 (hrun : ∀ xss:List (List FV),xss.length=Ts.length→(∀ (i:Nat) (T:Tx) (xs:List FV),Ts[i]? = some T→xss[i]? = some xs→HasX Γ T xs)→∃ bl,v.run f (List.zipWith argAX Ts xss) []=some (.fz (.sc (.bool true)),bl))
 {apart fresh handsOn again:Bool} {W:World} {base:Nat} {args:Array Value} {ds gs:List (DataW H)} {before:List MemPlace} (hG:GR v.G (heapOf W))
 (hval : ∀ (j:Nat) (t:TypeId) (v:Value),fn.params[j]? = some t→args[j]? = some v→Value.okWide P W .any base t v) (hW:DataW.Whole enc P fn.params.toList s.vars apart W args.toList ds gs before) (hwt:(DataW.weightsEach P (fn.params.toList ++ s.plain.varTypes P) (ds ++ gs)).all (·≤reachBytes)=true) :
 Calls P f args W fun e W' => ∃ u,e=.returned u∧s.post enc P fn apart fresh handsOn again W args u W':=by
 have hW0:=hW
 obtain ⟨p,q,hA,hV,hpq,hz,hn⟩:=hW0
 rw [hv] at hV
 have hg:gs=[]:=by
  cases gs with
  | nil => rfl
  | cons g r => exact absurd hV (by intro h; cases h)
 subst hg
 have hwt' : ∀ n∈DataW.weightsEach P fn.params.toList ds,n≤reachBytes:=by
  intro n hn
  have hvt:s.plain.varTypes P=[]:=by simp [ChangeSpec.plain,hv,DataSpec.varTypes]
  rw [hvt,List.append_nil,List.append_nil] at hwt
  have:=List.all_eq_true.1 hwt n hn
  simpa using this
 obtain ⟨xss,h1,h2,h3,h4⟩:=args_x hΓ Ts fn.params.toList args.toList ds p hlen hTy (fun i t v e1 e2 => hval i t v (by simpa using e1) (by simpa using e2)) hA hwt'
 obtain ⟨bl,hbl⟩:=hrun xss h1 h2
 have hdl:ds.length=Ts.length:=by
  rw [hlen]
  clear hW hval h3 h4 hTy hps hwt hwt'
  generalize fn.params.toList=ts at hA
  generalize args.toList=vs at hA
  clear hpq hz hn
  induction ts generalizing vs ds p with
  | nil => obtain ⟨_,rfl,_⟩:=trodAll_nil hA; rfl
  | cons t ts ih =>
   obtain ⟨v,vs1,d,ds1,a,b,_,rfl,_,_,h2⟩:=trodAll_cons hA
   have:=ih b vs1 h2
   simp [this]
 have hd:=top_sound v hmix hT hE hf4 hbl hG h3 h4 (K:=fun e W' => ∃ u,e=.returned u∧s.post enc P fn apart fresh handsOn again W args u W') fun w' F => ⟨_,rfl,post_true hW hv F hl hps hres hbool (hfn ds hdl)⟩
 have ha:args.toList.toArray=args:=by simp
 rw [ha] at hd
 exact hd.calls hf hnm hb
end Go.Vai
