/-
  A part of the abstract run of Go functions and of the proof that it tells the truth.
-/
import Derived.OrdersIn
import Derived.Test.YtljbbcpahapmnaaGreatDoorVaIy
set_option linter.unusedVariables false
set_option linter.unusedSimpArgs false
namespace Go.Vai
variable {P:Program} {C:Ctx} {σ:Nat→Option Loc} {w:World} {a:Act} {nm:Nat}
theorem Rel.slr {st:St} (R:Rel C σ st a w):Sl C.G σ (frz (hk st.hp) σ C.X w) st.sl a:=⟨R.sl,R.gl⟩
theorem lk_putD (d:Option Nat) (v:AV) (sl:List (Nat × AV)) (t:Nat):lk (putD d v sl) t=if d=some t then v else lk sl t:=by
 cases d with
 | none => simp [putD]
 | some t' =>
  simp only [putD,lk]
  by_cases e:t'=t
  ·subst e; simp
  ·rw [if_neg e,if_neg (fun h => e (by injection h))]
theorem put_getD {d:Option Nat} {u:Value} (hd:d.all (· < a.tmps.size)=true) (t:Nat):(a.put d u).tmps.getD t undef=if d=some t then u else a.tmps.getD t undef:=by
 cases d with
 | none => simp [Act.put]
 | some t' =>
  simp at hd
  by_cases e:t'=t
  ·subst e; simp [Act.put,Array.getD,hd]
  ·rw [if_neg (fun h => e (by injection h))]
   simp only [Act.put,Array.getD_eq_getD_getElem?]
   rw [Array.getElem?_setIfInBounds_ne e]
theorem put_size (d:Option Nat) (u:Value):(a.put d u).tmps.size=a.tmps.size:=by cases d <;> simp [Act.put]
theorem put_defers (d:Option Nat) (u:Value):(a.put d u).defers=a.defers:=by cases d <;> rfl
theorem Rel.put {st:St} {σ':Nat→Option Loc} {w':World} (R:Rel C σ st a w) {d:Option Nat} {p:AV × HW × Nat} {u:Value} (hd:d.all (· < C.N)=true) (hs:SLe σ σ') (hl:HLe (frz (hk st.hp) σ C.X w) (frz (hk (p.2.1 ++ st.hp)) σ' C.X w')) (hv:VR σ' (frz (hk (p.2.1 ++ st.hp)) σ' C.X w') p.1 u)
 (R':HRel C σ' (hk (p.2.1 ++ st.hp)) w'):Rel C σ' (st.put d p) (a.put d u) w':=by
 refine HRel.rel (st:=st.put d p) R' (fun t => ?_) ((R.df.mono hl).act (put_defers _ _)) (by rw [put_size]; exact R.tz)
 show VR σ' (frz (hk (p.2.1 ++ st.hp)) σ' C.X w') (lk (putD d p.1 st.sl) t) _
 rw [lk_putD,put_getD (by
  have:=R.tz
  cases d with
  | none => rfl
  | some d => simp at hd ⊢; omega)]
 split
 ·exact hv
 ·exact (R.sl t).mono hs hl
theorem compOper_inv {ops:Array Oper} {N:Nat} {o:Oper} {lo:LOper} (h:compOper P ops N o=some lo) :
 (compOp P o.op=some lo.op∨lo.op=.bad)∧lo.dst=o.dst∧o.dst.all (· < N)=true∧((o.guard=none∧lo.gd=none)∨∃ j want d,o.guard=some (j,want)∧(ops[j]?).bind (·.dst)=some d∧lo.gd=some (d,want)):=by
 have hl:compOp P o.op=some ((compOp P o.op).getD .bad)∨(compOp P o.op).getD .bad=.bad:=by
  cases compOp P o.op with
  | none => exact .inr rfl
  | some l => exact .inl rfl
 unfold compOper at h
 simp only at h
 split at h
 ·rename_i hd
  split at h
  ·rename_i hg
   injection h with h; subst h
   exact ⟨hl,rfl,hd,.inl ⟨hg,rfl⟩⟩
  ·rename_i j want hg
   split at h
   ·rename_i d hj
    injection h with h; subst h
    exact ⟨hl,rfl,hd,.inr ⟨j,want,d,hg,hj,rfl⟩⟩
   ·cases h
 ·cases h
theorem isCall_inv {op:Op} {l:LOp} (h:compOp P op=some l) (hc:l.isCall=true):(∃ f xs ts,op=.call { callee:=.value f,args:=xs,argTypes:=ts }∧l=.call (compX f) (xs.toList.map compX)) ∨
 ∃ x name xs ts,op=.call { callee:=.invoke x name,args:=xs,argTypes:=ts }∧l=.inv (methT P name (List.range P.types.size)) (compX x) (xs.toList.map compX):=by
 cases op with
 | call c =>
  obtain ⟨callee,xs,ts⟩:=c
  cases callee with
  | value f => simp only [compOp] at h; injection h with h; exact .inl ⟨f,xs,ts,rfl,h.symm⟩
  | invoke r m => simp only [compOp] at h; injection h with h; exact .inr ⟨r,m,xs,ts,rfl,h.symm⟩
  | builtin b =>
   simp only [compOp] at h
   unfold compBuiltin at h
   exfalso
   repeat' (first | (cases h; done) | (injection h with h; subst h; simp [LOp.isCall] at hc; done) | split at h)
 | binOp op t x y yt =>
  simp only [compOp,compBin,compNil] at h
  exfalso
  repeat' (first | (cases h; done) | (injection h with h; subst h; simp [LOp.isCall] at hc; done) | split at h)
 | convert s d x =>
  simp only [compOp,compConv] at h
  exfalso
  repeat' (first | (cases h; done) | (injection h with h; subst h; simp [LOp.isCall] at hc; done) | split at h)
 | makeFunc fn first caps =>
  exfalso
  cases fn with
  | func f =>
   obtain ⟨first⟩:=first
   cases first with
   | nil => simp only [compOp] at h; injection h with h; subst h; simp [LOp.isCall] at hc
   | cons =>
    obtain ⟨caps⟩:=caps
    cases caps with
    | nil => simp only [compOp] at h; injection h with h; subst h; simp [LOp.isCall] at hc
    | cons => simp [compOp] at h
  | _ => simp [compOp] at h
 | makeMap t r =>
  exfalso
  cases r with
  | none => simp only [compOp] at h; injection h with h; subst h; simp [LOp.isCall] at hc
  | some r => simp [compOp] at h
 | next it s =>
  exfalso
  cases s with
  | false => simp only [compOp] at h; injection h with h; subst h; simp [LOp.isCall] at hc
  | true => simp [compOp] at h
 | typeAssert x xt t ok =>
  exfalso
  cases ok with
  | false => simp [compOp] at h
  | true =>
   simp only [compOp] at h
   repeat' (first | (cases h; done) | (injection h with h; subst h; simp [LOp.isCall] at hc; done) | split at h)
 | _ =>
  simp only [compOp] at h
  exfalso
  repeat' (first | (cases h; done) | (obtain ⟨z,_,rfl⟩:=Option.map_eq_some_iff.1 h; simp [LOp.isCall] at hc; done) | (injection h with h; subst h; simp [LOp.isCall] at hc; done) | split at h)
theorem execOp_callV {f:Operand} {xs:Array Operand} {ts:Array TypeId} {o:Oper} {d:Deferred} (ho:o.op=.call { callee:=.value f,args:=xs,argTypes:=ts }) (hd:(Deferred.ofValue (a.eval f) (xs.toList.map a.eval).toArray).run P w=.ok d w) :
 (execOp a.eval o).run P w=(invoke d.target d.args).run P w:=by
 have:xs.map a.eval=(xs.toList.map a.eval).toArray:=by
  apply Array.ext'; simp
 simp only [execOp,ho,resolve,Sem.run_bind,this,hd,Result.andThen_ok]
theorem run_method {name:String} {t:TypeId} {f:FuncId} (h:methK P name t=some f):f < 4096∧∀ v w,(method (P.types.size + Made.depth) t v name).run P w=.ok (f,v) w:=by
 unfold methK at h
 split at h
 case h_2 => cases h
 rename_i i hi
 split at h
 case h_2 => cases h
 rename_i fs hu
 split at h
 case h_2 => cases h
 rename_i m hm
 split at h
 case h_2 => cases h
 rename_i g hf
 split at h
 case isFalse => cases h
 rename_i hc
 injection h with h; subst h
 refine ⟨hc.2,fun v w => ?_⟩
 have hsz : ∃ n,P.types.size + Made.depth=n + 1:=by
  have:0 < Made.depth:=by decide
  exact ⟨P.types.size + Made.depth - 1,by omega⟩
 obtain ⟨n,hn⟩:=hsz
 rw [hn]
 have hp:m.path = #[]:=by simpa using hc.1
 unfold method
 simp only [Sem.run_bind,run_info hi,Result.andThen_ok,hm,hp,follow,Sem.run_pure,hf,receiverAt,run_underlying hu,Place.get,Array.toList_empty]
theorem lkT_methT {name:String} {t:TypeId} {f:FuncId} : ∀ {l:List TypeId},lkT (methT P name l) t=some f→methK P name t=some f
 | [],h => by simp [methT,lkT] at h
 | u :: r, h => by
  simp only [methT] at h
  split at h
  ·rename_i g hg
   simp only [lkT] at h
   split at h
   ·rename_i e
    injection h with h; subst h; subst e; exact hg
   ·exact lkT_methT h
  ·exact lkT_methT h
theorem execOp_inv {x:Operand} {name:String} {xs:Array Operand} {ts:Array TypeId} {o:Oper} {t:TypeId} {u:Value} {f:FuncId} (ho:o.op=.call { callee:=.invoke x name,args:=xs,argTypes:=ts }) (hx:a.eval x=.iface t u) (hm:methK P name t=some f) :
 (execOp a.eval o).run P w=(callFunc f (u :: xs.toList.map a.eval).toArray).run P w:=by
 have e1:(#[Value.iface t u] ++ xs.map a.eval)[0]? = some (.iface t u):=by
  rw [Array.getElem?_append_left (by simp)]; rfl
 have e2:(#[Value.iface t u] ++ xs.map a.eval).extract 1 (#[Value.iface t u] ++ xs.map a.eval).size=xs.map a.eval:=by
  apply Array.ext'
  rw [Array.toList_extract]
  simp [List.take_of_length_le]
 have e3 : #[u] ++ xs.map a.eval=(u :: xs.toList.map a.eval).toArray:=by
  apply Array.ext'; simp
 simp only [execOp,ho,resolve,Sem.run_bind,Sem.run_pure,Result.andThen_ok,invoke,hx,e1,e2,callMethod]
 simp only [run_program,Result.andThen_ok,(run_method hm).2,e3]
def FW (ro:Option Nat):Fence:={ Fence.wide with round:=ro }
theorem FW.about {ro:Option Nat} {o:Oper} : ∀ f,o.about P w a.eval=some f→(FW ro).fn f:=fun _ _ => trivial
theorem FW.depth {ro:Option Nat} {n:Nat}:(FW ro).depth.isSome=true→1≤n:=fun h => by simp [FW,Fence.wide] at h
theorem FW.calls {ro:Option Nat} {n:Nat} {f:FuncId} {args:Array Value} {R:Ending→World→Prop} (h:Calls P f args w R):CallsIn (FW ro) n P f args w R:=by
 have:=(callsIn_wide (n:=n)).2 h
 exact this
theorem FW.round {ro:Option Nat} {n l:Nat} {f:FuncId} {tmps:Array Value} {as bd:Code} {R:Ending→World→Prop} (h:RoundIn Fence.wide 0 P l f tmps as bd w R):RoundIn (FW ro) n P l f tmps as bd w R :=
 ⟨trivial,fun c cs _ => h.2 c cs (room_wide _)⟩
def afterK (o:Oper) (a:Act) (Q:Exit→Act→World→Prop) (next:Act→World→Prop):Ending→World→Prop
 | .returned v,w'' => next (a.put o.dst v) w''
 | .panicked chain,w'' => Q (.panic chain) a w''
 | .outgrown,_ => LetsOut Q
theorem DoesN.upon {ro:Option Nat} {n:Nat} {o:Oper} {Q:Exit→Act→World→Prop} {next:Act→World→Prop} {x:Result Next} (h:DoesN P x (afterK o a Q next)):o.uponIn (FW ro) n P a next Q x:=by
 cases x with
 | ok y w' =>
  cases y with
  | enter f args => exact ⟨FW.depth,(FW.calls h).mono fun e w'' hr => by cases e <;> exact hr⟩
  | value v => exact h
  | round l f tmps as bd => exact ⟨FW.depth,(FW.round h).mono fun e w'' hr => by cases e <;> exact hr⟩
  | _ => exact h.elim
 | halt y w' => exact h.elim
theorem compOp_defer {op:Op} {l:LOp} (h:compOp P op=some l) (c:Call):op≠.defer c:=by
 rintro rfl
 simp [compOp] at h
theorem Rel.guard {st:St} (R:Rel C σ st a w) {ops:Array Oper} {j d:Nat} {b:Bool} (hj:(ops[j]?).bind (·.dst)=some d) (h:lk st.sl d=.fz (.sc (.bool b))):yielded ops a.tmps j=some b:=by
 have hr:=R.sl d
 rw [h] at hr
 have:=hr.sc_inv
 unfold yielded
 rw [hj]
 simp only [Option.bind_some]
 rw [Array.getD_eq_getD_getElem?] at this
 cases ht:a.tmps[d]? with
 | none => rw [ht] at this; simp [undef] at this
 | some v => rw [ht] at this; simp at this; subst this; rfl
theorem VR.undef {h:PH}:VR σ h (.tup []) undef:=.tup [] [] rfl (fun i x v e => by simp at e)
theorem Rel.guard0 {st:St} (R:Rel C σ st a w) {ops:Array Oper} {j d:Nat} (hj:(ops[j]?).bind (·.dst)=some d) (h:lk st.sl d=.tup []):yielded ops a.tmps j=none:=by
 have hr:=R.sl d
 rw [h] at hr
 obtain ⟨vs,hu,_,_⟩:=hr.tup_inv
 unfold yielded
 rw [hj]
 simp only [Option.bind_some]
 rw [Array.getD_eq_getD_getElem?] at hu
 cases ht:a.tmps[d]? with
 | none => rfl
 | some v => rw [ht] at hu; simp at hu; subst hu; rfl
theorem no_lcall {op:Op} {l:LOp} (h:compOp P op=some l) (f:LX) (xs:List LX):l≠.lcall f xs:=by
 rintro rfl
 cases op with
 | call c =>
  obtain ⟨callee,xs,ts⟩:=c
  cases callee with
  | value f => simp [compOp] at h
  | invoke r m => simp [compOp] at h
  | builtin b =>
   simp only [compOp] at h
   unfold compBuiltin at h
   repeat' (first | (cases h; done) | split at h)
 | binOp op t x y yt =>
  simp only [compOp,compBin,compNil] at h
  repeat' (first | (cases h; done) | split at h)
 | convert s d x =>
  simp only [compOp,compConv] at h
  repeat' (first | (cases h; done) | split at h)
 | typeAssert x xt t ok =>
  cases ok with
  | false => simp [compOp] at h
  | true =>
   simp only [compOp] at h
   repeat' (first | (cases h; done) | split at h)
 | makeFunc fn first caps =>
  cases fn with
  | func f =>
   obtain ⟨first⟩:=first
   cases first with
   | nil => simp [compOp] at h
   | cons =>
    obtain ⟨caps⟩:=caps
    cases caps <;> simp [compOp] at h
  | _ => simp [compOp] at h
 | makeMap t r => cases r <;> simp [compOp] at h
 | next it s => cases s <;> simp [compOp] at h
 | _ =>
  simp only [compOp] at h
  repeat' (first | (cases h; done) | (obtain ⟨z,_,hz⟩:=Option.map_eq_some_iff.1 h; cases hz; done) | split at h)
structure VarOf (lo lo':LOper):Prop where
 dst:lo'.dst=lo.dst
 gd:lo'.gd=lo.gd
 op:lo'.op=lo.op∨lo'.op=varOp lo.op
theorem varOp_idem (l:LOp):varOp (varOp l)=varOp l:=by
 cases l <;> try rfl
 rename_i ag p
 cases ag <;> rfl
theorem varOp_pure {l:LOp} (h:(varOp l).isHeap=false):varOp l=l:=by
 cases l <;> try rfl
 ·rename_i ag p
  cases ag with
  | none => simp [varOp,LOp.isHeap] at h
  | some n => rfl
 all_goals simp [varOp,LOp.isHeap] at h
theorem varOp_call {l:LOp} (h:l.isCall=false) (hn : ∀ f xs,l≠.lcall f xs):(varOp l).isCall=false∧∀ f xs,varOp l≠.lcall f xs:=by
 cases l <;> try (exact ⟨h,hn⟩)
 ·rename_i ag p
  cases ag <;> exact ⟨rfl,fun f xs e => by cases e⟩
 ·exact ⟨rfl,fun f xs e => by cases e⟩
 ·exact ⟨rfl,fun f xs e => by cases e⟩
 ·simp [LOp.isCall] at h
theorem step_sound {ro : Option Nat} {n : Nat} {rf : RF} (RS : RFSound P C.G rf) (hrc : C.rc = rcOf P) {i : Nat} {ops : Array Oper} {o : Oper} {lo0 lo : LOper} {st : St} {p : AV × HW × Nat} (ho : ops[i]? = some o) (hc : compOper P ops C.N o = some lo0) (hvo : VarOf lo0 lo) (R : Rel C σ st a w) (hn : σ nm = none) (hlt : nm < st.nx) (hfr : ∀ b, st.nx ≤ b → σ b = none)
 (e:coreOp C.G rf lo nm st=some p) {Q:Exit→Act→World→Prop} {K:Act→World→Prop}
 (hK : ∀ σ' a' w',Rel C σ' (st.put lo.dst p) a' w'→SLe σ σ'→(∀ b,b≠nm→b < st.nx→σ' b=σ b)→(∀ b,st.nx + p.2.2≤b→σ' b=none)→K a' w'):wpOpIn (FW ro) n P ops Q i K a w:=by
 obtain ⟨h1,h2,h3,h4⟩:=compOper_inv hc
 rw [← hvo.dst] at h2
 have h4:(o.guard=none∧lo.gd=none)∨∃ j want d,o.guard=some (j,want)∧(ops[j]?).bind (·.dst)=some d∧lo.gd=some (d,want):=by rw [hvo.gd]; exact h4
 rw [h2] at hK
 have eqs : ∀ {σ':Nat→Option Loc},SLe σ σ'→(∀ b,b≠nm→σ b=none→σ' b=none)→∀ b,b≠nm→σ' b=σ b:=by
  intro σ' s1 s2 b hb
  cases hσ:σ b with
  | none => exact s2 b hb hσ
  | some l => exact s1 b l hσ
 have main : (if lo.op.isHeap then heapOp rf (LX.av C.G st.sl) nm st lo.op
  else match pureOp (LX.av C.G st.sl) lo.op with
   | some v => some (v,[],0)
   | none => none)=some p→o.wpIn (FW ro) n P a w K Q:=by
  intro e
  rcases h1 with h1 | h1
  case inr =>
   have:lo.op=.bad:=by rcases hvo.op with h | h <;> rw [h,h1] <;> rfl
   rw [this] at e
   simp [LOp.isHeap,pureOp] at e
  unfold Oper.wpIn
  refine ⟨FW.about,?_⟩
  rw [Oper.semAt_eq _ _ _ (compOp_defer h1)]
  by_cases hh:lo.op.isHeap=true
  ·rw [if_pos hh] at e
   by_cases hcl:lo0.op.isCall=true
   ·have hfin : ∀ u σ' w', VR σ' (frz (hk (p.2.1 ++ st.hp)) σ' C.X w') p.1 u → HRel C σ' (hk (p.2.1 ++ st.hp)) w' → SLe σ σ' → HLe (frz (hk st.hp) σ C.X w) (frz (hk (p.2.1 ++ st.hp)) σ' C.X w') → (∀ b, b < st.nx → σ' b = σ b) → (∀ b, st.nx + p.2.2 ≤ b → σ' b = none) → afterK o a Q K (.returned u) w' :=
     fun u σ' w' q1 q2 q3 q4 q5 q6 => hK σ' _ w' (R.put h3 q3 q4 q1 q2) q3 (fun b _ hb => q5 b hb) q6
    rcases isCall_inv h1 hcl with ⟨f,xs,ts,hop,hl⟩ | ⟨x,name,xs,ts,hop,hl⟩
    ·rcases hvo.op with hlo | hlo
     case inr =>
      rw [hlo,hl] at e
      simp only [varOp,heapOp] at e
      split at e
      ·rename_i g hg
       have hf:=R.slr.av f
       rw [hg] at hf
       obtain ⟨cvs,hfe,hcl2,hcr⟩:=hf.fn_inv
       have hcv:cvs=[]:=List.eq_nil_of_length_eq_zero hcl2.symm
       subst hcv
       split at e
       ·rename_i ys hys
        split at e
        ·rename_i r hr
         split at hr
         case isFalse => cases hr
         rename_i hg4
         split at e
         ·rename_i hpl
          injection e with e; subst e
          have hcs:=lcall_sound RS.fn hrc hg4 hys hr hpl R.heap (vs:=xs.toList.map a.eval) (by simp) (fun k x u e1 e2 => R.slr.avs _ k x u e1 e2) (K:=afterK o a Q K) (fun u w' q1 q2 q3 => hK σ _ w' (R.put (p:=(r,[],0)) h3 (SLe.refl _) q3 q1 q2) (SLe.refl _) (fun _ _ _ => rfl) hfr)
          rw [execOp_callV (d:={ target:=.fn (.func g) #[],args := #[] ++ (xs.toList.map a.eval).toArray }) hop (by rw [hfe]; rfl)]
          refine DoesN.upon ?_
          simp only [invoke,Array.append_empty,Array.empty_append]
          exact hcs.next
         ·cases e
        ·cases e
       ·cases e
      ·cases e
     rw [hlo,hl] at e
     simp only [heapOp] at e
     obtain ⟨v,ws,nn⟩:=p
     obtain ⟨_,d,hd,hD⟩:=callV_sound RS hrc e R.heap hfr (R.slr.av f) (us:=xs.toList.map a.eval) (by simp) (fun k x u e1 e2 => R.slr.avs _ k x u e1 e2) (K:=afterK o a Q K) hfin
     rw [execOp_callV hop hd]
     exact hD.upon
    ·have hlo:lo.op=.inv (methT P name (List.range P.types.size)) (compX x) (xs.toList.map compX):=by
      rcases hvo.op with h | h
      ·rw [h,hl]
      ·rw [h,hl]; rfl
     rw [hlo] at e
     simp only [heapOp] at e
     split at e
     case h_2 => cases e
     rename_i t y hx
     split at e
     case h_2 => cases e
     rename_i g hlk
     have hm:=lkT_methT hlk
     have hf:=R.slr.av x
     rw [hx] at hf
     obtain ⟨u,hu,hur⟩:=hf.ifc_inv
     obtain ⟨v,ws,nn⟩:=p
     have hcs:=call_sound RS.fn hrc (run_method hm).1 e R.heap hfr (vs:=u :: xs.toList.map a.eval) (by simp) (fun k z q e1 e2 => by
      cases k with
      | zero => simp at e1 e2; subst e1; subst e2; exact hur
      | succ k => exact R.slr.avs xs.toList k z q (by rw [List.getElem?_cons_succ] at e1; exact e1) (by rw [List.getElem?_cons_succ] at e2; exact e2)) (K:=afterK o a Q K) hfin
     rw [execOp_inv hop hu hm]
     exact (hcs.next).upon
   ·obtain ⟨v,ws,nn⟩:=p
    obtain ⟨⟨u,σ',w',q1,q2,q3,q4,q5,q6⟩,rfl⟩:=heap_sound_var h1 hvo.op hh (by
     have hc0:lo0.op.isCall=false:=by simpa using hcl
     rcases hvo.op with h | h
     ·rw [h]; exact hc0
     ·rw [h]; exact (varOp_call hc0 (no_lcall h1)).1) (fun f xs => by
     have hc0:lo0.op.isCall=false:=by simpa using hcl
     rcases hvo.op with h | h
     ·rw [h]; exact no_lcall h1 f xs
     ·rw [h]; exact (varOp_call hc0 (no_lcall h1)).2 f xs) R.slr R.heap hn e
    have hput:=R.put (p:=(v,ws,0)) h3 q4 q5 q2 q3
    have hq:=eqs q4 q6
    have hfin:=hK σ' _ w' hput q4 (fun b hb _ => hq b hb) (fun b hb => by
     have hb':st.nx≤b:=hb
     rw [hq b (by omega)]; exact hfr b hb')
    rcases q1 o rfl with q1 | ⟨q1,hu⟩
    ·rw [q1,Oper.uponIn_value]; exact hfin
    ·rw [q1,Oper.uponIn_skip,← hu]; exact hfin
  ·rw [if_neg hh] at e
   split at e
   ·rename_i v hv
    injection e with e; subst e
    have hlo:lo.op=lo0.op:=by
     rcases hvo.op with h | h
     ·exact h
     ·have hh':(varOp lo0.op).isHeap=false:=by rw [← h]; simpa using hh
      rw [h,varOp_pure hh']
    rw [hlo] at hv hh
    obtain ⟨u,q1,q2⟩:=pure_sound h1 (by simpa using hh) R.slr hv
    rw [q2 o rfl w,Oper.uponIn_value]
    exact hK σ _ w (R.put (p:=(v,[],0)) h3 (SLe.refl _) (HLe.refl _) q1 R.heap) (SLe.refl _) (fun _ _ _ => rfl) hfr
   ·cases e
 unfold wpOpIn
 rw [ho]
 simp only
 rcases h4 with ⟨g1,g2⟩ | ⟨j,want,d,g1,g2,g3⟩
 ·have hw:Region.wanted o (yielded ops a.tmps)=true:=by simp [Region.wanted,g1]
  rw [if_pos hw]
  refine main ?_
  simp only [coreOp,g2] at e
  exact e
 ·simp only [coreOp,g3] at e
  split at e
  ·rename_i b hb
   have hy:=R.guard g2 hb
   split at e
   ·rename_i hbw
    have hw:Region.wanted o (yielded ops a.tmps)=true:=by simp [Region.wanted,g1,hy,hbw]
    rw [if_pos hw]
    exact main e
   ·rename_i hbw
    injection e with e; subst e
    have hw:Region.wanted o (yielded ops a.tmps)=false:=by simp [Region.wanted,g1,hy,hbw]
    rw [if_neg (by rw [hw]; simp)]
    exact ⟨FW.about,hK σ _ w (R.put (p:=(.tup [],[],0)) h3 (SLe.refl _) (HLe.refl _) VR.undef R.heap) (SLe.refl _) (fun _ _ _ => rfl) hfr⟩
  ·rename_i hb
   have hy:=R.guard0 g2 hb
   injection e with e; subst e
   have hw:Region.wanted o (yielded ops a.tmps)=false:=by simp [Region.wanted,g1,hy]
   rw [if_neg (by rw [hw]; simp)]
   exact ⟨FW.about,hK σ _ w (R.put (p:=(.tup [],[],0)) h3 (SLe.refl _) (HLe.refl _) VR.undef R.heap) (SLe.refl _) (fun _ _ _ => rfl) hfr⟩
  ·cases e
end Go.Vai
