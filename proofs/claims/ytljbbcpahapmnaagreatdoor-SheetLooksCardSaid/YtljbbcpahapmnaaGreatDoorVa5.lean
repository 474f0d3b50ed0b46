/-
  A part of the abstract run of Go functions and of the proof that it tells the truth.
-/
import Derived.Test.YtljbbcpahapmnaaGreatDoorVa4
set_option linter.unusedVariables false
set_option linter.unusedSimpArgs false
namespace Go.Vai
theorem FR.cell {h:PH} (v:Value) (hv:leafV v=true):FR h (cellFV v) v:=by
 unfold cellFV
 split
 ·exact .sl0 _ _
 ·exact .sc _ hv
theorem FR.leaf {h:PH} {x:FV} {v:Value} (r:FR h x v):leafV v=true:=by
 cases r <;> first | assumption | rfl
theorem VR.sc {σ:Nat→Option Loc} {h:PH} (v:Value) (hv:leafV v=true:=by rfl):VR σ h (.fz (.sc v)) v:=.fz _ _ (.sc v hv)
theorem VR.sc_inv {σ:Nat→Option Loc} {h:PH} {v u:Value} (r:VR σ h (.fz (.sc v)) u):u=v:=by
 cases r with
 | fz _ _ r => cases r; rfl
theorem VR.sc_leaf {σ:Nat→Option Loc} {h:PH} {v u:Value} (r:VR σ h (.fz (.sc v)) u):leafV u=true:=by
 cases r with
 | fz _ _ r => exact r.leaf
theorem VR.cell {σ:Nat→Option Loc} {h:PH} (v:Value):VR σ h (cellAV v) v:=by
 unfold cellAV
 split
 ·exact .emp _
 ·split
  ·rename_i hv; exact .sc _ hv
  ·exact .dead _
theorem VR.cells {σ:Nat→Option Loc} {h:PH} (cs:Array Value):VR σ h (.agg (cs.toList.map cellAV)) (.agg cs):=by
 have:=VR.agg (σ:=σ) (h:=h) (cs.toList.map cellAV) cs.toList (by simp) (fun i x v e1 e2 => by
  rw [List.getElem?_map,e2] at e1
  simp at e1
  subst e1
  exact .cell v)
 simpa using this
theorem VR.const {σ:Nat→Option Loc} {h:PH} (v:Value):VR σ h (constAV v) v:=by
 unfold constAV
 split
 ·exact .cells _
 ·exact .cell _
theorem VR.err_inv {σ:Nat→Option Loc} {h:PH} {u:Value} (r:VR σ h .err u) : ∃ t v,u=.iface t v:=by
 cases r with
 | err t v => exact ⟨t,v,rfl⟩
theorem VR.agg_inv {σ:Nat→Option Loc} {h:PH} {l:List AV} {u:Value} (r:VR σ h (.agg l) u) : ∃ vs:List Value,u=.agg vs.toArray∧l.length=vs.length∧∀ (i:Nat) (x:AV) (v:Value),l[i]? = some x→vs[i]? = some v→VR σ h x v:=by
 cases r with
 | agg _ vs h1 h2 => exact ⟨vs,rfl,h1,h2⟩
theorem VR.tup_inv {σ:Nat→Option Loc} {h:PH} {l:List AV} {u:Value} (r:VR σ h (.tup l) u) : ∃ vs:List Value,u=.tuple vs.toArray∧l.length=vs.length∧∀ (i:Nat) (x:AV) (v:Value),l[i]? = some x→vs[i]? = some v→VR σ h x v:=by
 cases r with
 | tup _ vs h1 h2 => exact ⟨vs,rfl,h1,h2⟩
theorem VR.fn_inv {σ:Nat→Option Loc} {h:PH} {f:FuncId} {l:List AV} {u:Value} (r:VR σ h (.fn f l) u) : ∃ vs:List Value,u=.func (.func f) #[] vs.toArray∧l.length=vs.length∧∀ (i:Nat) (x:AV) (v:Value),l[i]? = some x→vs[i]? = some v→VR σ h x v:=by
 cases r with
 | fn _ _ vs h1 h2 => exact ⟨vs,rfl,h1,h2⟩
theorem VR.bm_inv {σ:Nat→Option Loc} {h:PH} {f:FuncId} {l:List AV} {u:Value} (r:VR σ h (.bm f l) u) : ∃ vs:List Value,u=.func (.func f) vs.toArray #[]∧l.length=vs.length∧∀ (i:Nat) (x:AV) (v:Value),l[i]? = some x→vs[i]? = some v→VR σ h x v:=by
 cases r with
 | bm _ _ vs h1 h2 => exact ⟨vs,rfl,h1,h2⟩
theorem VR.ifc_inv {σ:Nat→Option Loc} {h:PH} {t:TypeId} {x:AV} {u:Value} (r:VR σ h (.ifc t x) u) : ∃ v,u=.iface t v∧VR σ h x v:=by
 cases r with
 | ifc _ _ v h1 => exact ⟨v,rfl,h1⟩
theorem VR.yl_inv {σ:Nat→Option Loc} {h:PH} {b:Nat} {u:Value} (r:VR σ h (.yl b) u) : ∃ l,σ b=some (.here l 0 0 0)∧u=.func (.yield l) #[] #[]:=by
 cases r with
 | yl _ l h1 => exact ⟨l,h1,rfl⟩
structure Sl (G:Nat→Option (List FV)) (σ:Nat→Option Loc) (h:PH) (sl:List (Nat × AV)) (a:Act):Prop where
 sl : ∀ t,VR σ h (lk sl t) (a.tmps.getD t undef)
 gl:GR G h
variable {P:Program} {G:Nat→Option (List FV)} {σ:Nat→Option Loc} {h:PH} {sl:List (Nat × AV)} {a:Act}
theorem Sl.av (H:Sl G σ h sl a) (x:Operand):VR σ h (LX.av G sl (compX x)) (a.eval x):=by
 unfold compX
 split
 ·exact H.sl _
 ·rename_i f
  exact .fn f [] [] rfl (by simp)
 ·exact .const _
 ·rename_i g
  simp only [LX.av]
  split
  ·rename_i c hc
   obtain ⟨⟨us,h1,h2⟩,_⟩:=H.gl g c hc
   have:=VR.fp (σ:=σ) (h:=h) c 0 g 0 us (by simpa using h1) h2
   simpa [Act.eval] using this
  ·exact .dead _
 ·rename_i f
  exact .fn f [] [] rfl (by simp)
theorem VR.bp_inv {b o:Nat} {u:Value} (r:VR σ h (.bp b o) u) : ∃ k n,σ b=some (.here k 0 n 1)∧u=.pointer (some ⟨k,o,none⟩):=by
 cases r with
 | bp _ _ k n e => exact ⟨k,n,e,rfl⟩
theorem VR.ep_inv {b i f:Nat} {u:Value} (r:VR σ h (.ep b i f) u) : ∃ k d n sz,σ b=some (.here k d n sz)∧u=.pointer (some ⟨k,d + (i * sz + f),none⟩):=by
 cases r with
 | ep _ _ _ k d n sz e => exact ⟨k,d,n,sz,e,rfl⟩
theorem VR.fp_inv {c:List FV} {f:Nat} {u:Value} (r:VR σ h (.fp c f) u) : ∃ k o,∃ us:Nat→Value,(∀ (j:Nat) (x:FV),c[j]? = some x→cellAt h k (o + j)=some (us j))∧(∀ (j:Nat) (x:FV),c[j]? = some x→FR h x (us j))∧u=.pointer (some ⟨k,o + f,none⟩):=by
 cases r with
 | fp _ _ k o us e r => exact ⟨k,o,us,e,r,rfl⟩
theorem VR.emp_inv {u:Value} (r:VR σ h .emp u) : ∃ A,u=.slice A 0 0:=by
 cases r with
 | emp A => exact ⟨A,rfl⟩
theorem VR.osl_inv {b sz off len:Nat} {u:Value} (r:VR σ h (.osl b sz off len) u):(σ b=some .vir∧len=0∧∃ A,u=.slice A 0 0) ∨
 ∃ k d n a cap,σ b=some (.here k d n sz)∧len≤cap∧(cap=0∨a=⟨k,d + off * sz,none⟩)∧d + off * sz + cap * sz≤n∧u=.slice (some a) len cap:=by
 cases r with
 | vir _ _ _ A e => exact .inl ⟨e,rfl,A,rfl⟩
 | osl _ _ _ _ k d n a cap e e1 e2 e3 => exact .inr ⟨k,d,n,a,cap,e,e1,e2,e3,rfl⟩
theorem VR.osl_slice {b sz off len:Nat} {u:Value} (r:VR σ h (.osl b sz off len) u) : ∃ A cap,u=.slice A len cap∧len≤cap:=by
 rcases r.osl_inv with ⟨_,rfl,A,rfl⟩ | ⟨k,d,n,a,cap,_,e,_,_,rfl⟩
 ·exact ⟨A,0,rfl,Nat.le_refl _⟩
 ·exact ⟨some a,cap,rfl,e⟩
theorem FR.sl_inv {es:List (List FV)} {u:Value} (r:FR h (.sl es) u) (hne:es≠[]) : ∃ sz k o cap,∃ vs:Nat→Nat→Value,u=.slice (some ⟨k,o,none⟩) es.length cap ∧
 (∀ (i:Nat) (c:List FV),es[i]? = some c→c.length=sz)∧es.length≤cap∧(∀ (i:Nat) (c:List FV) (j:Nat) (x:FV),es[i]? = some c→c[j]? = some x→cellAt h k (o + (i * sz + j))=some (vs i j)) ∧
 (∀ (i:Nat) (c:List FV) (j:Nat) (x:FV),es[i]? = some c→c[j]? = some x→FR h x (vs i j)):=by
 cases r with
 | sl0 A cap => exact absurd rfl hne
 | sl _ sz k o sp cap vs hsz hcap hsp hat hr =>
  have:=hsp hne
  subst this
  exact ⟨sz,k,o,cap,vs,rfl,hsz,hcap,hat,hr⟩
theorem FR.sl_slice {es:List (List FV)} {u:Value} (r:FR h (.sl es) u) : ∃ A cap,u=.slice A es.length cap∧es.length≤cap∧(es≠[]→A≠none):=by
 cases r with
 | sl0 A cap => exact ⟨A,cap,rfl,Nat.zero_le _,fun e => absurd rfl e⟩
 | sl _ sz k o sp cap vs hsz hcap hsp hat hr => exact ⟨some _,cap,rfl,hcap,fun _ => by simp⟩
theorem VR.slc_slice {es:List (List FV)} {u:Value} (r:VR σ h (.fz (.sl es)) u) : ∃ A cap,u=.slice A es.length cap∧es.length≤cap∧(es≠[]→A≠none):=by
 cases r with
 | fz _ _ r => exact r.sl_slice
theorem VR.slc_inv {es:List (List FV)} {u:Value} (r:VR σ h (.fz (.sl es)) u):FR h (.sl es) u:=by
 cases r with
 | fz _ _ r => exact r
theorem run_und {t:TypeId} {d:TypeDesc} (e:P.underlying t=some d) (w:World):(underlying t).run P w=.ok d w:=run_underlying e w
theorem run_info {t:TypeId} {i:TypeInfo} (e:P.info? t=some i) (w:World):(typeInfo t).run P w=.ok i w:=by
 simp [typeInfo,program,Sem.run_bind,Sem.run,e,pure]
theorem run_size {t:TypeId} {n:Nat} (e:sizeC P t=some n) (w:World):(sizeOf t).run P w=.ok n w:=by
 unfold sizeC at e
 obtain ⟨i,hi,rfl⟩:=Option.map_eq_some_iff.1 e
 simp [sizeOf,Sem.run_bind,run_info hi]
theorem run_isAgg {t:TypeId} {g:Option Nat} (e:agT P t=some g) (w:World):(isAgg t).run P w=.ok g.isSome w∧(∀ n,g=some n→sizeC P t=some n):=by
 unfold agT at e
 split at e
 ·rename_i fs hu
  obtain ⟨i,hi,rfl⟩:=Option.map_eq_some_iff.1 e
  exact ⟨by simp [isAgg,Sem.run_bind,run_und hu],fun n hn => by injection hn with hn; simp [sizeC,hi,hn]⟩
 ·rename_i m el hu
  obtain ⟨i,hi,rfl⟩:=Option.map_eq_some_iff.1 e
  exact ⟨by simp [isAgg,Sem.run_bind,run_und hu],fun n hn => by injection hn with hn; simp [sizeC,hi,hn]⟩
 ·rename_i d h1 h2 hu
  injection e with e
  subst e
  refine ⟨?_,fun n hn => by cases hn⟩
  simp only [isAgg,Sem.run_bind,run_und hu,Result.andThen_ok]
  cases d <;> first | rfl | (exact absurd rfl (h1 _)) | (exact absurd rfl (h2 _ _))
 ·cases e
def Gives (P:Program) (a:Act) (op:Op) (u:Value):Prop := ∀ (o:Oper),o.op=op→∀ w,(execOp a.eval o).run P w=.ok (.value u) w
theorem gives_mov {x:Operand} {op:Op} (hop:op=.move x∨op=.assign x):Gives P a op (a.eval x):=by
 intro o ho w
 rcases hop with rfl | rfl <;> simp [execOp,ho,Sem.run,pure]
end Go.Vai
namespace Go.Vai
variable {P:Program} {G:Nat→Option (List FV)} {σ:Nat→Option Loc} {h:PH} {sl:List (Nat × AV)} {a:Act}
theorem scV_some {o:Option Value} {v:AV} (e:scV o=some v) : ∃ u,o=some u∧v=.fz (.sc u):=by
 cases o with
 | none => cases e
 | some u => exact ⟨u,rfl,(Option.some.inj e).symm⟩
theorem beq_toList (x y:ByteArray):(x.toList == y.toList)=decide (x=y):=by
 rw [Bool.eq_iff_iff]
 simp only [beq_iff_eq,decide_eq_true_eq]
 constructor
 ·intro e
  have:x.data.toList=y.data.toList:=by simpa [ByteArray.toList_eq] using e
  cases x; cases y
  simp at this
  rw [this]
 ·rintro rfl; rfl
theorem binS_leaf {op:BinOp} {u v r:Value} (e:binS op u v=some r):leafV r=true:=by
 cases u <;> cases v <;> simp only [binS] at e <;> (try (cases e; done))
 ·cases op <;> simp only at e <;> (repeat' split at e) <;> first | (injection e with e; subst e; rfl) | (cases e; done)
 ·cases op <;> simp only at e <;> (repeat' split at e) <;> first | (injection e with e; subst e; rfl) | (cases e; done)
theorem unS_leaf {op:UnOp} {u r:Value} (e:unS op u=some r):leafV r=true:=by
 cases u <;> simp only [unS] at e <;> (try (cases e; done)) <;> cases op <;> simp only at e <;> first | (injection e with e; subst e; rfl) | (cases e; done)
theorem mx2_leaf {u v r:Value} (e:mx2 u v=some r):leafV r=true:=by
 unfold mx2 at e
 split at e
 ·split at e
  ·injection e with e; subst e; rfl
  ·cases e
 ·cases e
theorem mn2_leaf {u v r:Value} (e:mn2 u v=some r):leafV r=true:=by
 unfold mn2 at e
 split at e
 ·split at e
  ·injection e with e; subst e; rfl
  ·cases e
 ·cases e
theorem foldV_leaf {f:Value→Value→Option Value} (hf : ∀ u v r,f u v=some r→leafV r=true) : ∀ (l:List AV) (p r:Value),leafV p=true→foldV f p l=some r→leafV r=true
 | [],p,r,hp,e => by simp only [foldV] at e; injection e with e; subst e; exact hp
 | x :: l, p, r, hp, e => by
  unfold foldV at e
  split at e
  ·rename_i h; cases h
  ·rename_i q l' h
   injection h with h1 h2; subst h2
   split at e
   ·rename_i y hy; exact foldV_leaf hf _ y r (hf _ _ _ hy) e
   ·cases e
  ·cases e
theorem run_eqGuard_sc (op:BinOp) (t:TypeId) (x y:Operand) {u v r:Value} (e:binS op u v=some r) (w:World):(eqGuard op t x y u v).run P w=.ok () w:=by
 cases u <;> cases v <;> simp only [binS] at e <;> first | (cases e; done) | (clear e; cases op <;> rfl)
theorem run_binS_num {op : BinOp} {t : TypeId} {u v r : Value} (e : binS op u v = some r) (w : World) : (binOp op t u v).run P w = .ok r w := by
 cases u <;> cases v <;> simp only [binS] at e <;> try (cases e; done)
 ·rename_i k x k' y
  cases op <;> simp only at e <;> first
   | (split at e
      ·cases e
      ·rename_i hk
       simp only [ne_eq,Decidable.not_not] at hk
       subst hk
       first
        | (injection e with e; subst e; simp [binOp,Op.intArith,Op.intDiv,Op.intBits,Op.intCmp,Sem.run,pure,bne,BEq.beq]; done)
        | (split at e
           ·cases e
           ·rename_i hy
            injection e with e; subst e; simp [binOp,Op.intArith,Op.intDiv,Op.intBits,Op.intCmp,Sem.run,pure,hy]; done)
        | (cases e))
   | (split at e
      ·cases e
      ·rename_i hy
       injection e with e; subst e; simp [binOp,Op.shift,Sem.run,pure,hy]; done)
 ·rename_i x y
  cases op <;> simp only at e <;> first
   | (split at e
      ·rename_i hs
       injection e with e; subst e
       simp only [binOp,Op.stringOp]
       rw [if_neg (by simp [IntKind.max,IntKind.signed,IntKind.bits]; omega)]
       rfl
      ·cases e)
   | (injection e with e; subst e; simp [binOp,Op.stringOp,Sem.run,pure,beq_toList]; done)
   | (cases e)
theorem pure_bin {op:BinOp} {t:TypeId} {x y:Operand} {yt:TypeId} {v:AV} (H:Sl G σ h sl a) (hp:pureOp (LX.av G sl) (.bin op (compX x) (compX y))=some v) :
 ∃ u,VR σ h v u∧Gives P a (.binOp op t x y yt) u:=by
 have hx:=H.av x
 have hy:=H.av y
 simp only [pureOp] at hp
 split at hp
 ·rename_i p q ex ey
  rw [ex] at hx
  rw [ey] at hy
  have e1:=hx.sc_inv
  have e2:=hy.sc_inv
  obtain ⟨u,hu,rfl⟩:=scV_some hp
  refine ⟨u,.sc u (binS_leaf hu),fun o ho w => ?_⟩
  simp [execOp,ho,Sem.run_bind,e1,e2,run_eqGuard_sc op t x y hu w,run_binS_num hu w,Sem.run,pure]
 ·cases hp
theorem run_equalIn_bool {t:TypeId} (ht:P.underlying t=some .bool) (d:Nat) (p q:Bool) (w:World):(Op.equalIn (d + 1) t (.bool p) (.bool q)).run P w=.ok (decide (p=q)) w:=by
 simp only [Op.equalIn,Sem.run_bind,run_und ht,Result.andThen_ok]
 cases p <;> cases q <;> rfl
theorem run_equal_bool {t:TypeId} (ht:P.underlying t=some .bool) (p q:Bool) (w:World):(Op.equal t (.bool p) (.bool q)).run P w=.ok (decide (p=q)) w:=run_equalIn_bool ht 9999 p q w
theorem pure_beq {ng:Bool} {t:TypeId} {x y:Operand} {yt:TypeId} {v:AV} (ht:P.underlying t=some .bool) (H:Sl G σ h sl a) (hp:pureOp (LX.av G sl) (.beq ng (compX x) (compX y))=some v) :
 ∃ u,VR σ h v u∧Gives P a (.binOp (if ng then .neq else .eql) t x y yt) u:=by
 have hx:=H.av x
 have hy:=H.av y
 simp only [pureOp] at hp
 split at hp
 ·rename_i p q ex ey
  rw [ex] at hx
  rw [ey] at hy
  have e1:=hx.sc_inv
  have e2:=hy.sc_inv
  injection hp with hp
  subst hp
  refine ⟨_,.sc _,fun o ho w => ?_⟩
  have hg : ∀ op:BinOp,(eqGuard op t x y (.bool p) (.bool q)).run P w=.ok () w:=fun op => by cases op <;> rfl
  have hb1:(binOp .eql t (.bool p) (.bool q)).run P w=.ok (.bool (decide (p=q))) w:=by
   show (do pure (Value.bool (← Op.equal t (.bool p) (.bool q))):Sem Value).run P w=_
   rw [Sem.run_bind,run_equal_bool ht]; rfl
  have hb2:(binOp .neq t (.bool p) (.bool q)).run P w=.ok (.bool (!decide (p=q))) w:=by
   show (do pure (Value.bool (!(← Op.equal t (.bool p) (.bool q)))):Sem Value).run P w=_
   rw [Sem.run_bind,run_equal_bool ht]; rfl
  cases ng
  ·simp only [execOp,ho,Sem.run_bind,e1,e2,hg,Result.andThen_ok,hb1,if_false,Bool.false_eq_true]; rfl
  ·simp only [execOp,ho,Sem.run_bind,e1,e2,hg,Result.andThen_ok,hb2,if_true]; rfl
 ·cases hp
theorem pure_un {op:UnOp} {t:TypeId} {x:Operand} {v:AV} (H:Sl G σ h sl a) (hp:pureOp (LX.av G sl) (.un op (compX x))=some v) :
 ∃ u,VR σ h v u∧Gives P a (.unOp op t x) u:=by
 have hx:=H.av x
 simp only [pureOp] at hp
 split at hp
 ·rename_i p ex
  rw [ex] at hx
  have e1:=hx.sc_inv
  obtain ⟨u,hu,rfl⟩:=scV_some hp
  refine ⟨u,.sc u (unS_leaf hu),fun o ho w => ?_⟩
  have hr:(Op.unary op p).run P w=.ok u w:=by
   cases p <;> cases op <;> simp only [unS] at hu <;> first
    | (cases hu; done)
    | (injection hu with hu; subst hu; rfl)
  simp only [execOp,ho,Sem.run_bind,e1,hr,Result.andThen_ok]; rfl
 ·cases hp
theorem pure_conv {k:IntKind} {s d:TypeId} {x:Operand} {v:AV} (hs : ∃ j,P.underlying s=some (.int j)) (hd:P.underlying d=some (.int k)) (H:Sl G σ h sl a) (hp:pureOp (LX.av G sl) (.conv k (compX x))=some v) :
 ∃ u,VR σ h v u∧Gives P a (.convert s d x) u:=by
 obtain ⟨j,hs⟩:=hs
 have hx:=H.av x
 simp only [pureOp] at hp
 split at hp
 ·rename_i j' n ex
  rw [ex] at hx
  have e1:=hx.sc_inv
  injection hp with hp
  subst hp
  refine ⟨_,.sc _,fun o ho w => ?_⟩
  simp only [execOp,ho,convert,Sem.run_bind,e1,run_und hs,run_und hd,Result.andThen_ok]; rfl
 ·cases hp
theorem pure_i2s {s d:TypeId} {x:Operand} {v:AV} (hs : ∃ j,P.underlying s=some (.int j)) (hd:P.underlying d=some .string) (H:Sl G σ h sl a) (hp:pureOp (LX.av G sl) (.i2s (compX x))=some v) :
 ∃ u,VR σ h v u∧Gives P a (.convert s d x) u:=by
 obtain ⟨j,hs⟩:=hs
 have hx:=H.av x
 simp only [pureOp] at hp
 split at hp
 ·rename_i j' n ex
  rw [ex] at hx
  have e1:=hx.sc_inv
  injection hp with hp
  subst hp
  refine ⟨_,.sc _,fun o ho w => ?_⟩
  simp only [execOp,ho,convert,Sem.run_bind,e1,run_und hs,run_und hd,Result.andThen_ok]; rfl
 ·cases hp
theorem pure_s2s {s d:TypeId} {x:Operand} {v:AV} (hs:P.underlying s=some .string) (hd:P.underlying d=some .string) (H:Sl G σ h sl a) (hp:pureOp (LX.av G sl) (.s2s (compX x))=some v) :
 ∃ u,VR σ h v u∧Gives P a (.convert s d x) u:=by
 have hx:=H.av x
 simp only [pureOp] at hp
 split at hp
 ·rename_i q ex
  rw [ex] at hx
  have e1:=hx.sc_inv
  injection hp with hp
  subst hp
  refine ⟨_,.sc _,fun o ho w => ?_⟩
  simp only [execOp,ho,convert,Sem.run_bind,e1,run_und hs,run_und hd,Result.andThen_ok]; rfl
 ·cases hp
theorem pure_fld {s:TypeId} {fs:Array Field} {k:Nat} {f:Field} {n:Nat} {x:Operand} {v:AV} (hs:P.underlying s=some (.struct fs)) (hf:fs[k]? = some f) (hn:sizeC P f.type=some n) (h0:0 < n) (H:Sl G σ h sl a)
 (hp:pureOp (LX.av G sl) (.fld (compX x) f.offset)=some v) : ∃ u,VR σ h v u∧Gives P a (.fieldAddr s x k) u:=by
 have hx:=H.av x
 have key : ∀ (A:Addr),A.spot=none→a.eval x=.pointer (some A)→Gives P a (.fieldAddr s x k) (.pointer (some ⟨A.block,A.off + f.offset,none⟩)):=by
  intro A hA e o ho w
  have hz : ¬ n=0:=by omega
  simp only [execOp,ho,Instr.fieldAt,Sem.run_bind,run_und hs,hf,e,Instr.sureAddr,fieldPlace,run_size hn,Result.andThen_ok,hz,if_false,Sem.run_pure]
  have:A.add f.offset=⟨A.block,A.off + f.offset,none⟩:=by
   unfold Addr.add
   split
   ·rename_i h0; rw [h0]; cases A; simp at hA; simp [hA]
   ·rfl
  rw [this]
 simp only [pureOp] at hp
 split at hp
 ·rename_i b o ex
  rw [ex] at hx
  obtain ⟨kk,m,hσ,e⟩:=hx.bp_inv
  injection hp with hp; subst hp
  exact ⟨_,.bp b (o + f.offset) kk m hσ,key ⟨kk,o,none⟩ rfl e⟩
 ·rename_i b i g ex
  rw [ex] at hx
  obtain ⟨kk,d,m,sz,hσ,e⟩:=hx.ep_inv
  injection hp with hp; subst hp
  have:=VR.ep (σ:=σ) (h:=h) b i (g + f.offset) kk d m sz hσ
  refine ⟨_,this,?_⟩
  have hk:=key ⟨kk,d + (i * sz + g),none⟩ rfl e
  simpa [Nat.add_assoc] using hk
 ·rename_i c g ex
  rw [ex] at hx
  obtain ⟨kk,oo,us,h1,h2,e⟩:=hx.fp_inv
  injection hp with hp; subst hp
  refine ⟨_,.fp c (g + f.offset) kk oo us h1 h2,?_⟩
  have hk:=key ⟨kk,oo + g,none⟩ rfl e
  simpa [Nat.add_assoc] using hk
 ·cases hp
theorem pure_ext {x:Operand} {i:Nat} {v:AV} (H:Sl G σ h sl a) (hp:pureOp (LX.av G sl) (.ext (compX x) i)=some v) : ∃ u,VR σ h v u∧Gives P a (.extract x i) u:=by
 have hx:=H.av x
 simp only [pureOp] at hp
 split at hp
 ·rename_i l ex
  rw [ex] at hx
  obtain ⟨vs,e,hl,hr⟩:=hx.tup_inv
  have hi:i < vs.length:=by
   have:=(List.getElem?_eq_some_iff.1 hp).1
   omega
  refine ⟨vs[i],hr i v _ hp (List.getElem?_eq_getElem hi),fun o ho w => ?_⟩
  simp [execOp,ho,Instr.extract,e,List.getElem?_eq_getElem hi,Sem.run_bind,Sem.run,pure]
 ·cases hp
theorem pure_mkf {f:FuncId} {caps:Array Operand} {v:AV} (H:Sl G σ h sl a) (hp:pureOp (LX.av G sl) (.mkf f (caps.toList.map compX))=some v) : ∃ u,VR σ h v u∧Gives P a (.makeFunc (.func f) #[] caps) u:=by
 simp only [pureOp] at hp
 injection hp with hp
 subst hp
 refine ⟨.func (.func f) #[] (caps.toList.map a.eval).toArray,.fn f _ _ (by simp) (fun i x v e1 e2 => ?_),fun o ho w => ?_⟩
 ·rw [List.map_map,List.getElem?_map] at e1
  rw [List.getElem?_map] at e2
  cases hc:caps.toList[i]? with
  | none => rw [hc] at e1; cases e1
  | some c =>
   rw [hc] at e1 e2
   simp at e1 e2
   subst e1; subst e2
   exact H.av c
 ·have e:Array.map a.eval caps=(List.map a.eval caps.toList).toArray:=by rw [← Array.toList_map,Array.toArray_toList]
  simp only [execOp,ho,Instr.makeFunc,Sem.run_bind,Array.map_empty,e]; rfl
theorem pure_mkb {f:FuncId} {l:List Operand} {v:AV} (H:Sl G σ h sl a) (hp:pureOp (LX.av G sl) (.mkb f (l.map compX))=some v) : ∃ u,VR σ h v u∧Gives P a (.makeFunc (.func f) ⟨l⟩ #[]) u:=by
 simp only [pureOp] at hp
 injection hp with hp
 subst hp
 refine ⟨.func (.func f) (l.map a.eval).toArray #[],.bm f _ _ (by simp) (fun i x v e1 e2 => ?_),fun o ho w => ?_⟩
 ·rw [List.map_map,List.getElem?_map] at e1
  rw [List.getElem?_map] at e2
  cases hc:l[i]? with
  | none => rw [hc] at e1; cases e1
  | some c =>
   rw [hc] at e1 e2
   simp at e1 e2
   subst e1; subst e2
   exact H.av c
 ·have e:Array.map a.eval ⟨l⟩=(List.map a.eval l).toArray:=by simp
  simp only [execOp,ho,Instr.makeFunc,Sem.run_bind,Array.map_empty,e]; rfl
theorem pure_mki {t:TypeId} {fs:Array Field} {x:Operand} {v:AV} (ht:P.underlying t=some (.struct fs)) (H:Sl G σ h sl a) (hp:pureOp (LX.av G sl) (.mki t (compX x))=some v) : ∃ u,VR σ h v u∧Gives P a (.makeInterface t x) u:=by
 simp only [pureOp] at hp
 split at hp
 ·injection hp with hp; subst hp
  refine ⟨_,.ifc t _ _ (H.av x),fun o ho w => ?_⟩
  simp only [execOp,ho,Instr.makeInterface,Sem.run_bind,run_underlying ht,Result.andThen_ok,Sem.run_pure]
 ·cases hp
theorem pure_tas {t xt:TypeId} {fs:Array Field} {i:TypeInfo} {cs:Array Value} {x:Operand} {v:AV} (ht:P.underlying t=some (.struct fs)) (hi:P.info? t=some i) (hz:i.zero=some (.agg cs)) (H:Sl G σ h sl a) (hp:pureOp (LX.av G sl) (.tas t cs.toList (compX x))=some v) : ∃ u,VR σ h v u∧Gives P a (.typeAssert x xt t true) u:=by
 have hx:=H.av x
 have hb : ∀ b:Bool,VR σ h (.fz (.sc (.bool b))) (.bool b):=fun b => .fz _ _ (.sc _ rfl)
 have pr : ∀ {y z:AV} {u v:Value},VR σ h y u→VR σ h z v→VR σ h (.tup [y,z]) (.tuple #[u,v]):=fun {y z u v} h1 h2 => .tup [y,z] [u,v] rfl fun i a b e1 e2 => match i with
  | 0 => by simp at e1 e2; subst e1; subst e2; exact h1
  | 1 => by simp at e1 e2; subst e1; subst e2; exact h2
  | n + 2 => by simp at e1
 have zr : ∀ w,(zeroValue t).run P w=.ok (.agg cs) w:=fun w => by simp [zeroValue,Sem.run_bind,run_info hi,hz]
 simp only [pureOp] at hp
 split at hp
 ·rename_i t' y ey
  rw [ey] at hx
  obtain ⟨u,hu,hr⟩:=hx.ifc_inv
  split at hp
  ·rename_i e
   subst e
   injection hp with hp; subst hp
   refine ⟨_,pr hr (hb true),fun o ho w => ?_⟩
   simp only [execOp,ho,Instr.typeAssert,Sem.run_bind,run_underlying ht,Result.andThen_ok,hu,if_true,Sem.run_pure]
  ·rename_i e
   injection hp with hp; subst hp
   refine ⟨_,pr (.cells cs) (hb false),fun o ho w => ?_⟩
   simp only [execOp,ho,Instr.typeAssert,Sem.run_bind,run_underlying ht,Result.andThen_ok,hu,if_neg e,if_true,zr,Sem.run_pure]
 ·cases hp
theorem pure_nilchk {x:Operand} {v:AV} (H:Sl G σ h sl a) (hp:pureOp (LX.av G sl) (.nilchk (compX x))=some v) : ∃ u,VR σ h v u∧Gives P a (.nilCheck x) u:=by
 have hx:=H.av x
 simp only [pureOp] at hp
 split at hp
 ·rename_i b o ex
  rw [ex] at hx; injection hp with hp; subst hp
  obtain ⟨k,n,hs,e⟩:=hx.bp_inv
  exact ⟨_,hx,fun o' ho w => by simp [execOp,ho,e,Sem.run,pure]⟩
 ·rename_i b i f ex
  rw [ex] at hx; injection hp with hp; subst hp
  obtain ⟨k,d,n,sz,hs,e⟩:=hx.ep_inv
  exact ⟨_,hx,fun o' ho w => by simp [execOp,ho,e,Sem.run,pure]⟩
 ·rename_i c f ex
  rw [ex] at hx; injection hp with hp; subst hp
  obtain ⟨k,o,us,h1,h2,e⟩:=hx.fp_inv
  exact ⟨_,hx,fun o' ho w => by simp [execOp,ho,e,Sem.run,pure]⟩
 ·rename_i f c ex
  rw [ex] at hx; injection hp with hp; subst hp
  obtain ⟨vs,e,_,_⟩:=hx.fn_inv
  exact ⟨_,hx,fun o' ho w => by simp [execOp,ho,e,Sem.run,pure]⟩
 ·rename_i f c ex
  rw [ex] at hx; injection hp with hp; subst hp
  obtain ⟨vs,e,_,_⟩:=hx.bm_inv
  exact ⟨_,hx,fun o' ho w => by simp [execOp,ho,e,Sem.run,pure]⟩
 ·cases hp
theorem pure_pick {c x y:Operand} {v:AV} (H:Sl G σ h sl a) (hp:pureOp (LX.av G sl) (.pick (compX c) (compX x) (compX y))=some v) : ∃ u,VR σ h v u∧Gives P a (.pick c x y) u:=by
 have hc:=H.av c
 simp only [pureOp] at hp
 split at hp
 ·rename_i t ex
  rw [ex] at hc
  have e:=hc.sc_inv
  injection hp with hp; subst hp
  cases t
  ·exact ⟨_,H.av y,fun o ho w => by simp [execOp,ho,e,asBool,Sem.run_bind,Sem.run,pure]⟩
  ·exact ⟨_,H.av x,fun o ho w => by simp [execOp,ho,e,asBool,Sem.run_bind,Sem.run,pure]⟩
 ·cases hp
theorem arr1 {α:Type} {x:Array α} {y:α} (e:x.toList=[y]):x = #[y]:=by
 rw [← Array.toArray_toList (xs:=x),e]
theorem arr2 {α:Type} {x:Array α} {y z:α} (e:x.toList=[y,z]):x = #[y,z]:=by
 rw [← Array.toArray_toList (xs:=x),e]
theorem gives_builtin {b:Builtin} {xs:Array Operand} {ts:Array TypeId} {u:Value} (s:TypeId→Sem Value) (hb : ∀ (ty:TypeId) cs,builtin b ts ty cs (xs.map a.eval)=(do pure (.value (← s ty)))) (hr : ∀ ty w,(s ty).run P w=.ok u w) :
 Gives P a (.call { callee:=.builtin b,args:=xs,argTypes:=ts }) u:=by
 intro o ho w
 simp only [execOp,ho,resolve,invoke,Sem.run_bind,Sem.run_pure,Result.andThen_ok,hb,hr]
theorem gives1 {b:Builtin} {x:Operand} {t:TypeId} {u:Value} (f:Array TypeId→TypeId→Array Value→Sem Value) (hb : ∀ (ty:TypeId) cs xs,builtin b #[t] ty cs xs=(do pure (.value (← f #[t] ty xs)))) (hr : ∀ ty w,(f #[t] ty #[a.eval x]).run P w=.ok u w) :
 Gives P a (.call { callee:=.builtin b,args := #[x],argTypes := #[t] }) u :=
 gives_builtin (fun ty => f #[t] ty #[a.eval x]) (fun ty cs => by rw [hb]; simp) hr
theorem pure_slen {xs:Array Operand} {ts:Array TypeId} {t:TypeId} {x:Operand} {v:AV} (hx:xs.toList=[x]) (ht:ts.toList=[t]) (hu:P.underlying t=some .string) (H:Sl G σ h sl a)
 (hp:pureOp (LX.av G sl) (.slen (compX x))=some v) : ∃ u,VR σ h v u∧Gives P a (.call { callee:=.builtin .len,args:=xs,argTypes:=ts }) u:=by
 obtain rfl:=arr1 hx
 obtain rfl:=arr1 ht
 have hx:=H.av x
 simp only [pureOp] at hp
 split at hp
 ·rename_i q ex
  rw [ex] at hx
  injection hp with hp
  subst hp
  have e:=hx.sc_inv
  refine ⟨_,.sc _,gives1 Builtin.len_ (fun _ _ _ => rfl) fun ty w => ?_⟩
  rw [e]; simp only [Builtin.len_,Sem.run_bind]
  simp [run_und hu,Sem.run_bind,goInt]
 ·cases hp
theorem pure_len {xs:Array Operand} {ts:Array TypeId} {t el:TypeId} {x:Operand} {v:AV} (hx:xs.toList=[x]) (ht:ts.toList=[t]) (hu:P.underlying t=some (.slice el)) (H:Sl G σ h sl a)
 (hp:pureOp (LX.av G sl) (.len (compX x))=some v) : ∃ u,VR σ h v u∧Gives P a (.call { callee:=.builtin .len,args:=xs,argTypes:=ts }) u:=by
 obtain rfl:=arr1 hx
 obtain rfl:=arr1 ht
 have hx:=H.av x
 have key : ∀ (n:Nat) A c,some (AV.fz (.sc (.int .i64 n)))=some v→a.eval x=.slice A n c→∃ u,VR σ h v u∧Gives P a (.call { callee:=.builtin .len,args := #[x],argTypes := #[t] }) u:=by
  intro n A c hv e
  injection hv with hv
  subst hv
  refine ⟨_,.sc _,gives1 Builtin.len_ (fun _ _ _ => rfl) fun ty w => ?_⟩
  rw [e]; simp only [Builtin.len_,Sem.run_bind]
  simp [run_und hu,Sem.run_bind,goInt]
 simp only [pureOp] at hp
 split at hp
 ·rename_i es ex
  rw [ex] at hx
  obtain ⟨A,c,e,_⟩:=hx.slc_slice
  exact key _ A c hp e
 ·rename_i b sz off n ex
  rw [ex] at hx
  obtain ⟨A,c,e,_⟩:=hx.osl_slice
  exact key _ A c hp e
 ·rename_i ex
  rw [ex] at hx
  obtain ⟨A,e⟩:=hx.emp_inv
  exact key 0 A 0 hp e
 ·cases hp
theorem pure_alen {xs:Array Operand} {ts:Array TypeId} {t:TypeId} {n:Nat} {x:Operand} {v:AV} (hx:xs.toList=[x]) (ht:ts.toList=[t]) (hu:(∃ e,P.underlying t=some (.array n e))∨∃ b e,P.underlying t=some (.pointer b)∧P.underlying b=some (.array n e))
 (hp:pureOp (LX.av G sl) (.alen n)=some v) : ∃ u,VR σ h v u∧Gives P a (.call { callee:=.builtin .len,args:=xs,argTypes:=ts }) u:=by
 obtain rfl:=arr1 hx
 obtain rfl:=arr1 ht
 simp only [pureOp] at hp
 injection hp with hp
 subst hp
 refine ⟨_,.sc _,gives1 Builtin.len_ (fun _ _ _ => rfl) fun ty w => ?_⟩
 rcases hu with ⟨e,hu⟩ | ⟨b,e,hu,hb⟩
 ·simp only [Builtin.len_,Sem.run_bind]
  simp [run_und hu,Sem.run_bind,goInt]
 ·simp only [Builtin.len_,Sem.run_bind]
  simp [run_und hu,run_und hb,Sem.run_bind,goInt]
theorem run_foldV {f:Value→Value→Option Value} {g:Value→Value→Sem Value} (hfg : ∀ p q r,f p q=some r→∀ w,(g p q).run P w=.ok r w) : ∀ (l:List AV) (us:List Value) (p r:Value),l.length=us.length→(∀ (i:Nat) (x:AV) (u:Value),l[i]? = some x→us[i]? = some u→VR σ h x u) →
 foldV f p l=some r→∀ w,(us.foldlM g p).run P w=.ok r w
 | [],[],p,r,_,_,e,w => by
  simp only [foldV] at e
  injection e with e
  subst e
  rfl
 | .fz (.sc q) :: l, u :: us, p, r, hl, hr, e, w => by
  simp only [foldV] at e
  have e0:u=q:=(hr 0 _ _ rfl rfl).sc_inv
  subst e0
  split at e
  ·rename_i x hx
   simp only [List.foldlM,Sem.run_bind,hfg _ _ _ hx w,Result.andThen_ok]
   exact run_foldV hfg l us x r (by simpa using hl) (fun i y z e1 e2 => hr (i + 1) y z (by simpa using e1) (by simpa using e2)) e w
  ·cases e
 | [],_ :: _,_,_,hl,_,_,_ => by simp at hl
 | _ :: _,[],_,_,hl,_,_,_ => by simp at hl
 | .dead :: _,_ :: _,_,_,_,_,e,_ => by simp [foldV] at e
 | .fz (.sl _) :: _,_ :: _,_,_,_,_,e,_ => by simp [foldV] at e
 | .agg _ :: _,_ :: _,_,_,_,_,e,_ => by simp [foldV] at e
 | .tup _ :: _,_ :: _,_,_,_,_,e,_ => by simp [foldV] at e
 | .osl _ _ _ _ :: _,_ :: _,_,_,_,_,e,_ => by simp [foldV] at e
 | .bp _ _ :: _,_ :: _,_,_,_,_,e,_ => by simp [foldV] at e
 | .ep _ _ _ :: _,_ :: _,_,_,_,_,e,_ => by simp [foldV] at e
 | .fp _ _ :: _,_ :: _,_,_,_,_,e,_ => by simp [foldV] at e
 | .fn _ _ :: _,_ :: _,_,_,_,_,e,_ => by simp [foldV] at e
 | .emp :: _,_ :: _,_,_,_,_,e,_ => by simp [foldV] at e
theorem Sl.avs (H:Sl G σ h sl a) (xs:List Operand) : ∀ (i:Nat) (x:AV) (u:Value),((xs.map compX).map (LX.av G sl))[i]? = some x→(xs.map a.eval)[i]? = some u→VR σ h x u:=by
 intro i x u e1 e2
 rw [List.map_map,List.getElem?_map] at e1
 rw [List.getElem?_map] at e2
 cases hc:xs[i]? with
 | none => rw [hc] at e1; cases e1
 | some c =>
  rw [hc] at e1 e2
  simp at e1 e2
  subst e1; subst e2
  exact H.av c
theorem pure_fold {b:Builtin} {xs:Array Operand} {ts:Array TypeId} {f:Value→Value→Option Value} {g:Value→Value→Sem Value} (hf : ∀ u v r,f u v=some r→leafV r=true) (hfg : ∀ p q r,f p q=some r→∀ w,(g p q).run P w=.ok r w)
 (hb : ∀ (ty:TypeId) cs (x:Value) r,builtin b ts ty cs (x :: r).toArray=(do pure (.value (← r.foldlM g x)))) {v:AV} (H:Sl G σ h sl a)
 (hp:scV (foldV0 f ((xs.toList.map compX).map (LX.av G sl)))=some v) : ∃ u,VR σ h v u∧Gives P a (.call { callee:=.builtin b,args:=xs,argTypes:=ts }) u:=by
 obtain ⟨u,hu,rfl⟩:=scV_some hp
 have hav:=H.avs xs.toList
 cases hl:xs.toList with
 | nil => rw [hl] at hu; simp [foldV0] at hu
 | cons x r =>
  rw [hl] at hu hav
  simp only [List.map_cons] at hu hav
  have hx:xs.map a.eval=(a.eval x :: r.map a.eval).toArray:=by
   rw [← Array.toArray_toList (xs:=xs.map a.eval),Array.toList_map,hl]; rfl
  unfold foldV0 at hu
  split at hu
  ·rename_i p l hq
   injection hq with h1 h2
   have e0:a.eval x=p:=by
    have:=hav 0 _ _ rfl rfl
    rw [h1] at this
    exact this.sc_inv
   have hlp:leafV p=true:=by
    have:=hav 0 _ _ rfl rfl
    rw [h1] at this
    rw [← e0]
    exact this.sc_leaf
   refine ⟨u,.sc u (foldV_leaf hf _ _ _ hlp hu),gives_builtin (fun ty => (r.map a.eval).foldlM g (a.eval x)) (fun ty cs => by rw [hx,hb]) fun ty w => ?_⟩
   rw [e0]
   rw [← h2] at hu
   exact run_foldV (σ:=σ) (h:=h) hfg _ _ p u (by simp) (fun i y z e1 e2 => hav (i + 1) y z (by simpa using e1) (by simpa using e2)) hu w
  ·cases hu
theorem run_mx2 (p q r:Value) (e:mx2 p q=some r) (w:World):(Builtin.max2 p q).run P w=.ok r w:=by
 unfold mx2 at e
 split at e
 ·split at e
  ·injection e with e; subst e; simp [Builtin.max2,Sem.run,pure]
  ·cases e
 ·cases e
theorem run_mn2 (p q r:Value) (e:mn2 p q=some r) (w:World):(Builtin.min2 p q).run P w=.ok r w:=by
 unfold mn2 at e
 split at e
 ·split at e
  ·injection e with e; subst e; simp [Builtin.min2,Sem.run,pure]
  ·cases e
 ·cases e
theorem pure_mx {xs:Array Operand} {ts:Array TypeId} {v:AV} (H:Sl G σ h sl a) (hp:pureOp (LX.av G sl) (.mx (xs.toList.map compX))=some v) :
 ∃ u,VR σ h v u∧Gives P a (.call { callee:=.builtin .max,args:=xs,argTypes:=ts }) u :=
 pure_fold (fun _ _ _ => mx2_leaf) run_mx2 (fun ty cs x r => rfl) H hp
theorem pure_mn {xs:Array Operand} {ts:Array TypeId} {v:AV} (H:Sl G σ h sl a) (hp:pureOp (LX.av G sl) (.mn (xs.toList.map compX))=some v) :
 ∃ u,VR σ h v u∧Gives P a (.call { callee:=.builtin .min,args:=xs,argTypes:=ts }) u :=
 pure_fold (fun _ _ _ => mn2_leaf) run_mn2 (fun ty cs x r => rfl) H hp
end Go.Vai
