/-
  A part of the abstract run of Go functions and of the proof that it tells the truth.
-/
import Derived.Deep.Fields
import Derived.SizedLaws
import Derived.Test.YtljbbcpahapmnaaGreatDoorVaR
set_option linter.unusedVariables false
set_option linter.unusedSimpArgs false
namespace Go.Vai
open Go.Deep Go.ChangeShapes Go.WideShapes
inductive Tx where
 | i (k:IntKind)
 | s
 | b
 | sl (e:Tx) (sz:Nat)
 | st (fs:List (Nat × Tx))
 | ref (j:Nat)
abbrev TG:=List (Tx × TypeId)
def offX (fs:List (Nat × Tx)) (i:Nat):Nat:=((fs.take i).map (·.1)).sum
inductive TxOk (P:Program) (Γ:TG):Tx→TypeId→Prop
 | i (k:IntKind) (t:TypeId):P.underlying t=some (.int k)→TxOk P Γ (.i k) t
 | s (t:TypeId):P.underlying t=some .string→TxOk P Γ .s t
 | b (t:TypeId):P.underlying t=some .bool→TxOk P Γ .b t
 | sl (e:Tx) (sz:Nat) (t u:TypeId):P.underlying t=some (.slice u)→P.cellsOf u=sz→0 < sz→0 < P.bytesOf u→TxOk P Γ e u→TxOk P Γ (.sl e sz) t
 | st (fs:List (Nat × Tx)) (t:TypeId) (gs:Array Field):P.underlying t=some (.struct gs)→P.cellsOf t=(fs.map (·.1)).sum→gs.size=fs.length →
  (∀ (i:Nat) (f:Nat × Tx) (g:Field),fs[i]? = some f→gs[i]? = some g→g.offset=offX fs i∧P.cellsOf g.type=f.1) →
  (∀ (i:Nat) (f:Nat × Tx) (g:Field),fs[i]? = some f→gs[i]? = some g→TxOk P Γ f.2 g.type)→TxOk P Γ (.st fs) t
 | ref (j:Nat) (T:Tx) (t:TypeId):Γ[j]? = some (T,t)→TxOk P Γ (.ref j) t
inductive HasX (Γ:TG):Tx→List FV→Prop
 | i (k:IntKind) (n:Int):(Lit.int k n).wf=true→HasX Γ (.i k) [.sc (.int k n)]
 | s (q:ByteArray):q.size≤140737488351232→HasX Γ .s [.sc (.string q)]
 | b (x:Bool):HasX Γ .b [.sc (.bool x)]
 | sl (e:Tx) (sz:Nat) (es:List (List FV)):(∀ (i:Nat) (c:List FV),es[i]? = some c→HasX Γ e c)→(∀ (i:Nat) (c:List FV),es[i]? = some c→c.length=sz)→es.length≤140737488351232→HasX Γ (.sl e sz) [.sl es]
 | st (fs:List (Nat × Tx)) (as:List (List FV)):as.length=fs.length→(∀ (i:Nat) (f:Nat × Tx) (a:List FV),fs[i]? = some f→as[i]? = some a→a.length=f.1) →
  (∀ (i:Nat) (f:Nat × Tx) (a:List FV),fs[i]? = some f→as[i]? = some a→HasX Γ f.2 a)→HasX Γ (.st fs) as.flatten
 | ref (j:Nat) (T:Tx) (t:TypeId) (xs:List FV):Γ[j]? = some (T,t)→HasX Γ T xs→HasX Γ (.ref j) xs
instance:Inhabited FV:=⟨.sl []⟩
theorem cellAt_of_cell {w:World} {k o:Nat} {v:Value} (h:w.cell? ⟨k,o,none⟩=some v):cellAt (heapOf w) k o=some v:=by
 unfold cellAt heapOf
 simp only [World.cell?] at h
 split
 ·rename_i c t z hk
  rw [hk] at h; exact h
 ·rename_i hne
  cases hh:w.heap[k]? with
  | none => rw [hh] at h; simp at h
  | some o =>
   rw [hh] at h
   cases o with
   | cells c t z => exact absurd hh (hne c t z)
   | _ => simp at h
theorem weightsAll_mem {H:Type} {P:Program} {e:TypeId} {d:DataW H} : ∀ {l:List (DataW H)},d∈l→∀ n∈d.weights P e,n∈DataW.weightsAll P e l
 | [],h,_,_ => by simp at h
 | x :: r,h,n,hn => by
  simp only [DataW.weightsAll,List.mem_append]
  rcases List.mem_cons.1 h with rfl | h
  ·exact .inl hn
  ·exact .inr (weightsAll_mem h n hn)
def FRs (h:PH) (xs:List FV) (cs:List Value):Prop:=xs.length=cs.length∧∀ (i:Nat) (y:FV) (u:Value),xs[i]? = some y→cs[i]? = some u→FR h y u
theorem FRs_app {h:PH} {xs ys:List FV} {cs ds:List Value} (h1:FRs h xs cs) (h2:FRs h ys ds):FRs h (xs ++ ys) (cs ++ ds):=by
 refine ⟨by simp [h1.1,h2.1],fun i y u e1 e2 => ?_⟩
 rw [List.getElem?_append] at e1 e2
 split at e1
 ·rename_i hi
  rw [if_pos (by rw [← h1.1]; exact hi)] at e2
  exact h1.2 i y u e1 e2
 ·rename_i hi
  rw [if_neg (by rw [← h1.1]; exact hi),← h1.1] at e2
  exact h2.2 _ y u e1 e2
theorem offX_succ (f:Nat × Tx) (fs:List (Nat × Tx)) (i:Nat):offX (f :: fs) (i + 1)=f.1 + offX fs i:=by
 simp [offX]
theorem fields_x {Γ:TG} {h:PH} : ∀ (fs:List (Nat × Tx)) (cs:List Value),cs.length=(fs.map (·.1)).sum→(∀ (i:Nat) (f:Nat × Tx),fs[i]? = some f→∃ a,HasX Γ f.2 a∧FRs h a ((cs.drop (offX fs i)).take f.1)) →
 ∃ as:List (List FV),as.length=fs.length∧(∀ (i:Nat) (f:Nat × Tx) (a:List FV),fs[i]? = some f→as[i]? = some a→a.length=f.1)∧(∀ (i:Nat) (f:Nat × Tx) (a:List FV),fs[i]? = some f→as[i]? = some a→HasX Γ f.2 a)∧FRs h as.flatten cs
 | [],cs,hc,_ => by
  have:cs=[]:=List.length_eq_zero_iff.1 (by simpa using hc)
  subst this
  exact ⟨[],rfl,fun i f a h1 => by simp at h1,fun i f a h1 => by simp at h1,rfl,fun i y u h1 => by simp at h1⟩
 | f :: fs, cs, hc, hh => by
  simp only [List.map_cons,List.sum_cons] at hc
  obtain ⟨a,h1,h2⟩:=hh 0 f rfl
  have h0:offX (f :: fs) 0=0:=by simp [offX]
  rw [h0,List.drop_zero] at h2
  obtain ⟨as,g1,g2,g3,g4⟩:=fields_x (Γ:=Γ) (h:=h) fs (cs.drop f.1) (by rw [List.length_drop]; omega) fun i g hg => by
   obtain ⟨b,k1,k2⟩:=hh (i + 1) g (by simpa using hg)
   rw [offX_succ,← List.drop_drop] at k2
   exact ⟨b,k1,k2⟩
  have hl:a.length=f.1:=by rw [h2.1,List.length_take]; omega
  refine ⟨a :: as,by simp [g1],fun i g b e1 e2 => ?_,fun i g b e1 e2 => ?_,?_⟩
  ·cases i with
   | zero => simp at e1 e2; subst e1; subst e2; exact hl
   | succ i => exact g2 i g b (by simpa using e1) (by simpa using e2)
  ·cases i with
   | zero => simp at e1 e2; subst e1; subst e2; exact h1
   | succ i => exact g3 i g b (by simpa using e1) (by simpa using e2)
  ·have:=FRs_app h2 g4
   rw [List.take_append_drop] at this
   rwa [List.flatten_cons]
theorem read_x {H:Type} {enc:TypeId × Value→H} {P:Program} {w:World} {base:Nat} {spare:Nat→Bool} {held:Bool} {Γ:TG} (hΓ : ∀ (j:Nat) (T:Tx) (t:TypeId),Γ[j]? = some (T,t)→TxOk P Γ T t∧∃ fs,T=.st fs) : ∀ (fuel:Nat) {T:Tx} {t:TypeId} (hT:TxOk P Γ T t) (cs:List Value) (x:DataW H × List MemPlace),DataW.trod enc P w base spare held fuel t cs=some x→(∀ n∈x.1.weights P t,n≤reachBytes) →
 ∃ xs,HasX Γ T xs∧FRs (heapOf w) xs cs:=by
 intro fuel
 induction fuel with
 | zero => intro T t hT cs x h; simp [DataW.trod] at h
 | succ fuel ih =>
  have one : ∀ (y:FV) (u:Value),FR (heapOf w) y u→FRs (heapOf w) [y] [u]:=fun y u h => ⟨rfl,fun i y' u' e1 e2 => by
   cases i with
   | zero => simp at e1 e2; subst e1; subst e2; exact h
   | succ i => simp at e1⟩
  have struct : ∀ (fs:List (Nat × Tx)) (t:TypeId) (hT:TxOk P Γ (.st fs) t) (cs:List Value) (x:DataW H × List MemPlace),DataW.trod enc P w base spare held (fuel + 1) t cs=some x→(∀ n∈x.1.weights P t,n≤reachBytes) →
   ∃ xs,HasX Γ (.st fs) xs∧FRs (heapOf w) xs cs:=by
   intro fs t hT cs x h hwt
   cases hT with
   | st _ _ gs ht hC hsz hoff hty =>
    obtain ⟨xs,n,hn,hlen,hx,hxl,hf⟩:=DataW.trod_struct ht h
    injection hn with hn
    subst hn
    rw [hlen] at hwt
    simp only [DataW.weights,ht] at hwt
    obtain ⟨as,g1,g2,g3,g4⟩:=fields_x (Γ:=Γ) (h:=heapOf w) fs cs (by rw [hx,hC]) fun i f hfi => by
     have hi:i < fs.length:=(List.getElem?_eq_some_iff.1 hfi).1
     have hgi:gs[i]? = some gs[i]:=by simp [show i < gs.size by omega]
     obtain ⟨o1,o2⟩:=hoff i f _ hfi hgi
     have g:=hf i _ hgi
     have hxi:i < xs.length:=by omega
     rw [List.getElem?_eq_getElem hxi,o1,o2] at g
     exact ih (hty i f _ hfi hgi) _ _ g fun k hk => hwt k (DataW.weights_mem_each (j:=i) (t:=gs[i].type) (d:=xs[i].1) (by simp [show i < gs.size by omega]) (by simp [hxi]) k hk)
    exact ⟨_,.st fs as g1 g2 g3,g4⟩
  intro T t hT cs x h hwt
  cases hT with
  | i k t ht =>
   obtain ⟨n,rfl,_,hw⟩:=DataW.trod_int ht h
   exact ⟨_,.i k n hw,one _ _ (.sc _ rfl)⟩
  | s t ht =>
   obtain ⟨q,rfl,hxq,hw⟩:=DataW.trod_string ht h
   have hq:q.size≤140737488351232:=by
    rw [hxq] at hwt
    have h2:=hwt q.data.toList.length (by simp only [DataW.weights,List.mem_singleton])
    rw [Array.length_toList] at h2
    exact h2
   exact ⟨_,.s q hq,one _ _ (.sc _ rfl)⟩
  | b t ht =>
   obtain ⟨q,rfl,_⟩:=DataW.trod_bool ht h
   exact ⟨_,.b q,one _ _ (.sc _ rfl)⟩
  | sl e sz t u ht hc h0 hby hu =>
   rcases DataW.trod_slice ht h with ⟨rfl,_⟩ | ⟨a,len,cap,elems,rest,n,hn,rfl,rfl,hb,hl,hm,hlen,hel,_,_⟩
   ·exact ⟨_,.sl e sz [] (fun i c h => by simp at h) (fun i c h => by simp at h) (Nat.zero_le _),one _ _ (.sl0 _ _)⟩
   ·injection hn with hn
    subst hn
    rw [hc] at hel
    simp only [DataW.weights,ht] at hwt
    have hlen2:len≤140737488351232:=by
     have h1:=hwt _ List.mem_cons_self
     simp only [List.length_map,reachBytes] at h1
     have h2:len * 1≤(elems.length + rest.length) * P.bytesOf u:=Nat.mul_le_mul (by omega) hby
     omega
    have hel2 : ∀ i,i < len→∃ c:List FV,HasX Γ e c∧c.length=sz∧∀ (j:Nat) (y:FV),c[j]? = some y→∃ v,w.cell? ((a.add (i * sz)).add j)=some v∧FR (heapOf w) y v:=by
     intro i hi
     have hg:=hel i hi
     rw [List.getElem?_eq_getElem (by omega:i < elems.length)] at hg
     obtain ⟨cs',h1,h2⟩:=Option.bind_eq_some_iff.1 hg
     obtain ⟨_,hln,hcell⟩:=World.cells?_some h1
     obtain ⟨xs,g1,g2⟩:=ih hu cs' _ h2 fun k hk => hwt k (List.mem_cons_of_mem _ (List.mem_append_left _ (weightsAll_mem (d:=elems[i].1) (List.mem_map.2 ⟨_,List.getElem_mem _,rfl⟩) k hk)))
     refine ⟨xs,g1,by rw [g2.1]; omega,fun j y hy => ?_⟩
     have hj:j < cs'.length:=by have:=(List.getElem?_eq_some_iff.1 hy).1; rw [g2.1] at this; exact this
     refine ⟨cs'[j],?_,g2.2 j y _ hy (List.getElem?_eq_getElem hj)⟩
     rw [hcell j (by omega),List.getElem?_eq_getElem hj]
    obtain ⟨E,hE⟩:=choose_lt hel2
    have hget : ∀ (i:Nat) (c:List FV),((List.range len).map E)[i]? = some c→i < len∧c=E i:=by
     intro i c hi
     rw [List.getElem?_map] at hi
     obtain ⟨q,hq,rfl⟩:=Option.map_eq_some_iff.1 hi
     obtain ⟨h1,h2⟩:=List.getElem?_eq_some_iff.1 hq
     simp at h1 h2
     subst h2
     exact ⟨h1,rfl⟩
    refine ⟨[.sl ((List.range len).map E)],.sl e sz _ (fun i c hi => ?_) (fun i c hi => ?_) (by simp; omega),one _ _ ?_⟩
    ·obtain ⟨g1,rfl⟩:=hget i c hi
     exact (hE i g1).1
    ·obtain ⟨g1,rfl⟩:=hget i c hi
     exact (hE i g1).2.1
    ·by_cases hl0:len=0
     ·subst hl0; exact .sl0 (some a) cap
     ·obtain ⟨k,o,sp⟩:=a
      have hsp:sp=none:=by
       obtain ⟨_,q2,q3⟩:=hE 0 (by omega)
       obtain ⟨v,hv,_⟩:=q3 0 _ (List.getElem?_eq_getElem (by omega))
       simpa [Addr.add] using World.cell?_spot hv
      subst hsp
      have hll:((List.range len).map E).length=len:=by simp
      have hv : ∀ (i:Nat) (c:List FV) (j:Nat) (y:FV),((List.range len).map E)[i]? = some c→c[j]? = some y→∃ v,w.cell? ⟨k,o + (i * sz + j),none⟩=some v∧FR (heapOf w) y v:=by
       intro i c j y hi hj
       obtain ⟨g1,rfl⟩:=hget i c hi
       obtain ⟨v,hv,hr⟩:=(hE i g1).2.2 j y hj
       refine ⟨v,?_,hr⟩
       rw [add_add,add_at] at hv
       exact hv
      have:=FR.sl (h:=heapOf w) ((List.range len).map E) sz k o none cap (fun i j => (w.cell? ⟨k,o + (i * sz + j),none⟩).getD undef) (fun i c hi => by
       obtain ⟨g1,rfl⟩:=hget i c hi
       exact (hE i g1).2.1) (by simpa using hl) (fun _ => rfl) (fun i c j y hi hj => by
       obtain ⟨v,h1,_⟩:=hv i c j y hi hj
       rw [cellAt_of_cell h1,h1]; rfl) (fun i c j y hi hj => by
       obtain ⟨v,h1,h2⟩:=hv i c j y hi hj
       simp only [h1]; exact h2)
      rw [hll] at this
      exact this
  | st fs t gs ht hC hsz hoff hty => exact struct fs t (.st fs t gs ht hC hsz hoff hty) cs x h hwt
  | ref j T' t hj =>
   obtain ⟨k1,fs,rfl⟩:=hΓ j T' t hj
   obtain ⟨xs,g1,g2⟩:=struct fs t k1 cs x h hwt
   exact ⟨xs,.ref j _ t xs hj g1,g2⟩
def argAX:Tx→List FV→AV
 | .st _,xs => .agg (xs.map .fz)
 | .ref _,xs => .agg (xs.map .fz)
 | _,[x] => .fz x
 | _,_ => .dead
theorem arg_x {H:Type} {enc:TypeId × Value→H} {P:Program} {w:World} {base b0:Nat} {r:Reach} {spare:Nat→Bool} {held:Bool} {Γ:TG} (hΓ : ∀ (j:Nat) (T:Tx) (t:TypeId),Γ[j]? = some (T,t)→TxOk P Γ T t∧∃ fs,T=.st fs) {T:Tx} {t:TypeId} (hT:TxOk P Γ T t) {v:Value} {d:DataW H} {ps:List MemPlace} (hv:Value.okWide P w r b0 t v) (h:DataW.Trod enc P w base spare held t v d ps) (hwt : ∀ n∈d.weights P t,n≤reachBytes) :
 ∃ xs,HasX Γ T xs∧VR (fun _ => none) (heapOf w) (argAX T xs) v:=by
 obtain ⟨fuel,h⟩:=h
 obtain ⟨xs,h1,h2,h3⟩:=read_x hΓ fuel hT _ _ h hwt
 refine ⟨xs,h1,?_⟩
 have one : ∀ x,xs=[x]→(∀ cs,v≠.agg cs)→VR (fun _ => none) (heapOf w) (.fz x) v:=by
  rintro x rfl hna
  have hc:v.cells.toList=[v]:=by
   cases v <;> first | rfl | exact absurd rfl (hna _)
  exact .fz _ _ (h3 0 x v rfl (by rw [hc]; rfl))
 have many : ∀ (fs:List (Nat × Tx)),TxOk P Γ (.st fs) t→VR (fun _ => none) (heapOf w) (.agg (xs.map .fz)) v:=by
  intro fs hs
  cases hs with
  | st _ _ gs ht _ _ _ _ =>
   simp only [Value.okWide,ht] at hv
   obtain ⟨cs,rfl,_⟩:=hv
   have:cs=cs.toList.toArray:=by simp
   rw [this]
   refine .agg _ _ (by simpa [Value.cells] using h2) fun i x u e1 e2 => ?_
   rw [List.getElem?_map] at e1
   obtain ⟨y,hy,rfl⟩:=Option.map_eq_some_iff.1 e1
   exact .fz _ _ (h3 i y u hy e2)
 cases hT with
 | i k _ ht =>
  cases h1
  refine one _ rfl ?_
  rintro cs rfl
  simp [Value.okWide,ht,Cell.okWide,Cell.ok] at hv
 | s _ ht =>
  cases h1
  refine one _ rfl ?_
  rintro cs rfl
  simp [Value.okWide,ht,Cell.okWide,Cell.ok] at hv
 | b _ ht =>
  cases h1
  refine one _ rfl ?_
  rintro cs rfl
  simp [Value.okWide,ht,Cell.okWide,Cell.ok] at hv
 | sl e sz _ u ht hc h0 _ he =>
  have hna : ∀ cs,v≠.agg cs:=by
   rintro cs rfl
   simp [Value.okWide,ht,Cell.okWide,Cell.ok] at hv
  cases h1 with
  | sl _ _ es _ _ => exact one _ rfl hna
 | st fs _ gs ht a b c d => exact many fs (.st fs _ gs ht a b c d)
 | ref j T' _ hj =>
  obtain ⟨k1,fs,rfl⟩:=hΓ j T' t hj
  exact many fs k1
end Go.Vai
