/-
  A part of the abstract run of Go functions and of the proof that it tells the truth.
-/
import Derived.Test.YtljbbcpahapmnaaGreatDoorVaN
set_option linter.unusedVariables false
set_option linter.unusedSimpArgs false
namespace Go.Vai
theorem inner_bits {α:Type} (p:α→Bool) (on:α→Nat) (g:α→Nat) : ∀ (l:List α) (s r:Nat),(l.foldl (fun s e => if p e=true then s ||| 2 ^ on e ||| g e else s) s).testBit r=true→s.testBit r=true∨∃ e∈l,p e=true∧(r=on e∨(g e).testBit r=true)
 | [],s,r,h => .inl h
 | e :: l, s, r, h => by
  rw [List.foldl_cons] at h
  rcases inner_bits p on g l _ r h with h | ⟨e',h1,h2⟩
  ·by_cases hp:p e=true
   ·rw [if_pos hp] at h
    simp only [Nat.testBit_or,Nat.testBit_two_pow,Bool.or_eq_true,decide_eq_true_eq] at h
    rcases h with (h | h) | h
    ·exact .inl h
    ·exact .inr ⟨e,by simp,hp,.inl h.symm⟩
    ·exact .inr ⟨e,by simp,hp,.inr h⟩
   ·rw [if_neg hp] at h; exact .inl h
  ·exact .inr ⟨e',by simp [h1],h2⟩
def befStep (acc:Array Nat) (o:Oper):Array Nat:=acc.push (o.after.foldl (fun s e => if Region.binds .any e then s ||| 2 ^ e.on ||| acc.getD e.on 0 else s) 0)
theorem before_eq (ops:Array Oper):Region.before ops=ops.toList.foldl befStep #[]:=by
 unfold Region.before
 rw [← Array.foldl_toList]
 rfl
theorem befStep_size (acc:Array Nat) (o:Oper):(befStep acc o).size=acc.size + 1:=by simp [befStep]
theorem bef_keep : ∀ (l:List Oper) (acc:Array Nat) (i:Nat),i < acc.size→(l.foldl befStep acc).getD i 0=acc.getD i 0
 | [],acc,i,h => rfl
 | o :: l,acc,i,h => by
  rw [List.foldl_cons,bef_keep l _ i (by rw [befStep_size]; omega)]
  simp only [befStep,Array.getD_eq_getD_getElem?]
  rw [Array.getElem?_push,if_neg (by omega)]
theorem bef_spec : ∀ (l:List Oper) (acc:Array Nat) (i r:Nat),acc.size≤i→((l.foldl befStep acc).getD i 0).testBit r=true →
 ∃ o,l[i - acc.size]? = some o∧∃ e∈o.after.toList,Region.binds .any e=true∧(r=e.on∨(e.on < i∧((l.foldl befStep acc).getD e.on 0).testBit r=true))
 | [],acc,i,r,h,hb => by
  simp only [List.foldl_nil,Array.getD_eq_getD_getElem?] at hb
  rw [Array.getElem?_eq_none h] at hb
  simp at hb
 | o :: l, acc, i, r, h, hb => by
  rw [List.foldl_cons] at hb ⊢
  by_cases hi:i=acc.size
  ·subst hi
   have hk:=bef_keep l (befStep acc o) acc.size (by rw [befStep_size]; omega)
   rw [hk] at hb
   have hv:(befStep acc o).getD acc.size 0=o.after.foldl (fun s e => if Region.binds .any e then s ||| 2 ^ e.on ||| acc.getD e.on 0 else s) 0:=by
    simp [befStep,Array.getD_eq_getD_getElem?]
   rw [hv,← Array.foldl_toList] at hb
   rcases inner_bits (fun e => Region.binds .any e) (fun e => e.on) (fun e => acc.getD e.on 0) _ _ _ hb with h0 | ⟨e,h1,h2,h3⟩
   ·simp at h0
   ·refine ⟨o,by simp,e,h1,h2,h3.imp id fun h3 => ?_⟩
    have hlt:e.on < acc.size:=by
     rcases Nat.lt_or_ge e.on acc.size with hh | hh
     ·exact hh
     ·rw [Array.getD_eq_getD_getElem?,Array.getElem?_eq_none hh] at h3
      simp at h3
    refine ⟨hlt,?_⟩
    rw [bef_keep l _ _ (by rw [befStep_size]; omega)]
    simp only [befStep,Array.getD_eq_getD_getElem?]
    rw [Array.getElem?_push,if_neg (by omega),← Array.getD_eq_getD_getElem?]
    exact h3
  ·obtain ⟨o',h1,h2⟩:=bef_spec l (befStep acc o) i r (by rw [befStep_size]; omega) hb
   refine ⟨o',?_,h2⟩
   rw [befStep_size] at h1
   have:i - acc.size=(i - (acc.size + 1)) + 1:=by omega
   rw [this,List.getElem?_cons_succ]; exact h1
theorem before_spec {ops:Array Oper} {i r:Nat} (h:((Region.before ops).getD i 0).testBit r=true) :
 ∃ o,ops[i]? = some o∧∃ e∈o.after.toList,Region.binds .any e=true∧(r=e.on∨(e.on < i∧((Region.before ops).getD e.on 0).testBit r=true)):=by
 rw [before_eq] at h ⊢
 obtain ⟨o,h1,h2⟩:=bef_spec ops.toList #[] i r (by simp) h
 exact ⟨o,by simpa using h1,h2⟩
def Closed (ops:Array Oper) (S:Nat→Prop):Prop := ∀ i o,S i→ops[i]? = some o→∀ e∈o.after.toList,Region.binds .any e=true→S e.on
theorem closed_before {ops:Array Oper} {S:Nat→Prop} (hS:Closed ops S) {j:Nat} : ∀ (n i:Nat),i≤n→(∀ o,ops[i]? = some o→∀ e∈o.after.toList,Region.binds .any e=true→S e.on)→((Region.before ops).getD i 0).testBit j=true→S j
 | n, i, hn, hi, h => by
  obtain ⟨o,ho,e,he,hb,h3⟩:=before_spec h
  have hs:=hi o ho e he hb
  rcases h3 with rfl | ⟨hlt,h3⟩
  ·exact hs
  ·cases n with
   | zero => omega
   | succ n => exact closed_before hS n e.on (by omega) (fun o' ho' => hS e.on o' hs ho') h3
theorem mem_ready {md:Region.Mode} {ops:Array Oper} {listed:Array Bool} {i:Nat}:i∈Region.ready md ops listed↔i < ops.size∧listed.getD i true=false∧∃ o,ops[i]? = some o∧∀ e∈o.after.toList,Region.binds md e=true→listed.getD e.on false=true:=by
 unfold Region.ready
 simp only [List.mem_filter,List.mem_range,Bool.and_eq_true,Bool.not_eq_true']
 constructor
 ·rintro ⟨h1,h2,h3⟩
  refine ⟨h1,h2,?_⟩
  cases ho:ops[i]? with
  | none => rw [ho] at h3; simp at h3
  | some o =>
   refine ⟨o,rfl,fun e he hb => ?_⟩
   rw [ho] at h3
   simp only [Option.map_some,Option.getD_some] at h3
   have:=Array.all_eq_true_iff_forall_mem.1 h3 e (Array.mem_toList_iff.1 he)
   simpa [hb] using this
 ·rintro ⟨h1,h2,o,ho,h3⟩
  refine ⟨h1,h2,?_⟩
  rw [ho]
  simp only [Option.map_some,Option.getD_some]
  refine Array.all_eq_true_iff_forall_mem.2 fun e he => ?_
  by_cases hb:Region.binds md e=true
  ·simp [hb,h3 e (Array.mem_toList_iff.2 he) hb]
  ·simp [hb]
theorem draw_any {P:Program} {C:Ctx} {ro:Option Nat} {fu:Nat} {rf:RF} (RS:RFSound P C.G rf) (hrc:C.rc=rcOf P) {ops:Array Oper} {L:List LOper} (hL:OpsOf P ops C.N L) (hback:backEdges ops=true) {base:Nat} {rd wr:Nat→List Nat}
 (hI : ∀ i j,i < j→j < ops.size→((Region.before ops).getD j 0).testBit i=false→∀ x y,L[i]? = some x→L[j]? = some y→Ind x y (rd i) (wr i) (rd j) (wr j))
 {F:St} {Q:Exit→Act→World→Prop} {m:Nat} (hm:m≤base) : ∀ (n:Nat) (R:List Nat) (listed:Array Bool) (s:St) (σ:Nat→Option Loc) (a:Act) (w:World),R.length=n→R.Pairwise (· < ·)→(∀ i∈R,i < ops.size∧base + i < s.nx)→listed.size=ops.size →
 (∀ i,i < ops.size→(listed.getD i false=true↔i ∉ R))→Closed ops (fun i => listed.getD i false=true)→Run C.G rf L base rd wr R s F→Rel C σ s a w→(∀ i∈R,σ (base + i)=none)→Fresh σ s.nx →
 (∀ σ' a' w',Rel C σ' F a' w'→(∀ b,b < m→σ' b=σ b)→Fresh σ' F.nx→Q .normal a' w')→wpAnyIn (FW ro) fu P .any ops Q n listed a w
 | n, [], listed, s, σ, a, w, hn, hp, hlt, hsz, hls, hcl, hr, R, hσ, hF, hK => by
  have hq:Q .normal a w:=by
   cases hr with
   | nil h => exact hK σ a w (R.eqv h) (fun _ _ => rfl) ⟨fun b hb => hF.hi b (by rw [h.2.2]; exact hb)⟩
  have hrd:Region.ready .any ops listed=[]:=by
   apply List.eq_nil_iff_forall_not_mem.2
   intro i hi
   obtain ⟨h1,h2,_⟩:=mem_ready.1 hi
   have:=(hls i h1).2 (by simp)
   have h3:i < listed.size:=by omega
   simp [Array.getD,h3] at this h2
   rw [this] at h2; cases h2
  subst hn
  exact ⟨hrd,hq⟩
 | 0,i :: R,listed,s,σ,a,w,hn,_,_,_,_,_,_,_,_,_,_ => by simp at hn
 | n + 1, i0 :: R0, listed, s, σ, a, w, hn, hp, hlt, hsz, hls, hcl, hr, R, hσ, hF, hK => by
  have hgd : ∀ i,i < ops.size→listed.getD i true=listed.getD i false:=fun i h => by
   have h3:i < listed.size:=by omega
   simp [Array.getD,h3]
  constructor
  ·intro hemp
   exfalso
   have h0:=hlt i0 (by simp)
   have:i0∈Region.ready .any ops listed:=by
    refine mem_ready.2 ⟨h0.1,?_,ops[i0],by simp [h0.1],fun e he hb => ?_⟩
    ·rw [hgd i0 h0.1]
     cases hh:listed.getD i0 false with
     | false => rfl
     | true => exact absurd ((hls i0 h0.1).1 hh) (by simp)
    ·have hlt2:e.on < i0:=by
      have:=hback
      unfold backEdges at this
      rw [List.all_eq_true] at this
      have h1:=this (ops[i0],i0) (by rw [List.mem_zipIdx_iff_getElem?]; simp [h0.1])
      simp only at h1
      have:=Array.all_eq_true_iff_forall_mem.1 h1 e (Array.mem_toList_iff.1 he)
      simpa [hb] using this
     refine (hls e.on (by omega)).2 fun hmem => ?_
     rcases List.mem_cons.1 hmem with h | h
     ·omega
     ·have:=(List.pairwise_cons.1 hp).1 _ h; omega
   rw [hemp] at this; cases this
  ·intro i hi
   obtain ⟨hi1,hi2,o,ho,ho2⟩:=mem_ready.1 hi
   have hiR:i∈i0 :: R0:=by
    rw [hgd i hi1] at hi2
    by_cases h:i∈i0 :: R0
    ·exact h
    ·have:=(hls i hi1).2 h
     rw [this] at hi2; cases hi2
   obtain ⟨pre,post,hsplit⟩:=List.append_of_mem hiR
   rw [hsplit] at hr hp
   have hpre : ∀ j∈pre,j < i:=fun j hj => (List.pairwise_append.1 hp).2.2 j hj i (by simp)
   have hnot : ∀ j∈pre,((Region.before ops).getD i 0).testBit j=false:=by
    intro j hj
    cases hb:((Region.before ops).getD i 0).testBit j with
    | false => rfl
    | true =>
     have hs:=closed_before hcl i i (Nat.le_refl _) (fun o' ho' => by rw [ho] at ho'; injection ho' with ho'; subst ho'; exact ho2) hb
     have hjs:j < ops.size:=by have:=hpre j hj; omega
     exact absurd (by rw [hsplit]; simp [hj]) ((hls j hjs).1 hs)
   have hr2:=hr.front fun j hj x y hx hy => hI j i (hpre j hj) hi1 (hnot j hj) x y hx hy
   cases hr2 with
   | cons hlo hco hrd hwr hr3 =>
    rename_i lo p
    obtain ⟨hlen,hget⟩:=hL
    obtain ⟨lo0,lo',hlo',hcomp,hvo⟩:=hget i o ho
    rw [hlo] at hlo'
    injection hlo' with hlo'; subst hlo'
    have hnd : ∀ j∈pre ++ post,j∈i0 :: R0∧j≠i:=by
     intro j hj
     refine ⟨by rw [hsplit]; rcases List.mem_append.1 hj with h | h <;> simp [h],?_⟩
     rcases List.mem_append.1 hj with h | h
     ·exact Nat.ne_of_lt (hpre j h)
     ·have:=(List.pairwise_cons.1 (List.pairwise_append.1 hp).2.1).1 j h
      exact Nat.ne_of_gt this
    refine step_sound RS hrc (nm:=base + i) ho hcomp hvo R (hσ i hiR) (hlt i hiR).2 hF.hi hco fun σ' a' w' R' s1 s2 s3 => ?_
    refine draw_any RS hrc ⟨hlen,hget⟩ hback hI hm n (pre ++ post) _ _ σ' a' w' ?_ ?_ (fun j hj => ?_) (by simpa using hsz) (fun j hj => ?_) ?_ hr3 R' (fun j hj => ?_) ⟨s3⟩ fun σ2 a2 w2 q1 q2 q3 => hK σ2 a2 w2 q1 (fun b hb => ?_) q3
    ·have:=congrArg List.length hsplit
     simp at this hn ⊢; omega
    ·have h1:=List.pairwise_append.1 hp
     refine List.pairwise_append.2 ⟨h1.1,(List.pairwise_cons.1 h1.2.1).2,fun x hx y hy => h1.2.2 x hx y (by simp [hy])⟩
    ·have:=hlt j (hnd j hj).1
     exact ⟨this.1,by show base + j < s.nx + p.2.2; omega⟩
    ·by_cases hji:j=i
     ·subst hji
      have h3:j < listed.size:=by omega
      simp only [Array.getD_eq_getD_getElem?]
      rw [Array.getElem?_setIfInBounds,if_pos rfl,if_pos h3]
      simp only [Option.getD_some]
      exact ⟨fun _ hm => (hnd j hm).2 rfl,fun _ => trivial⟩
     ·simp only [Array.getD_eq_getD_getElem?]
      rw [Array.getElem?_setIfInBounds_ne (Ne.symm hji),← Array.getD_eq_getD_getElem?,hls j hj,hsplit]
      simp only [List.mem_append,List.mem_cons]
      constructor
      ·intro h h'; exact h (h'.imp id .inr)
      ·intro h h'
       rcases h' with h' | h' | h'
       ·exact h (.inl h')
       ·exact hji h'
       ·exact h (.inr h')
    ·intro j o' hj ho' e he hb
     have key : ∀ k,listed.getD k false=true→(listed.setIfInBounds i true).getD k false=true:=by
      intro k hk
      simp only [Array.getD_eq_getD_getElem?] at hk ⊢
      rw [Array.getElem?_setIfInBounds]
      split
      ·rename_i hik
       subst hik
       rw [if_pos (by omega)]; rfl
      ·exact hk
     by_cases hji:j=i
     ·subst hji
      rw [ho] at ho'
      injection ho' with ho'; subst ho'
      exact key _ (ho2 e he hb)
     ·have hj':listed.getD j false=true:=by
       have hj2:=hj
       simp only [Array.getD_eq_getD_getElem?] at hj2 ⊢
       rwa [Array.getElem?_setIfInBounds_ne (Ne.symm hji)] at hj2
      exact key _ (hcl j o' hj' ho' e he hb)
    ·have h1:=hnd j hj
     rw [s2 _ (by omega) (hlt j h1.1).2]
     exact hσ j h1.1
    ·rw [q2 b hb,s2 b (by omega) (by have:=(hlt i hiR).2; omega)]
theorem Run.ext {G:Nat→Option (List FV)} {rf:RF} {L:List LOper} {base:Nat} {rd wr rd' wr':Nat→List Nat} {R:List Nat} {s F:St} (h:Run G rf L base rd wr R s F):(∀ i∈R,rd i=rd' i∧wr i=wr' i)→Run G rf L base rd' wr' R s F:=by
 induction h with
 | nil h => exact fun _ => .nil h
 | cons hl hc hr hw _ ih =>
  intro he
  have:=he _ (List.mem_cons_self ..)
  exact .cons hl hc (hr.trans this.1) (hw.trans this.2) (ih fun i hi => he i (by simp [hi]))
structure Foot (lo:LOper) (nm:Nat) (rd wr:List Nat) (pr:Bool) (foot:List Nat):Prop where
 pure:lo.op.isHeap=false→rd=[]∧wr=[]
 ro:lo.op.ro=true→wr=[]
 mko:lo.op.mkOnly=true→rd=[]∧∀ b∈wr,b=nm
 rd:pr=true→∀ b∈rd,b∈foot
 wr:pr=true→∀ b∈wr,b∈foot
theorem drawOps_run {G : Nat → Option (List FV)} {rf : RF} {L : List LOper} {base : Nat} {prs : List (Nat × Nat)} : ∀ (n k : Nat) (st F : St) (fs : List (Nat × List Nat)), k + n = L.length → drawOps G rf prs (L.drop k) k (base + k) st = some (F, fs) →
 ∃ rd wr,Run G rf L base rd wr (List.range' k n) st F∧∀ i,k≤i→i < k + n→∃ lo,L[i]? = some lo∧Foot lo (base + i) (rd i) (wr i) (prs.any fun p => p.1 == i || p.2 == i) (footOf fs i)
 | 0,k,st,F,fs,hk,e => by
  have:L.drop k=[]:=List.drop_eq_nil_of_le (by omega)
  rw [this] at e
  simp only [drawOps] at e
  injection e with e; injection e with e1 e2; subst e1; subst e2
  exact ⟨fun _ => [],fun _ => [],.nil (Eqv.refl _),fun i h1 h2 => by omega⟩
 | n + 1, k, st, F, fs, hk, e => by
  have hkl:k < L.length:=by omega
  have hd:L.drop k=L[k] :: L.drop (k + 1):=List.drop_eq_getElem_cons hkl
  rw [hd] at e
  simp only [drawOps] at e
  split at e
  ·rename_i p hco
   split at e
   ·rename_i F' fs' hrec
    injection e with e; injection e with e1 e2; subst e1
    obtain ⟨rd,wr,hr,hf⟩:=drawOps_run n (k + 1) _ F' fs' (by omega) hrec
    refine ⟨fun j => if j=k then rdS G L[k] (base + k) st else rd j,fun j => if j=k then wrS G L[k] (base + k) st p.2.2 else wr j,?_,fun i h1 h2 => ?_⟩
    ·rw [List.range'_succ]
     refine .cons (List.getElem?_eq_getElem hkl) hco (by simp) (by simp) (hr.ext fun i hi => ?_)
     have:k + 1≤i:=(List.mem_range'_1.1 hi).1
     simp [show i≠k by omega]
    ·by_cases hik:i=k
     ·subst hik
      refine ⟨L[i],List.getElem?_eq_getElem hkl,?_⟩
      simp only [if_pos]
      refine ⟨fun h => ?_,fun h => ?_,fun h => ?_,fun h b hb => ?_,fun h b hb => ?_⟩
      ·simp [rdS,wrS,h]
      ·simp [wrS,h]
      ·refine ⟨by simp [rdS,h],fun b hb => ?_⟩
       have h0:L[i].op.isCall=false:=by
        cases hop:L[i].op <;> rw [hop] at h <;> first | rfl | cases h
       have:=(coreOp_keys hco).2 h0
       unfold wrS at hb
       rw [this] at hb
       split at hb
       ·cases hop:L[i].op <;> rw [hop] at h hb <;> first | (cases h; done) | (simpa [touch] using hb)
       ·cases hb
      ·rw [← e2,if_pos h]
       simp only [footOf,if_pos]
       unfold rdS at hb
       split at hb
       ·exact List.mem_append.2 (.inl hb)
       ·cases hb
      ·rw [← e2,if_pos h]
       simp only [footOf,if_pos]
       unfold wrS at hb
       split at hb
       ·exact hb
       ·cases hb
     ·obtain ⟨lo,h3,h4⟩:=hf i (by omega) (by omega)
      refine ⟨lo,h3,?_⟩
      have hfo:footOf fs i=footOf fs' i:=by
       rw [← e2]
       split
       ·simp only [footOf]; rw [if_neg (fun h => hik h.symm)]
       ·rfl
      simp only [if_neg hik,hfo]
      exact h4
   ·cases e
  ·cases e
theorem disj_spec {a b:List Nat} (h:disj a b=true) : ∀ x∈a,x ∉ b:=by
 intro x hx hb
 unfold disj at h
 have:=List.all_eq_true.1 h x hx
 simp at this
 exact this hb
theorem LOper.apart_spec {x y:LOper} (h:x.apart y=true):(∀ d,x.dst=some d→d ∉ y.uses)∧(∀ d,x.dst=some d→y.dst≠some d)∧(∀ d,y.dst=some d→d ∉ x.uses):=by
 refine ⟨fun d hd => ?_,fun d hd => ?_,fun d hd => ?_⟩ <;> simp [LOper.apart,hd] at h
 ·exact h.1.1
 ·exact h.1.2
 ·exact h.2
theorem region_any_sound {P : Program} {C : Ctx} {ro : Option Nat} {fu : Nat} {rf : RF} (hmix : P.follows .mixedOrders = true) (RS : RFSound P C.G rf) (hrc : C.rc = rcOf P) {ops : Array Oper} {L : List LOper} (hL : OpsOf P ops C.N L) (hok : ((openPairs ops).all (pairOk ops L (heedPairs ops L)) && backEdges ops) = true)
 {Q:Exit→Act→World→Prop} {m:Nat} {st st':St} {σ:Nat→Option Loc} {a:Act} {w:World} (e:runDraw C.G rf L (heedPairs ops L) st=some st') (R:Rel C σ st a w) (hm:m≤st.nx) (hF:Fresh σ st.nx) {id:Nat}
 (hK : ∀ σ' a' w',Rel C σ' st' a' w'→(∀ b,b < m→σ' b=σ b)→Fresh σ' st'.nx→Q .normal a' w'):(Code.region id ops true).wpIn (FW ro) fu P Q a w:=by
 simp only [Bool.and_eq_true] at hok
 obtain ⟨hall,hback⟩:=hok
 have hs:L.length=ops.size:=hL.1
 refine wpIn_region_any hmix ?_
 unfold runDraw at e
 split at e
 ·rename_i s fs hrun
  split at e
  ·rename_i hdis
   injection e with e; subst e
   obtain ⟨rd,wr,hr,hf⟩:=drawOps_run (L:=L) (base:=st.nx) L.length 0 _ s fs (by omega) (by simpa using hrun)
   rw [hs] at hr hf
   have R2:Rel C σ { st with nx:=st.nx + L.length } a { w with drawn:=w.drawn + 1 }:=by
    have Rh:=R.heap.drewn (w':={ w with drawn:=w.drawn + 1 }) rfl rfl rfl rfl
    refine HRel.rel (st:={ st with nx:=st.nx + L.length }) Rh (fun t => ?_) (by have h:=frz_heap (hp:=hk st.hp) (σ:=σ) (X:=C.X) (w:=w) (w':={ w with drawn:=w.drawn + 1 }) rfl; show DfOk C (frz (hk st.hp) σ C.X { w with drawn:=w.drawn + 1 }) a; rw [h]; exact R.df) R.tz
    have h:=frz_heap (hp:=hk st.hp) (σ:=σ) (X:=C.X) (w:=w) (w':={ w with drawn:=w.drawn + 1 }) rfl
    show VR σ (frz (hk st.hp) σ C.X { w with drawn:=w.drawn + 1 }) (lk st.sl t) (a.tmps.getD t undef)
    rw [h]; exact R.sl t
   rw [hs] at R2
   refine draw_any RS hrc hL hback (base:=st.nx) (rd:=rd) (wr:=wr) (F:=s) (m:=m) (fun i j hij hj hb x y hx hy => ?_) hm ops.size (List.range' 0 ops.size) _ _ σ a _ (by simp) List.pairwise_lt_range' (fun i hi => ?_) (by simp) (fun i hi => ?_) (fun i o h => ?_) hr R2 (fun i _ => hF.hi _ (by omega)) ⟨fun b hb => hF.hi b (by have:st.nx + ops.size≤b:=hb; omega)⟩ hK
   ·have hop : (i, j) ∈ openPairs ops := by
     unfold openPairs
     simp only [List.mem_flatMap,List.mem_range,List.mem_map,List.mem_filter,Bool.not_eq_true']
     exact ⟨j,hj,i,⟨hij,hb⟩,rfl⟩
    have hpo:=List.all_eq_true.1 hall _ hop
    unfold pairOk at hpo
    rw [hx,hy] at hpo
    simp only at hpo
    split at hpo
    ·rename_i x' y' a' b' _ _ ha' hb'
     injection ha' with ha'; subst ha'
     injection hb' with hb'; subst hb'
     simp only [Bool.and_eq_true,Bool.not_eq_true',Bool.or_eq_true] at hpo
     obtain ⟨⟨hap,hnc⟩,hhd⟩:=hpo
     obtain ⟨a1,a2,a3⟩:=LOper.apart_spec hap
     obtain ⟨x',hx',fx⟩:=hf i (by omega) (by omega)
     obtain ⟨y',hy',fy⟩:=hf j (by omega) (by omega)
     rw [hx] at hx'
     injection hx' with hx'; subst hx'
     rw [hy] at hy'
     injection hy' with hy'; subst hy'
     have hmem : (∀ b ∈ wr i, b ∉ rd j) ∧ (∀ b ∈ wr i, b ∉ wr j) ∧ (∀ b ∈ wr j, b ∉ rd i) := by
      rcases hhd with hhd | hhd
      ·unfold heedful at hhd
       by_cases p1:x.op.isHeap=true
       ·by_cases p2:y.op.isHeap=true
        ·by_cases p3:x.op.ro=true∧y.op.ro=true
         ·rw [fx.ro p3.1,fy.ro p3.2]; simp
         ·have p4:x.op.mkOnly=true∧y.op.mkOnly=true:=by
           revert hhd p3
           simp only [p1,p2]
           cases x.op.ro <;> cases y.op.ro <;> cases x.op.mkOnly <;> cases y.op.mkOnly <;> simp
          obtain ⟨m1,m2⟩:=fx.mko p4.1
          obtain ⟨m3,m4⟩:=fy.mko p4.2
          rw [m1,m3]
          refine ⟨by simp,fun b hb1 hb2 => ?_,by simp⟩
          have:=m2 b hb1
          have:=m4 b hb2
          omega
        ·have:=fy.pure (by simpa using p2)
         rw [this.1,this.2]; simp
       ·have:=fx.pure (by simpa using p1)
        rw [this.1,this.2]; simp
      ·have hin:(i,j)∈heedPairs ops L:=by simpa using hhd
       have hd:=disj_spec (List.all_eq_true.1 hdis _ hin)
       have hi':((heedPairs ops L).any fun p => p.1 == i || p.2 == i)=true:=List.any_eq_true.2 ⟨(i,j),hin,by simp⟩
       have hj':((heedPairs ops L).any fun p => p.1 == j || p.2 == j)=true:=List.any_eq_true.2 ⟨(i,j),hin,by simp⟩
       exact ⟨fun b h1 h2 => hd b (fx.wr hi' b h1) (fy.rd hj' b h2),fun b h1 h2 => hd b (fx.wr hi' b h1) (fy.wr hj' b h2),fun b h1 h2 => hd b (fx.rd hi' b h2) (fy.wr hj' b h1)⟩
     exact ⟨a1,a2,a3,fun h => by rw [h.1,h.2] at hnc; simp at hnc,hmem.1,hmem.2.1,hmem.2.2⟩
    ·cases hpo
   ·have:=(List.mem_range'_1.1 hi).2
    exact ⟨by omega,by show st.nx + i < st.nx + ops.size; omega⟩
   ·constructor
    ·intro h
     simp [Array.getD_eq_getD_getElem?,Array.getElem?_replicate,hi] at h
    ·intro h; exact absurd (List.mem_range'_1.2 ⟨by omega,by omega⟩) h
   ·have h':(Array.replicate ops.size false).getD i false=true:=h
    simp only [Array.getD_eq_getD_getElem?,Array.getElem?_replicate] at h'
    split at h' <;> simp at h'
  ·cases e
 ·cases e
end Go.Vai
