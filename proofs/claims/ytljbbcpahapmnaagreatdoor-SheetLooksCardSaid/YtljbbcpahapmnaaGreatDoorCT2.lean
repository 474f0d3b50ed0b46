/-
  What functions of layer 9 and of its reference compute: equations of the abstract run, and plain laws of them.
-/
import Derived.Test.YtljbbcpahapmnaaGreatDoorCT1
import Derived.Test.YtljbbcpahapmnaaGreatDoorCL9
set_option linter.unusedVariables false
set_option linter.unusedSimpArgs false
set_option linter.unnecessarySimpa false
set_option linter.unusedSectionVars false
namespace Go.Vai
theorem span_allH (p:UInt8→Bool) : ∀ l:List UInt8,∀ b∈l.take (spanG p l),p b=true
 | [],b,h => by simp at h
 | c :: r, b, h => by
  unfold spanG at h
  split at h
  ·rename_i hc
   rw [List.take_succ_cons] at h
   rcases List.mem_cons.1 h with rfl | h
   ·exact hc
   ·exact span_allH p r b h
  ·simp at h
theorem valG_dig (l:List UInt8) (h : ∀ b∈l,isD b=true):valG l < 10 ^ l.length:=by
 have key : ∀ (l:List UInt8) (a n:Nat),(∀ b∈l,isD b=true)→a < 10 ^ n→l.foldl (fun a b => 10 * a + (b.toNat - 48)) a < 10 ^ (n + l.length):=by
  intro l
  induction l with
  | nil => intro a n _ ha; exact ha
  | cons b r ih =>
   intro a n hb ha
   have h1:=hb b (by simp)
   unfold isD at h1
   simp only [Bool.and_eq_true,decide_eq_true_eq] at h1
   have:=ih (10 * a + (b.toNat - 48)) (n + 1) (fun c hc => hb c (by simp [hc])) (by rw [Nat.pow_succ]; omega)
   rw [List.foldl_cons,List.length_cons,show n + (r.length + 1)=n + 1 + r.length by omega]
   exact this
 have:=key l 0 0 h (by omega)
 rw [Nat.zero_add] at this
 exact this
def hTok:Tok→Prop
 | .plc r c => plB r c=true
 | .num n => 0≤n∧n≤999999999
 | _ => True
def hToks (ts:List Tok):Prop := ∀ t∈ts,hTok t
def hNd:Nd→Prop
 | .mk k n t a b c d l => (0≤n∧n≤999999999)∧(k=3→plB a b=true∧l=[])∧(k=4→(plB a b=true∧plB c d=true)∧l=[])∧(k=5→(l.length=1∧t=[45])∨l.length=2)∧hNds l
where hNds:List Nd→Prop
 | [] => True
 | n :: r => hNd n∧hNds r
theorem nextG_h {l:List UInt8} {t:Tok} {n:Nat} (h:nextG l=some (t,n)):hTok t:=by
 cases l with
 | nil => cases h
 | cons c r =>
  simp only [nextG] at h
  split at h
  ·split at h
   ·cases h
   ·rename_i hsp
    injection h with h; injection h with h1 h2; subst h1
    have h3:=valG_dig ((c :: r).take (spanG isD (c :: r))) (span_allH isD (c :: r))
    have hl:((c :: r).take (spanG isD (c :: r))).length≤9:=by rw [List.length_take]; omega
    have h4:10 ^ ((c :: r).take (spanG isD (c :: r))).length≤10 ^ 9:=Nat.pow_le_pow_right (by omega) hl
    show 0≤(valG _:Int)∧(valG _:Int)≤999999999
    omega
  ·split at h
   ·unfold wordG at h
    split at h
    ·injection h with h; injection h with h1 h2; subst h1; trivial
    ·split at h
     ·cases h
     ·rename_i hh
      injection h with h; injection h with h1 h2; subst h1
      refine placeI_v ?_
      by_cases e:(placeI ((c :: r).take (spanG isL (c :: r) + spanG isD ((c :: r).drop (spanG isL (c :: r)))))).2=true
      ·exact e
      ·exact absurd (.inr e) hh
   ·split at h
    ·obtain ⟨p,h1,h2⟩:=Option.map_eq_some_iff.1 h
     injection h2 with h2 h3
     subst h2; trivial
    ·obtain ⟨s,h1,h2⟩:=Option.map_eq_some_iff.1 h
     injection h2 with h2 h3
     subst h2; trivial
theorem toksG_h : ∀ (n:Nat) (l:List UInt8),l.length≤n→∀ ts,toksG l=some ts→hToks ts
 | 0,l,h,ts,e => by
  have:l=[]:=List.length_eq_zero_iff.1 (by omega)
  subst this
  simp [toksG,toksF,trimG] at e
  subst e; intro t ht; cases ht
 | n + 1, l, h, ts, e => by
  rw [← toksG_trim] at e
  have ht:=trimG_len l
  have htt:=trimG_trim l
  generalize trimG l=u at *
  cases u with
  | nil =>
   simp [toksG,toksF,trimG] at e
   subst e; intro t ht; cases ht
  | cons c r =>
   rw [toksG_cons htt] at e
   cases hn:nextG (c :: r) with
   | none => rw [hn] at e; cases e
   | some p =>
    obtain ⟨t,k⟩:=p
    rw [hn] at e
    simp only at e
    obtain ⟨ts',h1,rfl⟩:=Option.map_eq_some_iff.1 e
    have hp:=nextG_pos hn
    have ho:=nextG_h hn
    have:=toksG_h n ((c :: r).drop k) (by rw [List.length_drop]; simp at *; omega) ts' h1
    intro x hx
    rcases List.mem_cons.1 hx with rfl | hx
    ·exact ho
    ·exact this x hx
theorem hToks_tail {t:Tok} {r:List Tok} (h:hToks (t :: r)):hToks r:=fun x hx => h x (by simp [hx])
theorem takeS_h {sg:List (List UInt8)} {ts:List Tok} {s:List UInt8} {r:List Tok} (h:takeS sg ts=some (s,r)):hToks ts→hToks r:=by
 unfold takeS at h
 split at h
 ·split at h
  ·injection h with h; injection h with h1 h2; subst h1; subst h2
   exact hToks_tail
  ·cases h
 ·cases h
def PartH (part:List Tok→Rd):Prop := ∀ ts n ts',part ts=some (n,ts')→hToks ts→hNd n∧hToks ts'
theorem op2_h {s:List UInt8} {a b:Nd} (ha:hNd a) (hb:hNd b):hNd (op2 s a b):=by
 unfold op2 hNd
 exact ⟨by omega,fun h => absurd h (by decide),fun h => absurd h (by decide),fun _ => .inr rfl,ha,hb,trivial⟩
theorem pRow_h {part:List Tok→Rd} {sg:List (List UInt8)} (hp:PartH part) : ∀ (j:Nat) (n:Nd) (ts:List Tok) (n':Nd) (ts':List Tok),pRow part sg j n ts=some (n',ts')→hNd n→hToks ts→hNd n'∧hToks ts'
 | 0,n,ts,n',ts',h,a,b => by simp [pRow] at h; rw [← h.1,← h.2]; exact ⟨a,b⟩
 | j + 1, n, ts, n', ts', h, a, b => by
  rw [pRow] at h
  split at h
  ·simp at h; rw [← h.1,← h.2]; exact ⟨a,b⟩
  ·rename_i s r hs
   have h1:=takeS_h hs
   split at h
   ·cases h
   ·rename_i b' ts2 hb
    have h2:=hp _ _ _ hb (h1 b)
    exact pRow_h hp j _ _ _ _ h (op2_h a h2.1) h2.2
theorem hNds_app : ∀ (l:List Nd) (n:Nd),hNd.hNds l→hNd n→hNd.hNds (l ++ [n])
 | [],n,_,h => ⟨h,trivial⟩
 | a :: r,n,h1,h => ⟨h1.1,hNds_app r n h1.2 h⟩
theorem pArg_h {part:List Tok→Rd} (hp:PartH part) : ∀ (j:Nat) (ns:List Nd) (ts:List Tok) (ns':List Nd) (ts':List Tok),pArg part j ns ts=some (ns',ts')→hNd.hNds ns→hToks ts→hNd.hNds ns'∧hToks ts'
 | 0,ns,ts,ns',ts',h,_,_ => by simp [pArg] at h
 | j + 1, ns, ts, ns', ts', h, a, b => by
  rw [pArg] at h
  split at h
  ·cases h
  ·rename_i x ts2 hx
   have h2:=hp _ _ _ hx b
   have h4:=hNds_app ns x a h2.1
   split at h
   ·rename_i s r hs
    exact pArg_h hp j _ _ _ _ h h4 (takeS_h hs h2.2)
   ·simp at h
    rw [← h.1,← h.2]
    exact ⟨h4,h2.2⟩
theorem pr_h : ∀ (k : Nat) (K : PK) (d : Nat), PartH (pr k K d)
 | 0,_,_ => fun _ _ _ h => by simp [pr] at h
 | k + 1, .form, d => fun ts n ts' h b => by
  simp only [pr] at h
  split at h
  ·cases h
  ·rename_i n1 ts1 h1
   have h2:=pr_h k _ _ _ _ _ h1 b
   exact pRow_h (pr_h k .join d) _ _ _ _ _ h h2.1 h2.2
 | k + 1, .join, d => fun ts n ts' h b => by
  simp only [pr] at h
  split at h
  ·cases h
  ·rename_i n1 ts1 h1
   have h2:=pr_h k _ _ _ _ _ h1 b
   exact pRow_h (pr_h k .sum d) _ _ _ _ _ h h2.1 h2.2
 | k + 1, .sum, d => fun ts n ts' h b => by
  simp only [pr] at h
  split at h
  ·cases h
  ·rename_i n1 ts1 h1
   have h2:=pr_h k _ _ _ _ _ h1 b
   exact pRow_h (pr_h k .prod d) _ _ _ _ _ h h2.1 h2.2
 | k + 1, .prod, d => fun ts n ts' h b => by
  simp only [pr] at h
  split at h
  ·cases h
  ·rename_i n1 ts1 h1
   have h2:=pr_h k _ _ _ _ _ h1 b
   exact pRow_h (pr_h k .minus d) _ _ _ _ _ h h2.1 h2.2
 | k + 1, .minus, d => fun ts n ts' h b => by
  simp only [pr] at h
  split at h
  ·rename_i s r hs
   have h0:=takeS_h hs
   split at h
   ·cases h
   ·obtain ⟨p,h1,h2⟩:=Option.map_eq_some_iff.1 h
    injection h2 with h2 h3
    have h4:=pr_h k .minus (d + 1) _ _ _ (show pr k .minus (d + 1) r=some (p.1,p.2) from h1) (h0 b)
    rw [← h2,← h3]
    exact ⟨⟨by omega,fun h => absurd h (by decide),fun h => absurd h (by decide),fun _ => .inl ⟨rfl,rfl⟩,h4.1,trivial⟩,h4.2⟩
  ·exact pr_h k .single d _ _ _ h b
 | k + 1, .single, d => fun ts n ts' h b => by
  simp only [pr] at h
  split at h
  ·rename_i s r hs
   have h0:=takeS_h hs
   split at h
   ·cases h
   ·split at h
    ·cases h
    ·rename_i n1 ts1 h1
     have h2:=pr_h k _ _ _ _ _ h1 (h0 b)
     obtain ⟨p,h3,h4⟩:=Option.map_eq_some_iff.1 h
     have h5:=takeS_h (show takeS [[41]] ts1=some (p.1,p.2) from h3)
     injection h4 with h4 h6
     rw [← h4,← h6]
     exact ⟨h2.1,h5 h2.2⟩
  ·split at h
   ·cases h
   ·injection h with h; injection h with h h'; subst h; subst h'
    exact ⟨⟨b _ (List.mem_cons_self ..),fun h => absurd h (by decide),fun h => absurd h (by decide),fun h => absurd h (by decide),trivial⟩,hToks_tail b⟩
   ·injection h with h; injection h with h h'; subst h; subst h'
    exact ⟨⟨by omega,fun h => absurd h (by decide),fun h => absurd h (by decide),fun h => absurd h (by decide),trivial⟩,hToks_tail b⟩
   ·rename_i a1 a2 r
    have hp:=b _ (List.mem_cons_self ..)
    split at h
    ·injection h with h; injection h with h h'; subst h; subst h'
     exact ⟨⟨by omega,fun _ => ⟨hp,rfl⟩,fun h => absurd h (by decide),fun h => absurd h (by decide),trivial⟩,hToks_tail b⟩
    ·rename_i q a3 a4 r3 hs
     have h1:=takeS_h hs (hToks_tail b)
     have hp2:=h1 _ (List.mem_cons_self ..)
     injection h with h; injection h with h h'; subst h; subst h'
     exact ⟨⟨by omega,fun h => absurd h (by decide),fun _ => ⟨⟨hp,hp2⟩,rfl⟩,fun h => absurd h (by decide),trivial⟩,hToks_tail h1⟩
    ·cases h
   ·rename_i t r
    split at h
    ·cases h
    ·rename_i s r2 hs
     have hb2:=takeS_h hs (hToks_tail b)
     split at h
     ·cases h
     ·split at h
      ·rename_i q r3 hs2
       injection h with h; injection h with h h'; subst h; subst h'
       exact ⟨⟨by omega,fun h => absurd h (by decide),fun h => absurd h (by decide),fun h => absurd h (by decide),trivial⟩,takeS_h hs2 hb2⟩
      ·split at h
       ·cases h
       ·rename_i ns ts1 ha
        have h2:=pArg_h (pr_h k .form (d + 1)) _ _ _ _ _ ha trivial hb2
        obtain ⟨p,h3,h4⟩:=Option.map_eq_some_iff.1 h
        have h5:=takeS_h (show takeS [[41]] ts1=some (p.1,p.2) from h3)
        injection h4 with h4 h6
        rw [← h4,← h6]
        exact ⟨⟨by omega,fun h => absurd h (by decide),fun h => absurd h (by decide),fun h => absurd h (by decide),h2.1⟩,h5 h2.2⟩
   ·cases h
theorem parseM_h (l:List UInt8) (n:Nd) (h:parseM l=some n):hNd n:=by
 unfold parseM at h
 cases ht:toksG l with
 | none => rw [ht] at h; cases h
 | some ts =>
  rw [ht] at h
  simp only at h
  have h1:=toksG_h _ l (Nat.le_refl _) ts ht
  split at h
  ·rename_i n' hp
   injection h with h; subst h
   exact (pr_h _ _ _ _ _ _ hp h1).1
  ·cases h
end Go.Vai
namespace Go.Vai
variable {m:Int} {e3 e4:Value}
mutual
theorem gNd_of : ∀ n:Nd,hNd n→wNd n≤300000→gNd n
 | .mk k n t a b c d l, h, hw => by
  unfold hNd at h
  obtain ⟨h1,h2,h3,h4,h5⟩:=h
  unfold wNd at hw
  have hl : ∀ l:List Nd,l.length≤wNd.wNds l:=by
   intro l
   induction l with
   | nil => simp
   | cons x r ih =>
    unfold wNd.wNds
    have:1≤wNd x:=by cases x; unfold wNd; omega
    rw [List.length_cons]; omega
  have hll:=hl l
  exact ⟨⟨by omega,by omega,h2,h3,h4,by omega⟩,gNds_of l h5 (by omega)⟩
theorem gNds_of : ∀ l:List Nd,hNd.hNds l→wNd.wNds l≤300000→gNds l
 | [],_,_ => trivial
 | x :: r,h,hw => by
  unfold wNd.wNds at hw
  exact ⟨gNd_of x h.1 (by omega),gNds_of r h.2 (by omega)⟩
end
mutual
theorem namP_len : ∀ n:Nd,hNd n→(namP n).length≤2574 * wNd n
 | .mk k n t a b c d l, h => by
  unfold hNd at h
  obtain ⟨h1,h2,h3,h4,h5⟩:=h
  rw [namP,List.length_append]
  unfold wNd
  have hl:=namL_len2 l h5
  by_cases e3:k=3
  ·rw [if_pos e3]; simp only [List.length_cons,List.length_nil]; omega
  ·rw [if_neg e3]
   by_cases e4:k=4
   ·rw [if_pos e4]
    obtain ⟨⟨p1,p2⟩,_⟩:=h3 e4
    have:=rng_len p1 p2
    omega
   ·rw [if_neg e4]; simp only [List.length_nil]; omega
theorem namL_len2 : ∀ l:List Nd,hNd.hNds l→(namL l).length≤2574 * wNd.wNds l
 | [],_ => by simp [namL]
 | x :: r,h => by
  rw [namL,List.length_append]
  unfold wNd.wNds
  have h1:=namP_len x h.1
  have h2:=namL_len2 r h.2
  omega
end
theorem good_parse (l:List UInt8) (n:Nd) (h:parseM l=some n) (hl:l.length≤15000):gNd n∧(namP n).length≤100000000∧wNd n≤30000:=by
 have h1:=parseM_h l n h
 have h2:=(parseM_ok l n h).2
 have h3:=namP_len n h1
 exact ⟨gNd_of n h1 (by omega),by omega,by omega⟩
theorem good_nod (c:Cel) (hl:c.2.2.length≤15000):gNd (nodG c)∧(namP (nodG c)).length≤100000000∧wNd (nodG c)≤30000:=by
 unfold nodG
 cases h:fmlG c.2.2 with
 | none =>
  refine ⟨⟨⟨by omega,by decide,fun h => absurd h (by decide),fun h => absurd h (by decide),fun h => absurd h (by decide),by decide⟩,trivial⟩,by decide,by decide⟩
 | some n =>
  unfold fmlG at h
  split at h
  ·exact good_parse _ n h (by rw [List.length_drop]; omega)
  ·cases h
theorem setE_mem {L:List (Nat × Cel)} {c:Nat} {x:Cel} {p:Nat × Cel} (h:p∈setE L c x):p.2=x∨p∈L:=by
 unfold setE at h
 split at h
 ·obtain ⟨q,hq,rfl⟩:=List.mem_map.1 h
  split
  ·exact .inl rfl
  ·exact .inr hq
 ·rcases List.mem_append.1 h with h | h
  ·exact .inr h
  ·simp at h; exact .inl (by rw [h])
theorem setAll_mem (l:List Cel) : ∀ p∈(setAll l).1,p.2∈l∧valC p.2=true:=by
 unfold setAll
 have key : ∀ (K:List Cel) (t:List (Nat × Cel) × Nat),(∀ x∈K,x∈l∧valC x=true)→(∀ p∈t.1,p.2∈l∧valC p.2=true)→∀ p∈(K.foldl (fun t x => (setE t.1 t.2 x,setN t.1 t.2 x)) t).1,p.2∈l∧valC p.2=true:=by
  intro K
  induction K with
  | nil => exact fun t _ h => h
  | cons x r ih =>
   intro t hK ht
   refine ih _ (fun y hy => hK y (by simp [hy])) fun p hp => ?_
   rcases setE_mem hp with h | h
   ·rw [h]; exact hK x (by simp)
   ·exact ht p h
 exact key _ _ (fun x hx => List.mem_filter.1 hx) fun p hp => by cases hp
theorem sortC_mem {c:Cel} : ∀ {l:List Cel},c∈sortC l↔c∈l
 | [] => by simp [sortC]
 | d :: r => by
  have key : ∀ (d:Cel) (l:List Cel),c∈insC d l↔c=d∨c∈l:=by
   intro d l
   induction l with
   | nil => simp [insC]
   | cons e l ih =>
    rw [insC]
    split
    ·simp
    ·simp only [List.mem_cons,ih]
     exact ⟨fun h => by rcases h with h | h | h <;> simp [h],fun h => by rcases h with h | h | h <;> simp [h]⟩
  rw [sortC,key,sortC_mem (l:=r),List.mem_cons]
theorem taken_mem (s:Sh) {c:Cel} (h:c∈(takenG s).cells):c∈s.cells∧valC c=true:=by
 unfold takenG at h
 rw [sortC_mem] at h
 obtain ⟨p,hp,rfl⟩:=List.mem_map.1 h
 exact setAll_mem s.cells p hp
theorem insC_permA (c:Cel) : ∀ l:List Cel,(insC c l).Perm (c :: l)
 | [] => .refl _
 | d :: r => by
  rw [insC]
  split
  ·exact .refl _
  ·exact ((insC_permA c r).cons d).trans (.swap c d r)
theorem sortC_permA : ∀ l:List Cel,(sortC l).Perm l
 | [] => .refl _
 | c :: r => (insC_permA c _).trans ((sortC_permA r).cons c)
theorem taken_nod (s:Sh):nodC (takenG s).cells∧(takenG s).cells.length≤2574:=by
 have h:=(tb_all s.cells).1
 have h2:nodC (takenG s).cells:=by
  unfold takenG nodC
  exact (sortC_permA _).symm.pairwise h fun {a b} h => by rw [celEq_comm]; exact h
 exact ⟨h2,cells_few h2 fun c hc => (valC_iff.1 (taken_mem s hc).2).1⟩
def smSh (s:Sh):Prop:=szSh s≤14000
theorem sumT_mem {l:List (List UInt8)} {t:List UInt8} (h:t∈l):t.length≤sumT l:=by
 unfold sumT
 induction l with
 | nil => cases h
 | cons a r ih =>
  simp only [List.map_cons,List.sum_cons]
  rcases List.mem_cons.1 h with rfl | h
  ·omega
  ·have:=ih h; omega
theorem sm_src {s:Sh} (h:smSh s):(∀ c∈s.cells,c.2.2.length≤14000)∧(∀ t∈s.mac,t.length≤14000)∧s.cells.length≤14000∧s.wid.length≤14000∧s.mac.length≤14000:=by
 unfold smSh szSh at h
 refine ⟨fun c hc => ?_,fun t ht => ?_,by omega,by omega,by omega⟩
 ·have:=sumT_mem (List.mem_map.2 ⟨c,hc,rfl⟩:c.2.2∈s.cells.map (·.2.2)); omega
 ·have:=sumT_mem ht; omega
def wsG (s:Sh):WS:=ws0 (takenG s).cells
theorem ws_ok (s:Sh) (h:smSh s):WOk (wsG s):=by
 obtain ⟨h1,h2⟩:=taken_nod s
 unfold wsG ws0
 refine ⟨by simp,by simp,by simp,by simp,by simp,by simp only; omega,fun nd hnd => ?_⟩
 simp only at hnd
 obtain ⟨c,hc,rfl⟩:=List.mem_map.1 hnd
 have:=good_nod c (by have:=(sm_src h).1 c (taken_mem s hc).1; omega)
 exact ⟨this.1,this.2.1⟩
def usesG (s:Sh) (i:Int):List Int:=if 0≤i∧i < ((takenG s).cells.length:Int) then usesL (wsG s) i.toNat else []
theorem run_new (s:Sh) (h:smSh s):(W m e3 e4).run 27 [shO (takenG s)] (shOB (takenG s))=some (.bp 3 0,none :: none :: none :: wBb 3 (wsG s)):=by
 obtain ⟨h1,h2⟩:=taken_nod s
 have:=run_newState (m:=m) (e3:=e3) (e4:=e4) (takenG s) h1 (by omega) fun c hc => by have:=(sm_src h).1 c (taken_mem s hc).1; omega
 rw [this]
 unfold wB wBb wsG ws0
 simp
set_option maxHeartbeats 4000000 in
theorem run_Uses (s:Sh) (i:Int) (h:smSh s):(W m e3 e4).run 14 [shA s,i64 i] []=some (rwS ((usesG s i).map eIn),[]):=by
 have hs:=sm_src h
 have hta:=run_taken (m:=m) (e3:=e3) (e4:=e4) s (by unfold smSh at h; omega) (fun c hc => by have:=hs.1 c hc; omega) fun t ht => by have:=hs.2.1 t ht; omega
 have hnw:=run_new (m:=m) (e3:=e3) (e4:=e4) s h
 have hok:=ws_ok s h
 have hC:(wsG s).cells=(takenG s).cells:=rfl
 unfold usesG
 simp only [shA_mk,rwS,shO,shOB] at hta hnw ⊢
 refine run_wp (by rw [W_T]; exact rfl) ?_
 simp -dsimp -implicitDefEqProofs (maxSteps:=1000000) (disch:=omega) [ST,hta,-callV]
 refine opt_callf (by decide) (ns:=[]) (by kernel_rfl) (by kernel_rfl) (by kernel_rfl) hta ?_
 simp -dsimp -implicitDefEqProofs (maxSteps:=1000000) (disch:=omega) [ST,-callV]
 refine opt_callf (by decide) (ns:=[6,7,8]) (by kernel_rfl) (by kernel_rfl) (by kernel_rfl) hnw ?_
 by_cases h0:i < 0
 ·rw [if_neg (by omega)]
  simp -dsimp -implicitDefEqProofs (maxSteps:=1000000) (disch:=omega) [ST,wBb,rwS,h0,-fin0]
  kernel_rfl
 ·obtain ⟨k,rfl⟩ : ∃ k:Nat,i=k:=⟨i.toNat,by omega⟩
  by_cases hk:k < (takenG s).cells.length
  ·rw [if_pos (by omega)]
   have hu:=run_uses (m:=m) (e3:=e3) (e4:=e4) (wsG s) k hok (by rw [hC]; exact hk)
   simp only [Int.toNat_natCast]
   generalize usesL (wsG s) k=U at *
   generalize wsG s=x at *
   simp -dsimp -implicitDefEqProofs (maxSteps:=1000000) (disch:=omega) [ST,wBb,rwS,hC,hk,-callV]
   refine opt_callf (by decide) (ns:=[9,10,11,12,13,14,15]) (by kernel_rfl) (by kernel_rfl) (by kernel_rfl) hu ?_
   simp -dsimp -implicitDefEqProofs (maxSteps:=1000000) (disch:=omega) [ST,wBb,rwS,-fin0]
   kernel_rfl
  ·rw [if_neg (by omega)]
   generalize wsG s=x at *
   simp -dsimp -implicitDefEqProofs (maxSteps:=1000000) (disch:=omega) [ST,wBb,rwS,hC,hk,-fin0]
   kernel_rfl
def circG (s:Sh):List Int:=((List.range (takenG s).cells.length).filter fun i => (circT (wsG s)).rnd i).map fun (n:Nat) => (n:Int)
def S15 (x:WS) (N:Nat) (f:Nat→Bool) (a:List Int × Nat):St:={ sl:=[(4,.osl 0 1 0 a.1.length),(15,.osl 1 1 0 N),(16,i64 N),(17,i64 a.2)],hp:=numd 0 [some (.arr 1 (a.1.map eIn)),some (.arr 1 ((rgB N f).map eBo))],nx:=2 }
set_option maxHeartbeats 4000000 in
theorem run_Circular (s:Sh) (h:smSh s):(W m e3 e4).run 15 [shA s] []=some (rwS ((circG s).map eIn),[]):=by
 have hs:=sm_src h
 have hta:=run_taken (m:=m) (e3:=e3) (e4:=e4) s (by unfold smSh at h; omega) (fun c hc => by have:=hs.1 c hc; omega) fun t ht => by have:=hs.2.1 t ht; omega
 have hnw:=run_new (m:=m) (e3:=e3) (e4:=e4) s h
 have hok:=ws_ok s h
 have hC:(wsG s).cells=(takenG s).cells:=rfl
 have hci:=run_circles (m:=m) (e3:=e3) (e4:=e4) (wsG s) hok rfl
 have hN:=(taken_nod s).2
 unfold circG
 simp only [shA_mk,rwS,shO,shOB] at hta hnw ⊢
 rw [hC] at hci
 generalize (takenG s).cells.length=N at *
 generalize (circT (wsG s)).rnd=f at *
 generalize wsG s=x at *
 have hset:wBb 0 (setR x (rgB N f))=wBn 0 x N (rgB N f):=by unfold wBb wBn setR; simp only [rgB_len]
 rw [hset] at hci
 refine run_wp (by rw [W_T]; exact rfl) ?_
 simp -dsimp -implicitDefEqProofs (maxSteps:=1000000) (disch:=omega) [ST,-callV]
 refine opt_callf (by decide) (ns:=[]) (by kernel_rfl) (by kernel_rfl) (by kernel_rfl) hta ?_
 simp -dsimp -implicitDefEqProofs (maxSteps:=1000000) (disch:=omega) [ST,-callV]
 refine opt_callf (by decide) (ns:=[6,7,8]) (by kernel_rfl) (by kernel_rfl) (by kernel_rfl) hnw ?_
 simp -dsimp -implicitDefEqProofs (maxSteps:=1000000) (disch:=omega) [ST,wBb,rwS,-callV]
 refine opt_callf (by decide) (ns:=[9,10,11,12,13,14,15]) (by kernel_rfl) (by kernel_rfl) (by kernel_rfl) hci ?_
 simp -dsimp -implicitDefEqProofs (maxSteps:=1000000) (disch:=omega) [ST,wBn,rwS]
 obtain ⟨O,hO⟩ : ∃ O,((List.range N).filter fun i => f i).map (fun (n:Nat) => (n:Int))=O:=⟨_,rfl⟩
 rw [hO]
 refine wp_inv (S15 x N f) (fun a => a.2≤N∧a.1=((List.range a.2).filter fun i => f i).map (fun (n:Nat) => (n:Int))) (fun a => N - a.2) ([],0) ⟨by simp,by simp⟩ (by kernel_rfl) ?_
 rintro ⟨L,i⟩ ⟨g1,g2⟩
 simp only at g1 g2
 have hLl:L.length≤i:=by
  rw [g2,List.length_map]
  have:=List.length_filter_le (fun i => f i) (List.range i)
  rw [List.length_range] at this
  exact this
 by_cases hi:i < N
 ·have hnx:((List.range (i + 1)).filter fun i => f i).map (fun (n:Nat) => (n:Int))=if f i=true then L ++ [(i:Int)] else L:=by
   rw [List.range_succ,List.filter_append,List.map_append,← g2]
   by_cases hf:f i=true <;> simp [hf]
  by_cases hf:f i=true
  ·rw [if_pos hf] at hnx
   obtain ⟨L2,hL2⟩ : ∃ L2,L ++ [(i:Int)]=L2:=⟨_,rfl⟩
   have hL2l:L2.length=L.length + 1:=by rw [← hL2]; simp
   have hL2m:L.map eIn ++ [[.sc (.int .i64 (i:Int))]]=L2.map eIn:=by rw [← hL2]; simp [eIn]
   rw [hL2] at hnx
   simp -dsimp -implicitDefEqProofs (maxSteps:=1000000) (disch:=omega) [ST,S15,rwS,rgB_getE,rgB_get,rgB_len,eBo,hi,hf,hL2m]
   refine again (L2,i + 1) ⟨by simp only; omega,hnx.symm⟩ (by simp only; omega) ?_
   rw [S15]
   simp only
   rw [hL2l]
   kernel_rfl
  ·rw [if_neg hf] at hnx
   simp -dsimp -implicitDefEqProofs (maxSteps:=1000000) (disch:=omega) [ST,S15,rwS,rgB_getE,rgB_get,rgB_len,eBo,hi,hf]
   refine again (L,i + 1) ⟨by simp only; omega,hnx.symm⟩ (by simp only; omega) (by kernel_rfl)
 ·obtain rfl:i=N:=by omega
  rw [hO] at g2
  subst g2
  simp -dsimp -implicitDefEqProofs (maxSteps:=1000000) (disch:=omega) [ST,S15,rwS,hi]
end Go.Vai
namespace Go.Vai
theorem okFrom_all : ∀ (l:List Cel) (p:Option Cel),okFrom p l=true→srtC l∧(∀ c∈l,valC c=true)∧∀ q,p=some q→∀ c∈l,celLs q c=true
 | [],p,_ => ⟨List.Pairwise.nil,(fun c h => by cases h),fun q _ c h => by cases h⟩
 | d :: r, p, h => by
  unfold okFrom at h
  simp only [Bool.and_eq_true] at h
  obtain ⟨⟨h1,h2,h3,h4⟩,h5⟩:=h
  obtain ⟨g1,g2,g3⟩:=okFrom_all r _ h5
  refine ⟨List.pairwise_cons.2 ⟨g3 d rfl,g1⟩,fun c hc => ?_,fun q hq c hc => ?_⟩
  ·rcases List.mem_cons.1 hc with rfl | hc
   ·exact valC_iff.2 ⟨h1,by simpa using h2,by simpa using h3⟩
   ·exact g2 c hc
  ·subst hq
   have hqd:celLs q d=true:=h4
   rcases List.mem_cons.1 hc with rfl | hc
   ·exact hqd
   ·have h6:=g3 d rfl c hc
    rw [celLs_iff] at *
    omega
theorem srt_nod {l:List Cel} (h:srtC l):nodC l:=h.imp fun {a b} hab => by
 rw [celLs_iff] at hab
 rw [Bool.eq_false_iff,Ne,celEq_iff]
 omega
theorem sort_srt : ∀ {l:List Cel},srtC l→sortC l=l
 | [],_ => rfl
 | c :: r, h => by
  unfold srtC at h
  rw [List.pairwise_cons] at h
  rw [sortC,sort_srt h.2]
  cases r with
  | nil => rfl
  | cons d r =>
   have h1:=h.1 d (by simp)
   rw [celLs_iff] at h1
   rw [insC,if_pos (by unfold celLe; simp only [Bool.or_eq_true,Bool.and_eq_true,decide_eq_true_eq]; omega)]
theorem setAll_nod {l:List Cel} (h:nodC l) (hv : ∀ c∈l,valC c=true):(setAll l).1.map (·.2)=l:=by
 unfold setAll
 rw [List.filter_eq_self.2 hv]
 have key : ∀ (K:List Cel) (t:List (Nat × Cel) × Nat),nodC (t.1.map (·.2) ++ K)→(K.foldl (fun t x => (setE t.1 t.2 x,setN t.1 t.2 x)) t).1.map (·.2)=t.1.map (·.2) ++ K:=by
  intro K
  induction K with
  | nil => intro t _; simp
  | cons x r ih =>
   intro t hn
   have hno:t.1.any (fun p => celEq p.2 x)=false:=by
    rw [Bool.eq_false_iff]
    intro ha
    obtain ⟨p,hp,he⟩:=List.any_eq_true.1 ha
    unfold nodC at hn
    have:=(List.pairwise_append.1 hn).2.2 p.2 (List.mem_map.2 ⟨p,hp,rfl⟩) x (by simp)
    rw [he] at this; cases this
   have e:setE t.1 t.2 x=t.1 ++ [(t.2,x)]:=by unfold setE; rw [hno]; rfl
   rw [List.foldl_cons,ih]
   ·simp only [e,List.map_append,List.map_cons,List.map_nil,List.append_assoc,List.cons_append,List.nil_append]
   ·simp only [e,List.map_append,List.map_cons,List.map_nil,List.append_assoc,List.cons_append,List.nil_append]
    exact hn
 have:=key l ([],0) (by simpa using h)
 simpa using this
theorem right_taken {s:Sh} (h:rightB s=true):takenG s=s:=by
 obtain ⟨hw,hwr⟩:=rightB_wid h
 unfold rightB at h
 simp only [Bool.and_eq_true] at h
 obtain ⟨_,_,h3,h4⟩:=h
 obtain ⟨g1,g2,_⟩:=okFrom_all _ _ h3
 obtain ⟨sc,sw,sm⟩:=s
 simp only at *
 unfold takenG
 simp only
 rw [setAll_nod (srt_nod g1) g2,sort_srt g1]
 congr 1
 ·refine List.ext_getElem? fun i => ?_
  by_cases hi:i < 26
  ·rw [widT_get _ _ hi]
   have:sw[i]? = some sw[i]:=List.getElem?_eq_getElem (by omega)
   rw [this]
   simp only
   have:=hwr sw[i] (List.getElem_mem _)
   congr 1
   omega
  ·rw [List.getElem?_eq_none (by rw [widT_len]; omega),List.getElem?_eq_none (by omega)]
 ·unfold macB at h4
  rw [List.filter_eq_self]
  exact fun t ht => List.all_eq_true.1 h4 t ht
end Go.Vai
namespace Go.Vai
section
variable {adj:Nat→List Nat} {N:Nat}
theorem Rch.closed {R:Nat→List Nat} {p:Nat→Prop} (hc : ∀ x,p x→∀ y∈R x,p y) {a z:Nat} (h:Rch R a z):p a→p z:=by
 induction h with
 | refl => exact fun h => h
 | step e _ ih => exact fun h => ih (hc _ h _ e)
end
end Go.Vai
namespace Go.Vai
section
variable {adj:Nat→List Nat} {N:Nat}
structure BInv (adj:Nat→List Nat) (i:Nat) (o:List Nat) (seen:Nat→Bool):Prop where
 r1 : ∀ x∈o,∃ y∈adj i,Rch adj y x
 r2 : ∀ x,seen x=true→∃ y∈adj i,Rch adj y x
 c1 : ∀ y∈adj i,seen y=true∨y∈o
 c2 : ∀ x,seen x=true→∀ y∈adj x,seen y=true∨y∈o
theorem b_begin (i:Nat):BInv adj i (adj i) fun _ => false:=⟨fun x hx => ⟨x,hx,.refl x⟩,fun x hx => (by cases hx),fun y hy => .inr hy,fun x hx => by cases hx⟩
theorem b_old {i x:Nat} {r:List Nat} {seen:Nat→Bool} (h:BInv adj i (x :: r) seen) (hs:seen x=true):BInv adj i r seen:=by
 have key : ∀ y,(seen y=true∨y∈x :: r)→seen y=true∨y∈r:=by
  rintro y (a | a)
  ·exact .inl a
  ·rcases List.mem_cons.1 a with rfl | a
   ·exact .inl hs
   ·exact .inr a
 exact ⟨fun z hz => h.r1 z (by simp [hz]),h.r2,fun y hy => key y (h.c1 y hy),fun z hz y hy => key y (h.c2 z hz y hy)⟩
theorem b_new {i x:Nat} {r:List Nat} {seen:Nat→Bool} (h:BInv adj i (x :: r) seen) (hs:seen x=false):BInv adj i (r ++ adj x) (updT seen x true):=by
 have up : ∀ y,seen y=true→updT seen x true y=true:=fun y hy => by
  by_cases e:y=x
  ·rw [e,updT_same]
  ·rw [updT_ne _ _ e]; exact hy
 have key : ∀ y,(seen y=true∨y∈x :: r)→updT seen x true y=true∨y∈r ++ adj x:=by
  rintro y (a | a)
  ·exact .inl (up y a)
  ·rcases List.mem_cons.1 a with rfl | a
   ·exact .inl (updT_same _ _ _)
   ·exact .inr (by simp [a])
 obtain ⟨w,hw,hr⟩:=h.r1 x (by simp)
 refine ⟨fun z hz => ?_,fun z hz => ?_,fun y hy => key y (h.c1 y hy),fun z hz y hy => ?_⟩
 ·rcases List.mem_append.1 hz with hz | hz
  ·exact h.r1 z (by simp [hz])
  ·exact ⟨w,hw,hr.trans (.one hz)⟩
 ·by_cases e:z=x
  ·rw [e]; exact ⟨w,hw,hr⟩
  ·rw [updT_ne _ _ e] at hz; exact h.r2 z hz
 ·by_cases e:z=x
  ·rw [e] at hy; exact .inr (by simp [hy])
  ·rw [updT_ne _ _ e] at hz; exact key y (h.c2 z hz y hy)
theorem b_end {i:Nat} {seen:Nat→Bool} (h:BInv adj i [] seen):seen i=true↔Cyc adj i:=by
 refine ⟨fun hs => h.r2 i hs,fun ⟨y,hy,hr⟩ => ?_⟩
 have h1:seen y=true:=(h.c1 y hy).resolve_right (by simp)
 exact Rch.closed (p:=fun x => seen x=true) (fun x hx z hz => (h.c2 x hx z hz).resolve_right (by simp)) hr h1
def bWt (adj:Nat→List Nat) (N:Nat) (seen:Nat→Bool):Nat:=((List.range N).map fun x => if seen x=true then 0 else (adj x).length).sum
theorem b_wt {x:Nat} (hx:x < N) {seen:Nat→Bool} (hs:seen x=false):bWt adj N (updT seen x true) + (adj x).length=bWt adj N seen:=by
 unfold bWt
 have key : ∀ L:List Nat,L.Nodup→(L.map fun z => if updT seen x true z=true then 0 else (adj z).length).sum + (if x∈L then (adj x).length else 0)=(L.map fun z => if seen z=true then 0 else (adj z).length).sum:=by
  intro L
  induction L with
  | nil => simp
  | cons z r ih =>
   intro hn
   rw [List.nodup_cons] at hn
   have ih:=ih hn.2
   simp only [List.map_cons,List.sum_cons]
   by_cases e:z=x
   ·subst e
    rw [if_neg hn.1] at ih
    rw [updT_same,hs,if_pos (by simp)]
    simp
    omega
   ·have e' : ¬ x=z:=fun h => e h.symm
    rw [updT_ne _ _ e]
    simp only [List.mem_cons,e',false_or]
    omega
 have:=key (List.range N) List.nodup_range
 rw [if_pos (List.mem_range.2 hx)] at this
 exact this
end
end Go.Vai
