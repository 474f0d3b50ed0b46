/-
  A part of the abstract run of Go functions and of the proof that it tells the truth.
-/
import Derived.Test.YtljbbcpahapmnaaGreatDoorVaI
set_option linter.unusedVariables false
set_option linter.unusedSimpArgs false
namespace Go.Vai
variable {P:Program} {C:Ctx} {σ:Nat→Option Loc} {w:World}
def DoesN (P:Program) (x:Result Next) (K:Ending→World→Prop):Prop:=match x with
 | .ok (.enter f args) w' => Calls P f args w' K
 | .ok (.value v) w' => K (.returned v) w'
 | .ok (.round l f tmps as bd) w' => RoundIn Fence.wide 0 P l f tmps as bd w' K
 | _ => False
theorem Does.next {f:FuncId} {args:Array Value} {K:Ending→World→Prop} (h:Does P f args w K):DoesN P ((callFunc f args).run P w) K:=by
 rcases h with ⟨h1,h2⟩ | ⟨v,w',h1,h2⟩
 ·rw [h1]; exact h2
 ·rw [h1]; exact h2
theorem Blk.loop_plain {pf:FuncId} {caps:List (Nat × AV)} {ex:Option Ex}:NoOwn (.loop pf caps ex):=⟨(by intro _ _ h; cases h),(by intro _ _ _ h; cases h)⟩
theorem callOp_ne {rf:RF} {f:FuncId} {xs:List AV} {st:St} {v:AV} {ws:HW} {nn b:Nat} (e:callOp rf f xs st=some (v,ws,nn)) (hb:hk st.hp b=none) (hlt:b < st.nx) (hp':HW):hk (ws ++ hp') b=hk hp' b:=by
 simp only [callOp] at e
 generalize hns:clos st.hp 1000 (AV.namesL xs) []=ns at e
 split at e
 ·injection e with e; injection e with e1 e2; injection e2 with e2 e3
  subst e2
  refine hk_back_ne _ 0 fun i _ _ h => ?_
  rcases Nat.lt_or_ge i ns.length with hi | hi
  ·have hm:=List.mem_of_getElem? (backName_lt (base:=st.nx) hi)
   rw [h,← hns] at hm
   rcases clos_live st.hp 1000 _ [] b hm with h' | ⟨blk,h'⟩
   ·cases h'
   ·rw [hb] at h'; cases h'
  ·rw [backName_ge hi] at h; omega
 ·cases e
theorem hk_mid {ws hp:HW} {b c:Nat} (x y:Option Blk) (h:c≠b):hk (ws ++ (b,x) :: hp) c=hk (ws ++ (b,y) :: hp) c:=by
 induction ws with
 | nil => simp only [List.nil_append,hk]; rw [if_neg (Ne.symm h),if_neg (Ne.symm h)]
 | cons q r ih => obtain ⟨k,v⟩:=q; simp only [List.cons_append,hk,ih]
def Ctx.lent (C:Ctx) (l:Nat) (w:World):Ctx:={ G:=C.G,rc:=C.rc,X:=fun k => C.X k∨k=l,own0:=fun k => C.own0 k∨C.w0.heap.size≤k,w0:=w,N:=C.N }
theorem live_loop {hp:Nat→Option Blk} {b l k:Nat} {pf:FuncId} {caps:List (Nat × AV)} {ex:Option Ex} (hb:hp b=some (.loop pf caps ex)) (hσ:σ b=some (.here l 0 0 0)) (h:Live hp σ w b k):k=l:=by
 obtain ⟨blk,h1,h2⟩:=h
 rw [hb] at h1
 injection h1 with h1; subst h1
 exact h2.plain Blk.loop_plain hσ
theorem frz_lent {hp hp0:Nat→Option Blk} {X:Nat→Prop} {w':World} {b l:Nat} {pf:FuncId} {caps:List (Nat × AV)} {ex:Option Ex} (hb:hp b=some (.loop pf caps ex)) (hσ:σ b=some (.here l 0 0 0)) (h0:hp0 b=none) (hne : ∀ c,c≠b→hp0 c=hp c)
 (hlv : ∀ c,c≠b→hp c≠none→∀ k d n sz,σ c=some (.here k d n sz)→w'.heap[k]? = w.heap[k]?) (hh : ∀ k,k≠l→w'.heap[k]? = w.heap[k]?):frz hp σ X w'=frz hp0 σ (fun k => X k∨k=l) w:=by
 have key : ∀ k,((∃ c,Live hp σ w' c k)∨X k)↔((∃ c,Live hp0 σ w c k)∨(X k∨k=l)):=by
  intro k
  constructor
  ·rintro (⟨c,hc⟩ | h)
   ·by_cases e:c=b
    ·subst e; exact .inr (.inr (live_loop hb hσ hc))
    ·obtain ⟨blk,h1,h2⟩:=hc
     exact .inl ⟨c,blk,by rw [hne c e]; exact h1,h2.keep rfl (hlv c e (by rw [h1]; simp))⟩
   ·exact .inr (.inl h)
  ·rintro (⟨c,blk,h1,h2⟩ | h | rfl)
   ·have e:c≠b:=fun e => by rw [e,h0] at h1; cases h1
    rw [hne c e] at h1
    refine .inl ⟨c,blk,h1,h2.keep rfl fun k d n sz hσ' => (hlv c e (by rw [h1]; simp) k d n sz hσ').symm⟩
   ·exact .inr h
   ·exact .inl ⟨b,_,hb,.at _ _ _ _ _ hσ⟩
 funext k
 unfold frz
 by_cases h:(∃ c,Live hp σ w' c k)∨X k
 ·rw [if_pos h,if_pos ((key k).1 h)]
 ·have h':=fun h' => h ((key k).2 h')
  rw [if_neg h,if_neg h']
  exact hh k fun e => h' (.inr (.inr e))
theorem HRel.lend {hp hp0:Nat→Option Blk} (R:HRel C σ hp w) {b l:Nat} {pf:FuncId} {caps:List (Nat × AV)} {ex:Option Ex} (hb:hp b=some (.loop pf caps ex)) (hσ:σ b=some (.here l 0 0 0)) (h0:hp0 b=none) (hne : ∀ c,c≠b→hp0 c=hp c) :
 HRel (C.lent l w) σ hp0 w∧frz hp σ C.X w=frz hp0 σ (C.lent l w).X w:=by
 have hf:frz hp σ C.X w=frz hp0 σ (C.lent l w).X w:=frz_lent hb hσ h0 hne (fun _ _ _ _ _ _ _ _ => rfl) fun _ _ => rfl
 have hlv : ∀ c k,Live hp0 σ w c k→c≠b∧Live hp σ w c k:=by
  rintro c k ⟨blk,h1,h2⟩
  have e:c≠b:=fun e => by rw [e,h0] at h1; cases h1
  exact ⟨e,blk,by rw [← hne c e]; exact h1,h2⟩
 have hl:Live hp σ w b l:=⟨_,hb,.at _ _ _ _ _ hσ⟩
 refine ⟨⟨fun c blk e => ?_,fun c c' k h1 h2 => R.inj _ _ _ (hlv _ _ h1).2 (hlv _ _ h2).2,fun c k h1 => ?_,Frame0.refl _ _,?_,fun k hk => ?_⟩,hf⟩
 ·have ec:c≠b:=fun e' => by rw [e',h0] at e; cases e
  rw [hne c ec] at e
  rw [← hf]; exact R.bk c blk e
 ·obtain ⟨e,h2⟩:=hlv _ _ h1
  obtain ⟨g1,g2,g3⟩:=R.ow _ _ h2
  refine ⟨fun hx => hx.elim g1 fun hx => e ?_,g2,.inl g3⟩
  subst hx
  exact R.inj _ _ _ h2 hl
 ·show GR C.G _
  rw [← hf]; exact R.gl
 ·rcases hk with hk | rfl
  ·have:=R.xl k hk; have:=R.fr.size; show k < w.heap.size; omega
  ·exact (R.ow _ _ hl).2.1
theorem HRel.unlend {hp hp1 hp2:Nat→Option Blk} {σ':Nat→Option Loc} {w':World} (R:HRel C σ hp w) {b l:Nat} {pf:FuncId} {caps:List (Nat × AV)} {ex0 ex:Option Ex} (hb:hp b=some (.loop pf caps ex0)) (hσ:σ b=some (.here l 0 0 0))
 (R':HRel (C.lent l w) σ' hp1 w') (hs:SLe σ σ') (hl:HLe (frz hp σ C.X w) (frz hp1 σ' (C.lent l w).X w')) (h1:hp1 b=none) (h2:hp2 b=some (.loop pf caps ex)) (hne : ∀ c,c≠b→hp1 c=hp2 c)
 {r:Loop} {N:Nat} (hw:w'.heap[l]? = some (.loop { r with state:=.busy })) (hrc:C.rc pf=some (N,r.params,r.assign,r.body)) (hN:N≤r.tmps.size) (hc : ∀ (i t:Nat) (x:AV),caps[i]? = some (t,x)→VR σ (frz hp σ C.X w) x (r.tmps.getD t undef)) (hex : ∀ e,ex=some e→e.jump.isSome=true) :
 HRel C σ' hp2 (w'.putObj l (.loop (behindR r ex)))∧HLe (frz hp σ C.X w) (frz hp2 σ' C.X (w'.putObj l (.loop (behindR r ex)))):=by
 have hlt:l < w'.heap.size:=(Array.getElem?_eq_some_iff.1 hw).1
 have hσ':=hs _ _ hσ
 generalize hw'':w'.putObj l (.loop (behindR r ex))=w''
 have hsame:w''.heap[l]? = some (.loop (behindR r ex)):=hw'' ▸ World.putObj_heap_same hlt
 have hother : ∀ k,k≠l→w''.heap[k]? = w'.heap[k]? := fun k hk => hw'' ▸ World.putObj_heap_other hk
 have hsize:w''.heap.size=w'.heap.size:=hw'' ▸ World.putObj_size
 have hlive0 : ∀ c,c≠b→∀ blk,hp2 c=some blk→∀ k,Owns σ' w' c blk k→k≠l:=by
  intro c hcb blk h k ho e
  rw [← hne c hcb] at h
  exact (R'.ow c k ⟨blk,h,ho⟩).1 (.inr e)
 have hkeep : ∀ c,c≠b→hp2 c≠none→∀ k d n sz,σ' c=some (.here k d n sz)→w''.heap[k]? = w'.heap[k]? := by
  intro c hcb h k d n sz hσc
  cases hb2:hp2 c with
  | none => exact absurd hb2 h
  | some blk => exact hother k (hlive0 c hcb blk hb2 k (.at _ _ _ _ _ hσc))
 have hf:frz hp2 σ' C.X w''=frz hp1 σ' (C.lent l w).X w':=frz_lent h2 hσ' h1 hne hkeep hother
 have hlv : ∀ c k,Live hp2 σ' w'' c k→(c=b∧k=l)∨(c≠b∧Live hp1 σ' w' c k):=by
  rintro c k hcl
  by_cases e:c=b
  ·subst e; exact .inl ⟨rfl,live_loop h2 hσ' hcl⟩
  ·obtain ⟨blk,g1,g2⟩:=hcl
   exact .inr ⟨e,blk,by rw [hne c e]; exact g1,g2.keep rfl (hkeep c e (by rw [g1]; simp))⟩
 have hbl:Live hp σ w b l:=⟨_,hb,.at _ _ _ _ _ hσ⟩
 have hsz:w.heap.size≤w'.heap.size:=R'.fr.size
 refine ⟨⟨fun c blk e => ?_,fun c c' k g1 g2 => ?_,fun c k g1 => ?_,⟨?_,fun k g1 g2 => ?_,?_,?_,?_⟩,?_,R.xl⟩,by rw [hf]; exact hl⟩
 ·rw [hf]
  by_cases ec:c=b
  ·subst ec
   rw [h2] at e
   injection e with e; subst e
   refine .loop pf caps ex l N (behindR r ex) hσ' hsame hrc hN (fun i t x e => (hc i t x e).mono hs hl) (fun e => ?_) fun e he => ?_
   ·subst e; exact ⟨rfl,rfl⟩
   ·subst he; exact ⟨rfl,rfl,hex e rfl⟩
  ·have h:=e
   rw [← hne c ec] at h
   refine (R'.bk c blk h).mono (SLe.refl _) (HLe.refl _) fun k ho => hother k (hlive0 c ec blk e k ho)
 ·rcases hlv _ _ g1 with ⟨rfl,rfl⟩ | ⟨e1,q1⟩ <;> rcases hlv _ _ g2 with ⟨rfl,e⟩ | ⟨e2,q2⟩
  ·rfl
  ·exact absurd (.inr rfl) (R'.ow _ _ q2).1
  ·subst e; exact absurd (.inr rfl) (R'.ow _ _ q1).1
  ·exact R'.inj _ _ _ q1 q2
 ·rcases hlv _ _ g1 with ⟨rfl,rfl⟩ | ⟨e1,q1⟩
  ·obtain ⟨q1,q2,q3⟩:=R.ow _ _ hbl
   exact ⟨q1,by rw [hsize]; exact hlt,q3⟩
  ·obtain ⟨q2,q3,q4⟩:=R'.ow _ _ q1
   refine ⟨fun hx => q2 (.inl hx),by rw [hsize]; exact q3,?_⟩
   rcases q4 with q4 | q4
   ·exact q4
   ·have q5:w.heap.size≤k:=q4
    have:=R.fr.size
    exact .inr (by omega)
 ·rw [hsize]; have:=R.fr.size; omega
 ·have hbo:=(R.ow _ _ hbl).2.2
  have hkl:k≠l:=fun e => by
   subst e
   rcases hbo with q | q
   ·exact g2 q
   ·omega
  rw [hother k hkl]
  have hno : ¬ (C.lent l w).own0 k:=fun h => h.elim g2 fun h => by omega
  rw [R'.fr.keep k (by have:=R.fr.size; show k < w.heap.size; omega) hno]
  exact R.fr.keep k g1 g2
 ·subst hw''; exact R'.fr.os.trans R.fr.os
 ·subst hw''; exact R'.fr.tape.trans R.fr.tape
 ·subst hw''; exact R'.fr.output.trans R.fr.output
 ·rw [hf]; exact R'.gl
theorem yld_sound {rf:RF} (RS:YSound P C.G rf) (hrc:C.rc=rcOf P) (h4 : ∀ pf N ps as bd,rcOf P pf=some (N,ps,as,bd)→4096≤pf) {b l:Nat} {xs:List AV} {st:St} {v:AV} {ws:HW} {nn:Nat} (e:yldOp rf b xs st=some (v,ws,nn)) (R:HRel C σ (hk st.hp) w) (hfr : ∀ b,st.nx≤b→σ b=none) (hσ:σ b=some (.here l 0 0 0)) {us:List Value} (hlen:xs.length=us.length)
 (hxs : ∀ (i:Nat) (x:AV) (u:Value),xs[i]? = some x→us[i]? = some u→VR σ (frz (hk st.hp) σ C.X w) x u) {K:Ending→World→Prop}
 (hK : ∀ u σ' w',VR σ' (frz (hk (ws ++ st.hp)) σ' C.X w') v u→HRel C σ' (hk (ws ++ st.hp)) w'→SLe σ σ'→HLe (frz (hk st.hp) σ C.X w) (frz (hk (ws ++ st.hp)) σ' C.X w')→(∀ b,b < st.nx→σ' b=σ b)→(∀ b,st.nx + nn≤b→σ' b=none)→K (.returned u) w') :
 DoesN P ((Instr.yield l us.toArray).run P w) K:=by
 unfold yldOp at e
 split at e
 case h_2 => cases e
 rename_i pf caps hb
 split at e
 case h_2 => cases e
 rename_i q ws0 nn0 hcall
 split at e
 case h_2 => cases e
 rename_i ex hav
 injection e with e; injection e with e1 e2; injection e2 with e2 e3
 subst e1; subst e2; subst e3
 have hblt:b < st.nx:=by
  rcases Nat.lt_or_ge b st.nx with h | h
  ·exact h
  ·rw [hfr b h] at hσ; cases hσ
 cases R.bk b _ hb with
 | loop _ _ _ l' N r g1 g2 g3 g4 g5 g6 g7 =>
  have hll:l=l':=by rw [hσ] at g1; injection g1 with g1; injection g1
  subst hll
  have hst:=g6 rfl
  have hrp:=g3
  rw [hrc] at hrp
  obtain ⟨RL,hfz⟩:=R.lend (hp0:=hk ((b,none) :: st.hp)) hb hσ (by simp [hk]) (fun c hc => by simp only [hk]; rw [if_neg (Ne.symm hc)])
  have hbl:Live (hk st.hp) σ w b l:=⟨_,hb,.at _ _ _ _ _ hσ⟩
  have hsp : ∀ r' bl ns,ns=clos ((b,none) :: st.hp) 1000 (AV.namesL (capE caps :: xs)) []→rf pf (AV.renL (idx ns) (capE caps :: xs)) (blks ((b,none) :: st.hp) (idx ns) ns)=some (r',bl) →
   ∃ ex',avEx r'=some ex'∧(∀ e,ex'=some e→e.jump.isSome=true)∧ns.length≤bl.length∧xs.length=r.params.size∧Told P C.G (fun k => k=l) (AV.renL (idx ns) (capE caps :: xs)) (blks ((b,none) :: st.hp) (idx ns) ns) r' bl w (capV r caps :: us) (RoundK P l r us ex' w):=by
   intro r' bl ns hns hrf
   have hsplit:AV.renL (idx ns) (capE caps :: xs)=capE (caps.map fun p => (p.1,p.2.ren (idx ns))) :: AV.renL (idx ns) xs:=by
    simp only [AV.renL,capE,AV.ren,renL_map,List.map_map]
    congr 2
   rw [hsplit] at hrf ⊢
   obtain ⟨ex',q1,q2,q3,q4,q5⟩:=RS pf _ _ _ _ _ _ _ _ _ hrp (h4 _ _ _ _ _ hrp) hrf
   refine ⟨ex',q1,q2,by rw [blks_length] at q3; exact q3,by rw [renL_map] at q4; simpa using q4,?_⟩
   have:=q5 w l r us g2 hst.1 hst.2 rfl rfl rfl g4 (by rw [renL_map]; simpa using hlen)
   have hcv:capV r (caps.map fun p => (p.1,p.2.ren (idx ns)))=capV r caps:=by
    unfold capV; rw [List.map_map]; rfl
   rw [hcv] at this
   exact this
  have hpar:xs.length=r.params.size:=by
   simp only [callOp] at hcall
   split at hcall
   ·rename_i r' bl hrf
    obtain ⟨_,_,_,_,h,_⟩:=hsp r' bl _ rfl hrf
    exact h
   ·cases hcall
  rw [run_yield g2 (by simp; omega)]
  show RoundIn Fence.wide 0 P l r.fn (yTmps r us) r.assign r.body w K
  have hcx : ∀ (i:Nat) (x:AV) (u:Value),(capE caps :: xs)[i]? = some x→(capV r caps :: us)[i]? = some u→VR σ (frz (hk ((b,none) :: st.hp)) σ (C.lent l w).X w) x u:=by
   intro i x u e1 e2
   rw [← hfz]
   cases i with
   | succ i => exact hxs i x u (by simpa using e1) (by simpa using e2)
   | zero =>
    simp at e1 e2
    subst e1; subst e2
    refine .tup _ _ (by simp) fun j y z h1 h2 => ?_
    rw [List.getElem?_map] at h1 h2
    cases hc:caps[j]? with
    | none => rw [hc] at h1; cases h1
    | some p =>
     rw [hc] at h1 h2
     simp at h1 h2
     subst h1; subst h2
     exact .bm p.1 [p.2] [_] rfl fun k y' z' h1 h2 => by
      match k with
      | 0 => simp at h1 h2; subst h1; subst h2; rw [← Array.getD_eq_getD_getElem?]; exact g5 j p.1 p.2 hc
      | n + 1 => simp at h1
  have hne0:hk ((b,none) :: st.hp) b=none:=by simp [hk]
  obtain ⟨ex0,hx1,hx2⟩ : ∃ ex',avEx q=some ex'∧∀ e,ex'=some e→e.jump.isSome=true:=by
   simp only [callOp] at hcall
   split at hcall
   ·rename_i r' bl hrf
    obtain ⟨ex',h1,h2,_,_,_⟩:=hsp r' bl _ rfl hrf
    injection hcall with hcall; injection hcall with hq _
    have hren:avEx (r'.ren fun j => some (backName (clos ((b,none) :: st.hp) 1000 (AV.namesL (capE caps :: xs)) []) st.nx j))=avEx r':=by
     rw [h1]
     unfold avEx at h1
     split at h1
     ·injection h1 with h1; subst h1; simp [AV.ren,AV.renL,avEx]
     ·rename_i i
      split at h1
      ·rename_i hi; injection h1 with h1; subst h1; simp [AV.ren,AV.renL,avEx,hi]
      ·cases h1
     ·injection h1 with h1; subst h1; simp [AV.ren,AV.renL,avEx]
     ·cases h1
    exact ⟨ex',by rw [← hq,hren]; exact h1,h2⟩
   ·cases hcall
  rw [hav] at hx1
  injection hx1 with hx1; subst hx1
  let KK:Ending→World→Prop:=fun _ w' => ∃ σ',HRel (C.lent l w) σ' (hk (ws0 ++ (b,none) :: st.hp)) w'∧SLe σ σ'∧HLe (frz (hk ((b,none) :: st.hp)) σ (C.lent l w).X w) (frz (hk (ws0 ++ (b,none) :: st.hp)) σ' (C.lent l w).X w')∧(∀ b,b < st.nx→σ' b=σ b)∧∀ b,st.nx + nn0≤b→σ' b=none
  have hround : RoundK P l r us ex w KK := by
   refine call_core (C:=C.lent l w) (st:={ st with hp:=(b,none) :: st.hp }) (D:=RoundK P l r us ex w) (Y:=fun k => k=l) hrc (fun r' bl ns hns hrf => ?_) (fun k hk => ?_) hcall RL hfr (by simp; omega) hcx fun u σ' w' h1 h2 h3 h4 h5 h6 => ⟨σ',h2,h3,h4,h5,h6⟩
   ·obtain ⟨ex',h1,h2,h3,h4,h5⟩:=hsp r' bl ns hns hrf
    refine ⟨h3,?_⟩
    have:ex'=ex:=by
     simp only [callOp] at hcall
     rw [← hns,hrf] at hcall
     injection hcall with hcall; injection hcall with hq _
     have hren:avEx (r'.ren fun j => some (backName ns st.nx j))=avEx r':=by
      rw [h1]
      unfold avEx at h1
      split at h1
      ·injection h1 with h1; subst h1; simp [AV.ren,AV.renL,avEx]
      ·rename_i i
       split at h1
       ·rename_i hi; injection h1 with h1; subst h1; simp [AV.ren,AV.renL,avEx,hi]
       ·cases h1
      ·injection h1 with h1; subst h1; simp [AV.ren,AV.renL,avEx]
      ·cases h1
     rw [← hq,hren,h1] at hav
     injection hav
    subst this
    exact h5
   ·subst hk
    exact ⟨.inr rfl,.inl (R.ow _ _ hbl).2.2⟩
  refine hround.mono ?_
  rintro e0 w'' ⟨u,w',⟨σ',r1,r2,r3,r4,r5⟩,hbusy,rfl,rfl⟩
  have hp1:hk (ws0 ++ (b,none) :: st.hp) b=none:=by rw [callOp_ne hcall hne0 hblt]; simp [hk]
  have hwsA:(ws0 ++ [(b,some (Blk.loop pf caps ex))]) ++ st.hp=ws0 ++ (b,some (Blk.loop pf caps ex)) :: st.hp:=by simp
  have hp2:hk (ws0 ++ (b,some (Blk.loop pf caps ex)) :: st.hp) b=some (.loop pf caps ex):=by rw [callOp_ne hcall hne0 hblt]; simp [hk]
  rw [hwsA] at hK
  rw [← hfz] at r3
  obtain ⟨s1,s2⟩:=R.unlend hb hσ r1 r2 r3 hp1 hp2 (fun c hc => hk_mid none _ hc) hbusy g3 g4 g5 hx2
  exact hK _ σ' _ (.fz _ _ (.sc _ rfl)) s1 r2 s2 r4 r5
theorem nav_low {c:Code} : ∀ (n p:Nat) (d:Code),nav c n p=some d→1≤p
 | 0,p,d,h => by simp [nav] at h
 | n + 1, p, d, h => by
  simp only [nav] at h
  split at h
  ·omega
  ·split at h
   ·rename_i e he
    have:=nav_low n _ _ he
    omega
   ·cases h
theorem rcOf_low {pf N:Nat} {ps:Array Nat} {as bd:Code} (h:rcOf P pf=some (N,ps,as,bd)):4096≤pf:=by
 unfold rcOf at h
 split at h
 ·split at h
  ·split at h
   ·rename_i hn
    have:=nav_low _ _ _ hn
    omega
   ·cases h
  ·cases h
 ·cases h
theorem callV_sound {rf:RF} (RS:RFSound P C.G rf) (hrc:C.rc=rcOf P) {fv:AV} {xs:List AV} {st:St} {v:AV} {ws:HW} {nn:Nat} (e:callV rf fv xs st=some (v,ws,nn)) (R:HRel C σ (hk st.hp) w) (hfr : ∀ b,st.nx≤b→σ b=none) {us:List Value} {uf:Value} (hf:VR σ (frz (hk st.hp) σ C.X w) fv uf) (hlen:xs.length=us.length)
 (hxs : ∀ (i:Nat) (x:AV) (u:Value),xs[i]? = some x→us[i]? = some u→VR σ (frz (hk st.hp) σ C.X w) x u) {K:Ending→World→Prop}
 (hK : ∀ u σ' w',VR σ' (frz (hk (ws ++ st.hp)) σ' C.X w') v u→HRel C σ' (hk (ws ++ st.hp)) w'→SLe σ σ'→HLe (frz (hk st.hp) σ C.X w) (frz (hk (ws ++ st.hp)) σ' C.X w')→(∀ b,b < st.nx→σ' b=σ b)→(∀ b,st.nx + nn≤b→σ' b=none)→K (.returned u) w') :
 (∀ g caps,fv=.fn g caps→∃ cvs,uf=.func (.func g) #[] cvs∧Does P g (us.toArray ++ cvs) w K) ∧
 ∃ d,(Deferred.ofValue uf us.toArray).run P w=.ok d w∧DoesN P ((invoke d.target d.args).run P w) K:=by
 have one : ∀ {g:FuncId} {ys:List AV} {vs:List Value},g < 4096→callOp rf g ys st=some (v,ws,nn)→ys.length=vs.length→(∀ (i:Nat) (x:AV) (u:Value),ys[i]? = some x→vs[i]? = some u→VR σ (frz (hk st.hp) σ C.X w) x u)→Does P g vs.toArray w K :=
  fun hg he hl hr => call_sound RS.fn hrc hg he R hfr hl hr hK
 cases fv with
 | fn g caps =>
  simp only [callV] at e
  split at e
  case isFalse => cases e
  rename_i hg
  obtain ⟨cvs,rfl,h1,h2⟩:=hf.fn_inv
  have:=one (vs:=us ++ cvs) hg e (by simp [hlen,h1]) fun i x u e1 e2 => by
   rw [List.getElem?_append] at e1 e2
   rw [hlen] at e1
   split at e1
   ·rename_i hk; rw [if_pos hk] at e2; exact hxs i x u e1 e2
   ·rename_i hk; rw [if_neg hk] at e2; exact h2 _ x u e1 e2
  have ea:us.toArray ++ cvs.toArray=(us ++ cvs).toArray:=by simp
  refine ⟨fun g' caps' he => ?_,_,rfl,?_⟩
  ·injection he with he1 he2; subst he1
   exact ⟨_,rfl,by rw [ea]; exact this⟩
  ·simp only [invoke,Array.empty_append,ea]; exact this.next
 | bm g fst =>
  simp only [callV] at e
  split at e
  case isFalse => cases e
  rename_i hg
  obtain ⟨cvs,rfl,h1,h2⟩:=hf.bm_inv
  have:=one (vs:=cvs ++ us) hg e (by simp [hlen,h1]) fun i x u e1 e2 => by
   rw [List.getElem?_append] at e1 e2
   rw [h1] at e1
   split at e1
   ·rename_i hk; rw [if_pos hk] at e2; exact h2 i x u e1 e2
   ·rename_i hk; rw [if_neg hk] at e2; exact hxs _ x u e1 e2
  have ea:cvs.toArray ++ us.toArray=(cvs ++ us).toArray:=by simp
  refine ⟨fun g' caps' he => (by cases he),_,rfl,?_⟩
  simp only [invoke,Array.append_empty,ea]; exact this.next
 | yl b =>
  simp only [callV] at e
  obtain ⟨l,hσ,rfl⟩:=hf.yl_inv
  refine ⟨fun g' caps' he => (by cases he),_,rfl,?_⟩
  have:=yld_sound RS.yl hrc (fun _ _ _ _ _ => rcOf_low) e R hfr hσ hlen hxs hK
  simp only [invoke,Array.empty_append]; exact this
 | _ => simp [callV] at e
end Go.Vai
