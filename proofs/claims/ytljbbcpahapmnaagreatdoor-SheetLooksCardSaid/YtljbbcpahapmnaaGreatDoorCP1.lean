/-
  What functions of layer 9 and of its reference compute: equations of the abstract run, and plain laws of them.
-/
import Derived.Test.YtljbbcpahapmnaaGreatDoorCU5
set_option linter.unusedVariables false
set_option linter.unusedSimpArgs false
set_option linter.unnecessarySimpa false
set_option linter.unusedSectionVars false
namespace Go.Vai
def errC (t:List UInt8):Cel:=(3,0,t)
def tVAL:List UInt8:=[35,86,65,76]
def numC (n:Int):Cel:=(1,n,[])
def rngP (a b c d:Int):List (Int × Int):=plcs (min a c) (min b d) (max a c) (max b d)
def strC (strict:Bool) (d:Cel):Cel:=if strict=true∧d.1=2 then errC tVAL else if strict=true∧d.1=0 then numC 0 else d
def isNE (d:Cel):Bool:=decide (d.1=1) || decide (d.1=3)
mutual
def namP:Nd→List (Int × Int)
 | .mk k _ _ a b c d l => (if k=3 then [(a,b)] else if k=4 then rngP a b c d else []) ++ namL l
def namL:List Nd→List (Int × Int)
 | [] => []
 | x :: r => namP x ++ namL r
end
mutual
def dep:Nd→Nat
 | .mk _ _ _ _ _ _ _ l => 1 + depL l
def depL:List Nd→Nat
 | [] => 0
 | x :: r => max (dep x) (depL r)
end
end Go.Vai
namespace Go.Vai
variable {m:Int} {e3 e4:Value}
abbrev FO:=Bool × List Int
def nxtL (C:List Cel) (a:FO) (p:Int × Int):FO:=match ixF p.1 p.2 C with
 | some j => (true,a.2 ++ [(j:Int)])
 | none => a
def fldL (C:List Cel) (O:List Int) (P:List (Int × Int)):List Int:=P.foldl (fun O p => addO O (ixF p.1 p.2 C)) O
theorem fld_len (C:List Cel) : ∀ (P:List (Int × Int)) (O:List Int),(fldL C O P).length≤O.length + P.length
 | [],O => Nat.le_refl _
 | p :: P, O => by
  have ih:=fld_len C P (addO O (ixF p.1 p.2 C))
  rw [show fldL C O (p :: P)=fldL C (addO O (ixF p.1 p.2 C)) P from rfl]
  have:(addO O (ixF p.1 p.2 C)).length≤O.length + 1:=by
   cases ixF p.1 p.2 C <;> simp [addO]
  rw [List.length_cons]; omega
theorem fld_app (C:List Cel) (O:List Int) (P Q:List (Int × Int)):fldL C O (P ++ Q)=fldL C (fldL C O P) Q:=List.foldl_append ..
def anyL (C:List Cel) (P:List (Int × Int)):Bool:=P.any fun p => (ixF p.1 p.2 C).isSome
theorem nxt_fold (C:List Cel) : ∀ (P:List (Int × Int)) (f:Bool) (O:List Int),P.foldl (nxtL C) (f,O)=(f || anyL C P,fldL C O P)
 | [],f,O => by simp [anyL,fldL]
 | p :: P, f, O => by
  rw [List.foldl_cons]
  cases h:ixF p.1 p.2 C with
  | none =>
   rw [show nxtL C (f,O) p=(f,O) by simp [nxtL,h],nxt_fold C P f O]
   simp [anyL,fldL,h,addO]
  | some j =>
   rw [show nxtL C (f,O) p=(true,O ++ [(j:Int)]) by simp [nxtL,h],nxt_fold C P true _]
   simp [anyL,fldL,h,addO]
theorem run_plc (x:WS) (O:List Int) (k n:Int) (t:List UInt8) (r1 c1 r2 c2:Int) (l:List Nd) (hb : -1000000≤r1∧r1≤1000000∧-1000000≤r2∧r2≤1000000∧-1000000≤c1∧c1≤1000000∧-1000000≤c2∧c2≤1000000) (hO:O.length + (rngP r1 c1 r2 c2).length≤1000000000) :
 (W m e3 e4).run 171 [.yl 0,.bp 14 0] (plBk false x O.length O (.mk k n t r1 c1 r2 c2 l))=some (.tup [],plBk (anyL x.cells (rngP r1 c1 r2 c2)) x (fldL x.cells O (rngP r1 c1 r2 c2)).length (fldL x.cells O (rngP r1 c1 r2 c2)) (.mk k n t r1 c1 r2 c2 l)):=by
 have h:=run_places (m:=m) (e3:=e3) (e4:=e4) (fun a:FO => plBk a.1 x a.2.length a.2 (.mk k n t r1 c1 r2 c2 l)) (fun j a => a.2.length + j≤1000000000) (nxtL x.cells) 15 14 (.fz (.sc (.int .i64 k))) (.fz (.sc (.int .i64 n))) (.fz (.sc (.string (mkB t)))) (.fz (.sl (eNds l))) r1 c1 r2 c2 hb (by omega) (by omega)
  (by rintro j ⟨f,P⟩ _; cases f <;> kernel_rfl) ?_ (by rintro j ⟨f,P⟩ _; cases f; exact ⟨[],by kernel_rfl,by kernel_rfl⟩; exact ⟨[15],by kernel_rfl,by kernel_rfl⟩) (false,O) hO rfl
 ·rw [show plcs (min r1 r2) (min c1 c2) (max r1 r2) (max c1 c2)=rngP r1 c1 r2 c2 from rfl,nxt_fold] at h
  simpa using h
 ·rintro j ⟨f,P⟩ hP a b _ _ _ _
  simp only at hP ⊢
  cases hi:ixF a b x.cells with
  | none =>
   rw [show nxtL x.cells (f,P) (a,b)=(f,P) by simp [nxtL,hi]]
   refine ⟨by simp only; omega,?_⟩
   cases f
   ·exact pl_ff x P k n t r1 c1 r2 c2 l a b (by omega) hi
   ·exact pl_tf x P k n t r1 c1 r2 c2 l a b (by omega) hi
  | some i =>
   rw [show nxtL x.cells (f,P) (a,b)=(true,P ++ [(i:Int)]) by simp [nxtL,hi]]
   refine ⟨by simp only [List.length_append,List.length_cons,List.length_nil]; omega,?_⟩
   simp only [List.length_append,List.length_cons,List.length_nil]
   cases f
   ·exact pl_ft x P k n t r1 c1 r2 c2 l a b (by omega) i hi
   ·exact pl_tt x P k n t r1 c1 r2 c2 l a b (by omega) i hi
end Go.Vai
namespace Go.Vai
def hL (strict:Bool) (p:Cel × Bool):List Cel:=if p.2=true then (if isNE p.1=true then [p.1] else []) else [strC strict p.1]
end Go.Vai
namespace Go.Vai
mutual
def gNd:Nd→Prop
 | .mk k n t a b c d l => ((-999999999≤n∧n≤999999999)∧t.length≤999999∧(k=3→plB a b=true∧l=[])∧(k=4→(plB a b=true∧plB c d=true)∧l=[])∧(k=5→(l.length=1∧t=[45])∨l.length=2)∧l.length≤300000)∧gNds l
def gNds:List Nd→Prop
 | [] => True
 | n :: r => gNd n∧gNds r
end
theorem gNds_mem : ∀ {l:List Nd},gNds l→∀ n∈l,gNd n
 | [],_,n,h => by cases h
 | m :: r,h,n,hn => by
  rcases List.mem_cons.1 hn with rfl | hn
  ·exact h.1
  ·exact gNds_mem h.2 n hn
theorem depL_mem : ∀ {l:List Nd} {n:Nd},n∈l→dep n≤depL l
 | m :: r,n,hn => by
  rw [depL]
  rcases List.mem_cons.1 hn with rfl | hn
  ·exact Nat.le_max_left _ _
  ·exact Nat.le_trans (depL_mem hn) (Nat.le_max_right _ _)
section
variable (C:List Cel) (N:List Nd) (fm rd:List Bool) (V:Nat→Cel) (rk:Nat→Nat)
variable {C N fm rd V rk}
end
end Go.Vai
namespace Go.Vai
theorem zr_len (a b:Int):(zr a b).length=(b + 1 - a).toNat:=by simp [zr]
theorem plcs_len (a b c d:Int):(plcs a b c d).length=(c + 1 - a).toNat * (d + 1 - b).toNat:=by
 unfold plcs
 rw [← zr_len a c,← zr_len b d]
 induction zr a c with
 | nil => simp
 | cons x r ih => rw [List.flatMap_cons,List.length_append,ih,List.length_map,List.length_cons,Nat.succ_mul]; omega
theorem plB_in {a b:Int} (h:plB a b=true):1≤a∧a≤99∧1≤b∧b≤26:=by
 unfold plB at h
 simp only [Bool.and_eq_true,decide_eq_true_eq] at h
 omega
theorem rng_len {a b c d:Int} (h1:plB a b=true) (h2:plB c d=true):(rngP a b c d).length≤2574:=by
 have g1:=plB_in h1
 have g2:=plB_in h2
 unfold rngP
 rw [plcs_len]
 have e1:(max a c + 1 - min a c).toNat≤99:=by omega
 have e2:(max b d + 1 - min b d).toNat≤26:=by omega
 exact Nat.le_trans (Nat.mul_le_mul e1 e2) (by decide)
section
variable {C:List Cel} {N:List Nd} {fm rd:List Bool} {V:Nat→Cel} {rk:Nat→Nat}
end
end Go.Vai
namespace Go.Vai
variable {m:Int} {e3 e4:Value}
theorem opt_callf {rf:RF} {g:FuncId} {caps xs:List AV} {st:St} {ns:List Nat} {xs':List AV} {bl:List (Option Blk)} {r:AV} {bl':List (Option Blk)} {Q:AV × HW × Nat→Prop} {w:Wit Q} (hg : @LT.lt Nat _ g 4096) (h1:clos st.hp 1000 (AV.namesL (xs ++ caps)) []=ns) (h2:AV.renL (idx ns) (xs ++ caps)=xs') (h3:blks st.hp (idx ns) ns=bl) (h4:rf g xs' bl=some (r,bl'))
 (k:Q (r.ren (fun j => some (backName ns st.nx j)),backHp ns st.nx (fun j => some (backName ns st.nx j)) 0 bl',bl'.length - ns.length)):optP (callV rf (.fn g caps) xs st) Q w:=by
 unfold callV
 simp only
 rw [if_pos hg,callOp_of h1 h2 h3 h4]
 exact k
theorem opt_yldf {rf:RF} {b:Nat} {xs:List AV} {sl:List (Nat × AV)} {hp:HW} {nx:Nat} {pf:FuncId} {caps:List (Nat × AV)} {ns:List Nat} {xs':List AV} {bl:List (Option Blk)} {bl':List (Option Blk)} {Q:AV × HW × Nat→Prop} {w:Wit Q} (h0:hk hp b=some (.loop pf caps none)) (h1:clos ((b,none) :: hp) 1000 (AV.namesL (capE caps :: xs)) []=ns) (h2:AV.renL (idx ns) (capE caps :: xs)=xs') (h3:blks ((b,none) :: hp) (idx ns) ns=bl) (h4:rf pf xs' bl=some (.tup [],bl'))
 (k:Q (.fz (.sc (.bool true)),backHp ns nx (fun j => some (backName ns nx j)) 0 bl' ++ [(b,some (.loop pf caps none))],bl'.length - ns.length)):optP (callV rf (.yl b) xs ⟨sl,hp,nx⟩) Q w:=by
 unfold callV
 simp only
 rw [yldOp_of h0 h1 h2 h3 h4]
 exact k
theorem opt_rfnf {G:Nat→Option (List FV)} {rf:RF} {g:LX} {pf:FuncId} {capT:List Nat} {its:List FuncId} {sl:List (Nat × AV)} {hp:HW} {nx:Nat} {fn:FuncId} {fcaps:List AV} {ns:List Nat} {xs':List AV} {bl bl':List (Option Blk)} {r:AV} {Q:Ex × St→Prop} {w:Wit Q} {pf':FuncId} {cp':List (Nat × AV)} {ex:Option Ex} (caps:List (Nat × AV))
 (hc:(capT.map fun t => (t,lk sl t))=caps) (hg:LX.av G sl g=.fn fn fcaps) (hi:its.contains fn=true) (h40 : @LT.lt Nat _ fn 4096)
 (h1:clos ((nx,some (.loop pf caps none)) :: hp) 1000 (AV.namesL ([.yl nx] ++ fcaps)) []=ns) (h2:AV.renL (idx ns) ([.yl nx] ++ fcaps)=xs') (h3:blks ((nx,some (.loop pf caps none)) :: hp) (idx ns) ns=bl) (h4:rf fn xs' bl=some (r,bl'))
 (h5:hk (backHp ns (nx + 1) (fun j => some (backName ns (nx + 1) j)) 0 bl' ++ (nx,some (.loop pf caps none)) :: hp) nx=some (.loop pf' cp' ex))
 (k:Q (ex.getD .nor,⟨sl,(nx,none) :: (backHp ns (nx + 1) (fun j => some (backName ns (nx + 1) j)) 0 bl' ++ (nx,some (.loop pf caps none)) :: hp),nx + 1 + (bl'.length - ns.length)⟩)):optP (rfnOp G rf g pf capT its ⟨sl,hp,nx⟩) Q w:=by
 unfold rfnOp
 subst hc
 simp only [hg,itOk,hi,if_true,callV,h40]
 rw [callOp_of h1 h2 h3 h4]
 simp only [h5]
 exact k
theorem run_places124 (k n:Int) (t:List UInt8) (a b c d:Int) (l:List Nd):(W m e3 e4).run 124 [.agg ((eNd (.mk k n t a b c d l)).map .fz)] []=some (.fn 171 [.bp 0 0],[some (.box ((eNd (.mk k n t a b c d l)).map .fz))]):=by
 rw [eNd]
 refine run_wp (by rw [W_T]; exact rfl) ?_
 simp -dsimp -implicitDefEqProofs (maxSteps:=1000000) (disch:=omega) [ST]
def wkB (f:Bool) (x:WS) (n:Nat) (O:List Int):List (Option Blk):=some (.box [.yl 1]) :: some (.loop 499754 [(2,.bp 2 0),(5,.bp 10 0)] none) :: some (.box [.bp 3 0]) :: (wBb 3 x ++ (match f with
 | false => [some (.box [.osl 11 1 0 n]),some (.arr 1 (O.map eIn)),some (.box [.fn 123 [.bp 0 0,.bp 12 0]])]
 | true => [some (.box [.osl 13 1 0 n]),none,some (.box [.fn 123 [.bp 0 0,.bp 12 0]]),some (.arr 1 (O.map eIn))]))
def S123w (x:WS) (l:List Nd) (a:FO × Nat):St:={ sl:=[(2,.bp 12 0),(4,.bp (wkB a.1.1 x a.1.2.length a.1.2).length 0),(26,rwS (eNds l)),(27,i64 l.length),(28,i64 a.2)],hp:=numd 0 (wkB a.1.1 x a.1.2.length a.1.2 ++ [some (.box [bo false])]),nx:=(wkB a.1.1 x a.1.2.length a.1.2).length + 1 }
theorem anyL_app (C:List Cel) (P Q:List (Int × Int)):anyL C (P ++ Q)=(anyL C P || anyL C Q):=List.any_append
theorem namL_take (l:List Nd) (i:Nat) (nd:Nd) (h:l[i]? = some nd):namL (l.take (i + 1))=namL (l.take i) ++ namP nd:=by
 have key : ∀ a b:List Nd,namL (a ++ b)=namL a ++ namL b:=by
  intro a b
  induction a with
  | nil => rfl
  | cons x r ih => rw [List.cons_append,namL,ih,namL,List.append_assoc]
 rw [List.take_add_one,h,key]
 simp [namL]
theorem namL_len (l:List Nd) (i:Nat) (nd:Nd) (h:l[i]? = some nd):(namL (l.take i)).length + (namP nd).length≤(namL l).length:=by
 have key : ∀ a b:List Nd,namL (a ++ b)=namL a ++ namL b:=by
  intro a b
  induction a with
  | nil => rfl
  | cons x r ih => rw [List.cons_append,namL,ih,namL,List.append_assoc]
 have h1:=namL_take l i nd h
 have h2:namL l=namL (l.take (i + 1)) ++ namL (l.drop (i + 1)):=by rw [← key,List.take_append_drop]
 rw [h2,h1,List.length_append,List.length_append]
 omega
theorem eNds_at : ∀ (l:List Nd) (i:Nat) (n:Nd),l[i]? = some n→(eNds l)[i]? = some (eNd n)
 | [],_,_,h => by simp at h
 | a :: r,0,n,h => by simp at h; simp [eNds,h]
 | a :: r,i + 1,n,h => by simp at h; simp [eNds]; exact eNds_at r i n h
set_option maxHeartbeats 4000000 in
theorem run_walk (x:WS) : ∀ (s:Nat) (nd:Nd) (O:List Int),dep nd≤s→gNd nd→O.length + (namP nd).length≤1000000000→(W m e3 e4).run 123 [ndA nd,.bp 0 0,.bp 12 0] (wkB false x O.length O)=some (bo true,wkB (anyL x.cells (namP nd)) x (fldL x.cells O (namP nd)).length (fldL x.cells O (namP nd)))
 | 0,nd,O,hs,_,_ => by obtain ⟨k,n,t,a,b,c,d,l⟩:=nd; rw [dep] at hs; omega
 | s + 1, .mk k n t a b c d l, O, hs, hg, hO => by
  obtain ⟨⟨q1,q2,q3,q4,q5,q6⟩,q7⟩:=hg
  rw [dep] at hs
  by_cases h3:k=3
  ·subst h3
   obtain ⟨hp3,hl⟩:=q3 rfl
   subst hl
   have hl:=run_look (m:=m) (e3:=e3) (e4:=e4) x O a b (by omega)
   refine run_wp (by rw [W_T]; exact rfl) ?_
   simp -dsimp -implicitDefEqProofs (maxSteps:=1000000) (disch:=omega) [ST,ndA,eNd,wkB,wBb,rwS,-callV]
   refine opt_yldf (pf:=499754) (caps:=[(2,.bp 2 0),(5,.bp 10 0)]) (ns:=[2,3,4,5,6,7,8,9,10,11]) (by kernel_rfl) (by kernel_rfl) (by kernel_rfl) (by kernel_rfl) hl ?_
   cases hi:ixF a b x.cells with
   | none =>
    have e1:anyL x.cells (namP (.mk 3 n t a b c d []))=false:=by simp [namP,namL,anyL,hi]
    have e2:fldL x.cells O (namP (.mk 3 n t a b c d []))=O:=by simp [namP,namL,fldL,hi,addO]
    rw [e1,e2]
    simp -dsimp -implicitDefEqProofs (maxSteps:=1000000) (disch:=omega) [ST,lookO,lookB,wBb,-fin0]
    show _=_
    kernel_rfl
   | some j =>
    have e1:anyL x.cells (namP (.mk 3 n t a b c d []))=true:=by simp [namP,namL,anyL,hi]
    have e2:fldL x.cells O (namP (.mk 3 n t a b c d []))=O ++ [(j:Int)]:=by simp [namP,namL,fldL,hi,addO]
    obtain ⟨P,hP⟩ : ∃ P,O ++ [(j:Int)]=P:=⟨_,rfl⟩
    have hPl:P.length=O.length + 1:=by rw [← hP,List.length_append]; rfl
    rw [e1,e2,hP,hPl]
    simp only [lookO,hP]
    simp -dsimp -implicitDefEqProofs (maxSteps:=1000000) (disch:=omega) [ST,wBb,-fin0]
    show _=_
    kernel_rfl
  by_cases h4:k=4
  ·subst h4
   obtain ⟨⟨p1,p2⟩,hl0⟩:=q4 rfl
   have hll:0=l.length:=by rw [hl0]; rfl
   have hpl:=run_places124 (m:=m) (e3:=e3) (e4:=e4) 4 n t a b c d l
   simp only [eNd,List.map_cons,List.map_nil] at hpl
   have v1:=plB_in p1
   have v2:=plB_in p2
   have hnm:namP (.mk 4 n t a b c d l)=rngP a b c d:=by rw [hl0]; simp [namP,namL]
   rw [hnm] at hO ⊢
   have hl:=run_plc (m:=m) (e3:=e3) (e4:=e4) x O 4 n t a b c d l (by omega) hO
   refine run_wp (by rw [W_T]; exact rfl) ?_
   simp -dsimp -implicitDefEqProofs (maxSteps:=1000000) (disch:=omega) [ST,ndA,eNd,wkB,wBb,rwS,hpl]
   refine opt_rfnf [(1,.bp 0 0),(4,.bp 14 0)] (by kernel_rfl) (fn:=171) (fcaps:=[.bp 23 0]) (ns:=[24,0,1,2,3,4,5,6,7,8,9,10,11,14,23]) rfl rfl (by decide) (by kernel_rfl) (by kernel_rfl) (by kernel_rfl) hl (pf':=7053435) (cp':=[(1,.bp 0 0),(4,.bp 14 0)]) (ex:=none) (by cases anyL x.cells (rngP a b c d) <;> kernel_rfl) ?_
   generalize anyL x.cells (rngP a b c d)=A
   generalize fldL x.cells O (rngP a b c d)=F
   cases A
   ·simp -dsimp -implicitDefEqProofs (maxSteps:=1000000) (disch:=omega) [ST,plBk,wBb]
    refine wp_inv (S123w x l) (fun p => p.1=(false,F)∧p.2=l.length) (fun p => 0) ((false,F),0) ⟨rfl,hll⟩ (by kernel_rfl) ?_
    rintro ⟨⟨f,P⟩,i⟩ ⟨g1,g2⟩
    simp only at g1 g2
    injection g1 with g1 g3
    subst g1; subst g3
    have h : ¬ i < l.length:=by omega
    simp -dsimp -implicitDefEqProofs (maxSteps:=1000000) (disch:=omega) [ST,S123w,wkB,wBb,rwS,h,-fin0]
    show _=_
    kernel_rfl
   ·simp -dsimp -implicitDefEqProofs (maxSteps:=1000000) (disch:=omega) [ST,plBk,wBb]
    refine wp_inv (S123w x l) (fun p => p.1=(true,F)∧p.2=l.length) (fun p => 0) ((true,F),0) ⟨rfl,hll⟩ (by kernel_rfl) ?_
    rintro ⟨⟨f,P⟩,i⟩ ⟨g1,g2⟩
    simp only at g1 g2
    injection g1 with g1 g3
    subst g1; subst g3
    have h : ¬ i < l.length:=by omega
    simp -dsimp -implicitDefEqProofs (maxSteps:=1000000) (disch:=omega) [ST,S123w,wkB,wBb,rwS,h,-fin0]
    show _=_
    kernel_rfl
  obtain ⟨R,hR⟩ : ∃ R,wkB (anyL x.cells (namP (.mk k n t a b c d l))) x (fldL x.cells O (namP (.mk k n t a b c d l))).length (fldL x.cells O (namP (.mk k n t a b c d l)))=R:=⟨_,rfl⟩
  rw [hR]
  rw [namP,if_neg h3,if_neg h4,List.nil_append] at hR hO
  refine run_wp (by rw [W_T]; exact rfl) ?_
  simp -dsimp -implicitDefEqProofs (maxSteps:=1000000) (disch:=omega) [ST,ndA,eNd,wkB,wBb,rwS,h3,h4]
  refine wp_inv (S123w x l) (fun p => p.2≤l.length∧p.1.2=fldL x.cells O (namL (l.take p.2))∧p.1.1=anyL x.cells (namL (l.take p.2))) (fun p => l.length - p.2) ((false,O),0) ⟨by simp,by simp [namL,fldL],by simp [namL,anyL]⟩ ?_ ?_
  ·kernel_rfl
  ·rintro ⟨⟨f,P⟩,i⟩ ⟨g1,g2,g3⟩
   simp only at g1 g2 g3
   by_cases h:i < l.length
   ·obtain ⟨y,hy⟩ : ∃ y,l[i]? = some y:=⟨_,List.getElem?_eq_getElem h⟩
    have ih:=run_walk x s y P (by have:=depL_mem (List.mem_of_getElem? hy); omega) (gNds_mem q7 y (List.mem_of_getElem? hy)) (by
     have h1:=namL_len l i y hy
     have h2:=fld_len x.cells (namL (l.take i)) O
     rw [← g2] at h2
     omega)
    have he:=eNds_at l i y hy
    obtain ⟨k',n',t',a',b',c',d',l'⟩:=y
    rw [eNd] at he
    have hf1:fldL x.cells P (namP (.mk k' n' t' a' b' c' d' l'))=fldL x.cells O (namL (l.take (i + 1))):=by rw [namL_take l i _ hy,fld_app,g2]
    have hf2:(f || anyL x.cells (namP (.mk k' n' t' a' b' c' d' l')))=anyL x.cells (namL (l.take (i + 1))):=by rw [namL_take l i _ hy,anyL_app,g3]
    generalize hA:anyL x.cells (namP (.mk k' n' t' a' b' c' d' l'))=A at *
    generalize hF:fldL x.cells P (namP (.mk k' n' t' a' b' c' d' l'))=F at *
    cases f
    ·simp -dsimp -implicitDefEqProofs (maxSteps:=1000000) (disch:=omega) [ST,S123w,wkB,wBb,rwS,h,he,-callV]
     refine opt_callf (by decide) (ns:=[0,1,2,3,4,5,6,7,8,9,10,11,12]) (by kernel_rfl) (by kernel_rfl) (by kernel_rfl) ih ?_
     cases A
     ·simp -dsimp -implicitDefEqProofs (maxSteps:=1000000) (disch:=omega) [ST,wkB,wBb]
      refine again ((false,F),i + 1) ⟨by simp only; omega,hf1,hf2⟩ (by simp only; omega) (by kernel_rfl)
     ·simp -dsimp -implicitDefEqProofs (maxSteps:=1000000) (disch:=omega) [ST,wkB,wBb]
      refine again ((true,F),i + 1) ⟨by simp only; omega,hf1,hf2⟩ (by simp only; omega) (by kernel_rfl)
    ·simp -dsimp -implicitDefEqProofs (maxSteps:=1000000) (disch:=omega) [ST,S123w,wkB,wBb,rwS,h,he,-callV]
     refine opt_callf (by decide) (ns:=[0,1,2,3,4,5,6,7,8,9,10,13,12]) (by kernel_rfl) (by kernel_rfl) (by kernel_rfl) ih ?_
     cases A
     ·simp -dsimp -implicitDefEqProofs (maxSteps:=1000000) (disch:=omega) [ST,wkB,wBb]
      refine again ((true,F),i + 1) ⟨by simp only; omega,hf1,hf2⟩ (by simp only; omega) (by kernel_rfl)
     ·simp -dsimp -implicitDefEqProofs (maxSteps:=1000000) (disch:=omega) [ST,wkB,wBb]
      refine again ((true,F),i + 1) ⟨by simp only; omega,hf1,hf2⟩ (by simp only; omega) (by kernel_rfl)
   ·obtain rfl:i=l.length:=by omega
    rw [List.take_length] at g2 g3
    rw [← g2,← g3] at hR
    subst hR
    cases f
    ·simp -dsimp -implicitDefEqProofs (maxSteps:=1000000) (disch:=omega) [ST,S123w,wkB,wBb,rwS,h,-fin0]
     kernel_rfl
    ·simp -dsimp -implicitDefEqProofs (maxSteps:=1000000) (disch:=omega) [ST,S123w,wkB,wBb,rwS,h,-fin0]
     kernel_rfl
end Go.Vai
namespace Go.Vai
variable {m:Int} {e3 e4:Value}
def nmB (f:Bool) (x:WS) (n:Nat) (O:List Int) (nd:Nd):List (Option Blk):=some (.loop 499754 [(2,.bp 1 0),(5,.bp 9 0)] none) :: some (.box [.bp 2 0]) :: (wBb 2 x ++ (match f with
 | false => [some (.box [.osl 10 1 0 n]),some (.arr 1 (O.map eIn)),some (.box ((eNd nd).map .fz))]
 | true => [some (.box [.osl 12 1 0 n]),none,some (.box ((eNd nd).map .fz)),some (.arr 1 (O.map eIn))]))
theorem run_named1 (x:WS) (nd:Nd) (O:List Int) (hg:gNd nd) (hO:O.length + (namP nd).length≤1000000000):(W m e3 e4).run 122 [.yl 0,.bp 11 0] (nmB false x O.length O nd)=some (.tup [],nmB (anyL x.cells (namP nd)) x (fldL x.cells O (namP nd)).length (fldL x.cells O (namP nd)) nd):=by
 have hw:=run_walk (m:=m) (e3:=e3) (e4:=e4) x _ nd O (Nat.le_refl _) hg hO
 generalize anyL x.cells (namP nd)=A at *
 generalize fldL x.cells O (namP nd)=F at *
 obtain ⟨k,n,t,a,b,c,d,l⟩:=nd
 refine run_wp (by rw [W_T]; exact rfl) ?_
 simp -dsimp -implicitDefEqProofs (maxSteps:=1000000) (disch:=omega) [ST,nmB,wBb,rwS,eNd,-callV]
 refine opt_callf (by decide) (ns:=[12,0,1,2,3,4,5,6,7,8,9,10,13]) (by kernel_rfl) (by kernel_rfl) (by kernel_rfl) hw ?_
 cases A
 ·simp -dsimp -implicitDefEqProofs (maxSteps:=1000000) (disch:=omega) [ST,wkB,wBb,-fin0]
  show _=_
  kernel_rfl
 ·simp -dsimp -implicitDefEqProofs (maxSteps:=1000000) (disch:=omega) [ST,wkB,wBb,-fin0]
  show _=_
  kernel_rfl
theorem run_named88 (k n:Int) (t:List UInt8) (a b c d:Int) (l:List Nd):(W m e3 e4).run 88 [.agg [i64 k,i64 n,bs t,i64 a,i64 b,i64 c,i64 d,.fz (.sl (eNds l))]] []=some (.fn 122 [.bp 0 0],[some (.box [i64 k,i64 n,bs t,i64 a,i64 b,i64 c,i64 d,.fz (.sl (eNds l))])]):=by
 refine run_wp (by rw [W_T]; exact rfl) ?_
 simp -dsimp -implicitDefEqProofs (maxSteps:=1000000) (disch:=omega) [ST]
theorem run_sortZ (l:List Int) (h:l.length < 4611686018427387904):(W m e3 e4).run 89 [.osl 0 1 0 l.length] [some (.arr 1 (l.map eIn))]=some (.tup [],[some (.arr 1 ((sortZ l).map eIn))]):=by
 have h1:intsOf (l.map eIn)=some l:=by
  clear h
  induction l with
  | nil => rfl
  | cons a r ih => simp [intsOf,eIn] at ih ⊢; exact ih
 refine run_E rfl ?_
 simp only [Ez,h1,Option.bind_some]
 rw [if_pos ⟨trivial,h⟩]
 rfl
theorem sortZ_len : ∀ l:List Int,(sortZ l).length=l.length
 | [] => rfl
 | a :: r => by
  have key : ∀ (c:Int) (l:List Int),(insZ c l).length=l.length + 1:=by
   intro c l
   induction l with
   | nil => rfl
   | cons d l ih => rw [insZ]; split <;> simp [ih]
  rw [sortZ,key,sortZ_len r]; rfl
def usesL (x:WS) (i:Nat):List Int:=if x.fm[i]? = some true then cmpZ (sortZ (fldL x.cells [] (namP (x.nodes[i]?.getD zNd)))) else []
structure WOk (x:WS):Prop where
 n:x.nodes.length=x.cells.length
 f:x.fm.length=x.cells.length
 r:x.rd.length=x.cells.length
 v:x.vals.length=x.cells.length
 k:x.kn.length=x.cells.length
 l:x.cells.length≤100000
 g : ∀ nd∈x.nodes,gNd nd∧(namP nd).length≤100000000
theorem fin_row {m0:Nat} {sl:List (Nat × AV)} {hp:HW} {nx t b sz len:Nat} {es es':List (List FV)} {ns:List Nat} {bl':List (Option Blk)} (hv:lk sl t=.osl b sz 0 len) (hm : ¬ b < m0) (hb:hk hp b=some (.arr sz es)) (hl:len≤es.length) (he:es.take len=es')
 (h1:clos ((b,none) :: hp) 1000 (argNames m0 ((b,none) :: hp) ++ []) (upTo m0)=ns) (h2:blks ((b,none) :: hp) (idx ns) ns=bl'):fin0 [.t t] false m0 ⟨sl,hp,nx⟩=some (.fz (.sl es'),bl'):=by
 have h3:fro1 m0 hp (.osl b sz 0 len)=(.fz (.sl es'),(b,none) :: hp):=by
  unfold fro1
  simp only [if_neg hm,rdArr,hb]
  simp [hl,he]
 have h4:froL m0 hp [.osl b sz 0 len]=([.fz (.sl es')],(b,none) :: hp):=by
  simp only [froL,froA,h3]
 simp only [fin0,resL,resOf,hv,Bool.false_eq_true,if_false,h4,tupOf,AV.names,h1,AV.ren,h2]
set_option maxHeartbeats 4000000 in
theorem run_uses (x:WS) (i:Nat) (hx:WOk x) (hi:i < x.cells.length):(W m e3 e4).run 42 [.bp 0 0,i64 i] (wBb 0 x)=some (rwS ((usesL x i).map eIn),wBb 0 x):=by
 obtain ⟨b,hb⟩ : ∃ b,x.fm[i]? = some b:=⟨_,List.getElem?_eq_getElem (by rw [hx.f]; exact hi)⟩
 have hb' : ∀ h:i < x.fm.length,x.fm[i]=b:=fun h => (List.getElem?_eq_some_iff.1 hb).2
 have hfi:i < x.fm.length:=by rw [hx.f]; exact hi
 have hni:i < x.nodes.length:=by rw [hx.n]; exact hi
 cases b with
 | false =>
  have e:usesL x i=[]:=by unfold usesL; rw [hb]; rfl
  rw [e]
  refine run_wp (by rw [W_T]; exact rfl) ?_
  simp -dsimp -implicitDefEqProofs (maxSteps:=1000000) (disch:=omega) [ST,wBb,rwS,hb',hfi,eBo,-fin0]
  show _=_
  kernel_rfl
 | true =>
  obtain ⟨nd,hnd⟩ : ∃ nd,x.nodes[i]? = some nd:=⟨_,List.getElem?_eq_getElem hni⟩
  have hnd' : ∀ h:i < x.nodes.length,x.nodes[i]=nd:=fun h => (List.getElem?_eq_some_iff.1 hnd).2
  obtain ⟨g1,g2⟩:=hx.g nd (List.mem_of_getElem? hnd)
  have hw:=run_named1 (m:=m) (e3:=e3) (e4:=e4) x nd [] g1 (by simp; omega)
  have hF:=fld_len x.cells (namP nd) []
  have e:usesL x i=cmpZ (sortZ (fldL x.cells [] (namP nd))):=by unfold usesL; rw [hb,hnd]; rfl
  rw [e]
  generalize anyL x.cells (namP nd)=A at *
  generalize fldL x.cells [] (namP nd)=F at *
  obtain ⟨k,n,t,a,b,c,d,l⟩:=nd
  have h88:=run_named88 (m:=m) (e3:=e3) (e4:=e4) k n t a b c d l
  refine run_wp (by rw [W_T]; exact rfl) ?_
  simp -dsimp -implicitDefEqProofs (maxSteps:=1000000) (disch:=omega) [ST,wBb,rwS,hb',hfi,hnd',hni,eBo,eNd,h88]
  have hso:=run_sortZ (m:=m) (e3:=e3) (e4:=e4) F (by simp only [List.length_nil] at hF; omega)
  have hsl:=sortZ_len F
  have hcm:=run_compact (m:=m) (e3:=e3) (e4:=e4) (sortZ F) (by simp only [List.length_nil] at hF; omega)
  have hcl:=cmp_len (sortZ F)
  rw [hsl] at hcm hcl
  generalize sortZ F=G at *
  generalize cmpZ G=H at *
  refine opt_rfnf [(2,.bp 7 0),(5,.bp 9 0)] (by kernel_rfl) (fn:=122) (fcaps:=[.bp 26 0]) (ns:=[28,7,0,1,2,3,4,5,6,9,27,26]) rfl rfl (by decide) (by kernel_rfl) (by kernel_rfl) (by kernel_rfl) hw (pf':=499754) (cp':=[(2,.bp 7 0),(5,.bp 9 0)]) (ex:=none) (by cases A <;> kernel_rfl) ?_
  have h1:(AV.osl 27 1 0 F.length).names=[27]:=rfl
  cases A
  ·simp -dsimp -implicitDefEqProofs (maxSteps:=1000000) (disch:=omega) [ST,nmB,wBb,hso,hcm,-fin0]
   refine fin_row (b:=27) (sz:=1) (len:=H.length) rfl (by omega) rfl (by simp) (by simp) (ns:=[0,1,2,3,4,5,6]) (by kernel_rfl) (by kernel_rfl)
  ·simp -dsimp -implicitDefEqProofs (maxSteps:=1000000) (disch:=omega) [ST,nmB,wBb,hso,hcm,-fin0]
   refine fin_row (b:=29) (sz:=1) (len:=H.length) rfl (by omega) rfl (by simp) (by simp) (ns:=[0,1,2,3,4,5,6]) (by kernel_rfl) (by kernel_rfl)
end Go.Vai
