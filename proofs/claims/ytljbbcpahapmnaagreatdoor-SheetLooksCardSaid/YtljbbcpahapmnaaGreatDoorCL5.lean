/-
  What functions of layer 9 and of its reference compute: equations of the abstract run, and plain laws of them.
-/
import Derived.Test.YtljbbcpahapmnaaGreatDoorCK5
set_option linter.unusedVariables false
set_option linter.unusedSimpArgs false
set_option linter.unnecessarySimpa false
set_option linter.unusedSectionVars false
namespace Go.Vai
variable {m:Int} {e3 e4:Value}
theorem RP_shape {x:Rd} {d:Nat} {tl:List (Option Blk)} {R:AV × List (Option Blk)} (h:RP x d tl R) : ∃ n ts' b,R=(ndA n,rdB ts' d b :: tl)∧((b=true∧x=none)∨(b=false∧x=some (n,ts'))):=by
 cases x with
 | none => obtain ⟨n,ts',rfl⟩:=h; exact ⟨n,ts',true,rfl,.inl ⟨rfl,rfl⟩⟩
 | some p => exact ⟨p.1,p.2,false,h,.inr ⟨rfl,rfl⟩⟩
theorem RR_shape {x:Rd} {d:Nat} {r:Option (AV × List (Option Blk))} (h:RR x d r) : ∃ n ts' b,r=some (ndA n,[rdB ts' d b])∧((b=true∧x=none)∨(b=false∧x=some (n,ts'))):=by
 obtain ⟨R,h1,h2⟩:=(RR_iff x d r).1 h
 obtain ⟨n,ts',b,rfl,h3⟩:=RP_shape h1
 exact ⟨n,ts',b,h2,h3⟩
theorem RR_of {x:Rd} {d:Nat} {n:Nd} {ts':List Tok} {b:Bool} {r:Option (AV × List (Option Blk))} (hr:r=some (ndA n,[rdB ts' d b])) (h:(b=true∧x=none)∨(b=false∧x=some (n,ts'))):RR x d r:=by
 rcases h with ⟨rfl,rfl⟩ | ⟨rfl,rfl⟩
 ·exact ⟨n,ts',hr⟩
 ·exact hr
def needK:PK→Nat
 | .form => 7
 | .join => 6
 | .sum => 5
 | .prod => 4
 | .minus => 3
 | .single => 2
def fnK:PK→FuncId
 | .form => 62
 | .join => 106
 | .sum => 148
 | .prod => 199
 | .minus => 248
 | .single => 272
def IHk (m:Int) (e3 e4:Value) (k:Nat):Prop := ∀ (K:PK) (d:Nat) (ts:List Tok),d≤32→ts.length≤1000000000000→8 * ts.length + needK K≤k→RR (pr k K d ts) d ((W m e3 e4).run (fnK K) [.bp 0 0] [rdB ts d false])
theorem run_join {k:Nat} (ih:IHk m e3 e4 k) (d:Nat) (ts:List Tok) (hd:d≤32) (hl:ts.length≤1000000000000) (hk:8 * ts.length + 6≤k + 1):RR (pr (k + 1) .join d ts) d ((W m e3 e4).run 106 [.bp 0 0] [rdB ts d false]):=by
 obtain ⟨R,hR,h⟩:=run_row (m:=m) (e3:=e3) (e4:=e4) 148 (by decide) (pr k .sum d) [[38]] d ts.length (by simp) (by omega) hl (pr_len k .sum d) (fun ts' h' => ih .sum d ts' hd (by omega) (by simp only [needK]; omega)) ts (Nat.le_refl _)
 obtain ⟨n,ts',b,rfl,hs⟩:=RP_shape hR
 refine RR_of (n:=n) (ts':=ts') (b:=b) ?_ hs
 obtain ⟨kk,n,t,p1,p2,p3,p4,l⟩:=n
 refine run_wp (by rw [W_T]; exact rfl) ?_
 simp only [rdB,sgB,ndA_mk,eS,List.map,List.length_cons,List.length_nil,Nat.zero_add] at h ⊢
 simp -dsimp -implicitDefEqProofs (maxSteps:=1000000) (disch:=omega) [ST,h]
theorem run_sum {k:Nat} (ih:IHk m e3 e4 k) (d:Nat) (ts:List Tok) (hd:d≤32) (hl:ts.length≤1000000000000) (hk:8 * ts.length + 5≤k + 1):RR (pr (k + 1) .sum d ts) d ((W m e3 e4).run 148 [.bp 0 0] [rdB ts d false]):=by
 obtain ⟨R,hR,h⟩:=run_row (m:=m) (e3:=e3) (e4:=e4) 199 (by decide) (pr k .prod d) [[43],[45]] d ts.length (by simp) (by omega) hl (pr_len k .prod d) (fun ts' h' => ih .prod d ts' hd (by omega) (by simp only [needK]; omega)) ts (Nat.le_refl _)
 obtain ⟨n,ts',b,rfl,hs⟩:=RP_shape hR
 refine RR_of (n:=n) (ts':=ts') (b:=b) ?_ hs
 obtain ⟨kk,n,t,p1,p2,p3,p4,l⟩:=n
 refine run_wp (by rw [W_T]; exact rfl) ?_
 simp only [rdB,sgB,ndA_mk,eS,List.map,List.length_cons,List.length_nil,Nat.zero_add] at h ⊢
 simp -dsimp -implicitDefEqProofs (maxSteps:=1000000) (disch:=omega) [ST,h]
theorem run_prod {k:Nat} (ih:IHk m e3 e4 k) (d:Nat) (ts:List Tok) (hd:d≤32) (hl:ts.length≤1000000000000) (hk:8 * ts.length + 4≤k + 1):RR (pr (k + 1) .prod d ts) d ((W m e3 e4).run 199 [.bp 0 0] [rdB ts d false]):=by
 obtain ⟨R,hR,h⟩:=run_row (m:=m) (e3:=e3) (e4:=e4) 248 (by decide) (pr k .minus d) [[42],[47]] d ts.length (by simp) (by omega) hl (pr_len k .minus d) (fun ts' h' => ih .minus d ts' hd (by omega) (by simp only [needK]; omega)) ts (Nat.le_refl _)
 obtain ⟨n,ts',b,rfl,hs⟩:=RP_shape hR
 refine RR_of (n:=n) (ts':=ts') (b:=b) ?_ hs
 obtain ⟨kk,n,t,p1,p2,p3,p4,l⟩:=n
 refine run_wp (by rw [W_T]; exact rfl) ?_
 simp only [rdB,sgB,ndA_mk,eS,List.map,List.length_cons,List.length_nil,Nat.zero_add] at h ⊢
 simp -dsimp -implicitDefEqProofs (maxSteps:=1000000) (disch:=omega) [ST,h]
theorem run_minus {k:Nat} (ih:IHk m e3 e4 k) (d:Nat) (ts:List Tok) (hd:d≤32) (hl:ts.length≤1000000000000) (hk:8 * ts.length + 3≤k + 1):RR (pr (k + 1) .minus d ts) d ((W m e3 e4).run 248 [.bp 0 0] [rdB ts d false]):=by
 have hs:=run_sign (m:=m) (e3:=e3) (e4:=e4) [[45]] ts d (by simp) (by omega) hl
 simp only [pr]
 cases htk:takeS [[45]] ts with
 | none =>
  rw [htk] at hs
  simp only
  obtain ⟨n,ts',b,h1,h2⟩:=RR_shape (ih .single d ts hd hl (by simp only [needK]; omega))
  refine RR_of (n:=n) (ts':=ts') (b:=b) ?_ h2
  obtain ⟨kk,n,t,p1,p2,p3,p4,l⟩:=n
  refine run_wp (by rw [W_T]; exact rfl) ?_
  simp only [rdB,sgB,ndA_mk,eS,List.map,List.length_cons,List.length_nil,Nat.zero_add,fnK] at h1 hs ⊢
  simp -dsimp -implicitDefEqProofs (maxSteps:=1000000) (disch:=omega) [ST,h1,hs]
 | some q =>
  obtain ⟨s,r⟩:=q
  have hl3:=(takeS_len htk).1
  simp only at hl3
  rw [htk] at hs
  simp only
  by_cases hdeep:d + 1 > 32
  ·rw [if_pos hdeep]
   have hu:=run_under_deep (m:=m) (e3:=e3) (e4:=e4) (.bm 248 [.bp 0 0]) r d hdeep (by omega) [] (.inr rfl)
   refine RR_of (n:=op1 zNd) (ts':=r) (b:=true) ?_ (.inl ⟨rfl,rfl⟩)
   refine run_wp (by rw [W_T]; exact rfl) ?_
   simp only [rdB,sgB,zNd,op1,ndA_mk,eS,List.map,List.length_cons,List.length_nil,Nat.zero_add] at hu hs ⊢
   simp -dsimp -implicitDefEqProofs (maxSteps:=1000000) (disch:=omega) [ST,hu,hs,eNds,eNd]
  ·rw [if_neg hdeep]
   obtain ⟨n,ts',b,h1,h2⟩:=RR_shape (ih .minus (d + 1) r (by omega) (by omega) (by simp only [needK]; omega))
   have hu:=run_under (m:=m) (e3:=e3) (e4:=e4) 248 (by decide) r ts' d b n (by omega) h1
   refine RR_of (n:=op1 n) (ts':=ts') (b:=b) ?_ ?_
   ·obtain ⟨kk,n,t,p1,p2,p3,p4,l⟩:=n
    refine run_wp (by rw [W_T]; exact rfl) ?_
    simp only [rdB,sgB,op1,ndA_mk,eS,List.map,List.length_cons,List.length_nil,Nat.zero_add] at hu hs ⊢
    simp -dsimp -implicitDefEqProofs (maxSteps:=1000000) (disch:=omega) [ST,hu,hs,eNds,eNd]
   ·rcases h2 with ⟨rfl,h2⟩ | ⟨rfl,h2⟩
    ·exact .inl ⟨rfl,by rw [h2]; rfl⟩
    ·exact .inr ⟨rfl,by rw [h2]; rfl⟩
theorem run_form {k:Nat} (ih:IHk m e3 e4 k) (d:Nat) (ts:List Tok) (hd:d≤32) (hl:ts.length≤1000000000000) (hk:8 * ts.length + 7≤k + 1):RR (pr (k + 1) .form d ts) d ((W m e3 e4).run 62 [.bp 0 0] [rdB ts d false]):=by
 simp only [pr]
 obtain ⟨n1,ts1,b1,h1,h2⟩:=RR_shape (ih .join d ts hd hl (by simp only [needK]; omega))
 rcases h2 with ⟨rfl,h2⟩ | ⟨rfl,h2⟩
 ·rw [h2]
  have hs:=run_sign_bad (m:=m) (e3:=e3) (e4:=e4) cmpL ts1 d
  refine RR_of (n:=n1) (ts':=ts1) (b:=true) ?_ (.inl ⟨rfl,rfl⟩)
  obtain ⟨kk,n,t,p1,p2,p3,p4,l⟩:=n1
  refine run_wp (by rw [W_T]; exact rfl) ?_
  simp only [rdB,sgB,cmpL,ndA_mk,eS,List.map,List.length_cons,List.length_nil,Nat.zero_add,fnK] at h1 hs ⊢
  simp -dsimp -implicitDefEqProofs (maxSteps:=1000000) (disch:=omega) [ST,h1,hs]
 ·have hlen:=pr_len _ _ _ _ _ _ h2
  rw [h2]
  simp only
  have hs:=run_sign (m:=m) (e3:=e3) (e4:=e4) cmpL ts1 d (by decide) (by omega) (by omega)
  rw [pRow]
  cases htk:takeS cmpL ts1 with
  | none =>
   rw [htk] at hs
   refine RR_of (n:=n1) (ts':=ts1) (b:=false) ?_ (.inr ⟨rfl,rfl⟩)
   obtain ⟨kk,n,t,p1,p2,p3,p4,l⟩:=n1
   refine run_wp (by rw [W_T]; exact rfl) ?_
   simp only [rdB,sgB,cmpL,ndA_mk,eS,List.map,List.length_cons,List.length_nil,Nat.zero_add,fnK] at h1 hs ⊢
   simp -dsimp -implicitDefEqProofs (maxSteps:=1000000) (disch:=omega) [ST,h1,hs]
  | some q =>
   obtain ⟨s,r⟩:=q
   have hl3:=(takeS_len htk).1
   simp only at hl3
   rw [htk] at hs
   simp only
   obtain ⟨n2,ts2,b2,h3,h4⟩:=RR_shape (ih .join d r hd (by omega) (by simp only [needK]; omega))
   refine RR_of (n:=op2 s n1 n2) (ts':=ts2) (b:=b2) ?_ ?_
   ·obtain ⟨kk,n,t,p1,p2,p3,p4,l⟩:=n1
    obtain ⟨kk',n',t',q1,q2,q3,q4,l'⟩:=n2
    refine run_wp (by rw [W_T]; exact rfl) ?_
    simp only [rdB,sgB,cmpL,op2,ndA_mk,eS,List.map,List.length_cons,List.length_nil,Nat.zero_add,fnK] at h1 h3 hs ⊢
    simp -dsimp -implicitDefEqProofs (maxSteps:=1000000) (disch:=omega) [ST,h1,h3,hs,eNds,eNd]
   ·rcases h4 with ⟨rfl,h4⟩ | ⟨rfl,h4⟩
    ·exact .inl ⟨rfl,by rw [h4]⟩
    ·exact .inr ⟨rfl,by rw [h4]; rfl⟩
end Go.Vai
namespace Go.Vai
variable {m:Int} {e3 e4:Value}
theorem eNds_app (l:List Nd) (n:Nd):eNds (l ++ [n])=eNds l ++ [eNd n]:=by
 induction l with
 | nil => rfl
 | cons a r ih => simp [eNds,ih]
@[simp] theorem eNds_len (l : List Nd) : (eNds l).length = l.length := by
 induction l with
 | nil => rfl
 | cons a r ih => simp [eNds,ih]
@[simp] theorem eNds_ok (l : List Nd) : okSz 8 (eNds l) = true := by
 induction l with
 | nil => rfl
 | cons a r ih => simp only [eNds,okSz_cons,ih]; simp
@[simp] theorem eNds_take (l : List Nd) : (eNds l).take l.length = eNds l := by rw [← eNds_len l, List.take_length]
@[simp] theorem eNds_get (l : List Nd) (c : List FV) : (eNds l ++ [c])[l.length]? = some c := by
 rw [← eNds_len l]; simp
@[simp] theorem eNds_set (l : List Nd) (c x : List FV) : (eNds l ++ [c]).set l.length x = eNds l ++ [x] := by
 rw [← eNds_len l]; simp
@[simp] theorem eNds_take1 (l : List Nd) (c : List FV) : (eNds l ++ [c]).take (l.length + 1) = eNds l ++ [c] := List.take_of_length_le (by simp)
structure Arg236 where
 l:List Nd
 ts:List Tok
 j:Nat
def S236 (t:List UInt8) (d:Nat) (x:Arg236):St :=
 { sl := [(0, .bp 0 0), (1, .bp 1 0), (2, .bp 4 0)],
   hp:=[(0,some (.box [i64 6,i64 0,bs t,i64 0,i64 0,i64 0,i64 0,.osl 3 8 0 x.l.length])),(1,some (.box [.bp 2 0])),(2,rdB x.ts d false),(3,some (.arr 8 (eNds x.l))),(4,some (.box [i64 0,i64 0,bs [],i64 0,i64 0,i64 0,i64 0,.emp]))],nx:=5 }
def P236 (t:List UInt8) (d:Nat) (X:Option (List Nd × List Tok)) (R:AV × List (Option Blk)):Prop :=
 ∃ l ts' b,R=(ndA zNd,[some (.box [i64 6,i64 0,bs t,i64 0,i64 0,i64 0,i64 0,.osl 3 8 0 l.length]),some (.box [.bp 2 0]),rdB ts' d b,some (.arr 8 (eNds l))])∧((b=true∧X=none)∨(b=false∧X=some (l,ts')))
theorem run_args {k:Nat} (ih:IHk m e3 e4 k) (t:List UInt8) (d:Nat) (ts:List Tok) (hd:d≤32) (hl:ts.length≤1000000000000) (hk:8 * ts.length + 7≤k) :
 ∃ R,P236 t d (pArg (pr k .form d) (ts.length + 1) [] ts) R∧(W m e3 e4).run 286 [.bp 0 0,.bp 1 0] [some (.box [i64 6,i64 0,bs t,i64 0,i64 0,i64 0,i64 0,.emp]),some (.box [.bp 2 0]),rdB ts d false]=some R:=by
 refine run_wpE (by rw [W_T]; exact rfl) ?_
 generalize hX:pArg (pr k .form d) (ts.length + 1) [] ts=X
 simp only [rdB]
 simp -dsimp -implicitDefEqProofs (maxSteps:=1000000) (disch:=omega) [ST]
 refine wp_inv (S236 t d) (fun x => x.ts.length < x.j∧x.l.length + x.ts.length≤ts.length∧pArg (pr k .form d) x.j x.l x.ts=X) (fun x => x.ts.length) ⟨[],ts,ts.length + 1⟩ ⟨by simp,by simp,hX⟩ (by simp -dsimp -implicitDefEqProofs (maxSteps:=1000000) (disch:=omega) [ST,S236,rdB,eNds]) ?_
 rintro ⟨l,ts1,j⟩ ⟨g1,g2,g3⟩
 simp only at g1 g2 g3
 obtain ⟨j,rfl⟩ : ∃ j',j=j' + 1:=⟨j - 1,by omega⟩
 rw [pArg] at g3
 obtain ⟨n2,ts2,b2,h3,h4⟩:=RR_shape (ih .form d ts1 hd (by omega) (by simp only [needK]; omega))
 have nd8:eNd n2=eNd n2:=rfl
 obtain ⟨kk,n,t2,p1,p2,p3,p4,l2⟩:=n2
 rcases h4 with ⟨rfl,h4⟩ | ⟨rfl,h4⟩
 ·rw [h4] at g3
  simp only at g3
  have hs:=run_sign_bad (m:=m) (e3:=e3) (e4:=e4) [[44]] ts2 d
  simp only [rdB,sgB,ndA_mk,eS,List.map,List.length_cons,List.length_nil,Nat.zero_add,fnK] at h3 hs
  simp -dsimp -implicitDefEqProofs (maxSteps:=1000000) (disch:=omega) [ST,S236,rdB,h3,hs,show l.length + 1≤140737488355328 by omega]
  refine ⟨l ++ [.mk kk n t2 p1 p2 p3 p4 l2],ts2,true,?_,.inl ⟨rfl,g3.symm⟩⟩
  simp [zNd,ndA_mk,eNds_app,eNd,eNds,rdB]
 ·have hlen:=pr_len _ _ _ _ _ _ h4
  rw [h4] at g3
  simp only at g3
  have hs:=run_sign (m:=m) (e3:=e3) (e4:=e4) [[44]] ts2 d (by simp) (by omega) (by omega)
  cases htk:takeS [[44]] ts2 with
  | none =>
   rw [htk] at g3 hs
   simp only at g3
   simp only [rdB,sgB,ndA_mk,eS,List.map,List.length_cons,List.length_nil,Nat.zero_add,fnK] at h3 hs
   simp -dsimp -implicitDefEqProofs (maxSteps:=1000000) (disch:=omega) [ST,S236,rdB,h3,hs,show l.length + 1≤140737488355328 by omega]
   refine ⟨l ++ [.mk kk n t2 p1 p2 p3 p4 l2],ts2,false,?_,.inr ⟨rfl,g3.symm⟩⟩
   simp [zNd,ndA_mk,eNds_app,eNd,eNds,rdB]
  | some q =>
   obtain ⟨s,r⟩:=q
   have hl3:=(takeS_len htk).1
   simp only at hl3
   rw [htk] at g3 hs
   simp only at g3
   simp only [rdB,sgB,ndA_mk,eS,List.map,List.length_cons,List.length_nil,Nat.zero_add,fnK] at h3 hs
   simp -dsimp -implicitDefEqProofs (maxSteps:=1000000) (disch:=omega) [ST,S236,rdB,h3,hs,show l.length + 1≤140737488355328 by omega]
   refine again ⟨l ++ [.mk kk n t2 p1 p2 p3 p4 l2],r,j⟩ ⟨by simp only; omega,by simp; omega,g3⟩ (by simp only; omega) (by simp -dsimp -implicitDefEqProofs (maxSteps:=1000000) (disch:=omega) [ST,S236,rdB,eNds_app,eNd])
end Go.Vai
namespace Go.Vai
variable {m:Int} {e3 e4:Value}
def nB (t:List UInt8) (x:AV):Option Blk:=some (.box [i64 6,i64 0,bs t,i64 0,i64 0,i64 0,i64 0,x])
theorem run_underA_deep (t:List UInt8) (d:Nat) (ts:List Tok) (hd:d + 1 > 32) (hd2:d≤100) :
 (W m e3 e4).run 271 [.bp 0 0,.fn 286 [.bp 1 0,.bp 2 0]] [rdB ts d false,nB t .emp,some (.box [.bp 0 0])]=some (ndA zNd,[rdB ts d true,nB t .emp,some (.box [.bp 0 0])]):=by
 refine run_wp (by rw [W_T]; exact rfl) ?_
 simp only [rdB,nB,zNd,ndA_mk]
 simp -dsimp -implicitDefEqProofs (maxSteps:=1000000) (disch:=omega) [ST,eNds]
theorem run_underA {k:Nat} (ih:IHk m e3 e4 k) (t:List UInt8) (d:Nat) (ts:List Tok) (hd:d + 1≤32) (hl:ts.length≤1000000000000) (hk:8 * ts.length + 7≤k) :
 ∃ l ts' b,(W m e3 e4).run 271 [.bp 0 0,.fn 286 [.bp 1 0,.bp 2 0]] [rdB ts d false,nB t .emp,some (.box [.bp 0 0])]=some (ndA zNd,[rdB ts' d b,nB t (.osl 3 8 0 l.length),some (.box [.bp 0 0]),some (.arr 8 (eNds l))])
  ∧ ((b=true∧pArg (pr k .form (d + 1)) (ts.length + 1) [] ts=none)∨(b=false∧pArg (pr k .form (d + 1)) (ts.length + 1) [] ts=some (l,ts'))):=by
 obtain ⟨R,⟨l,ts',b,rfl,h2⟩,h⟩:=run_args ih t (d + 1) ts hd hl hk
 refine ⟨l,ts',b,?_,h2⟩
 refine run_wp (by rw [W_T]; exact rfl) ?_
 simp only [rdB,nB,zNd,ndA_mk,Int.natCast_add,Int.natCast_one] at h ⊢
 simp -dsimp -implicitDefEqProofs (maxSteps:=1000000) (disch:=omega) [ST,h,eNds]
def callM (k:Nat) (t:List UInt8) (d:Nat) (r:List Tok):Rd:=match takeS [[40]] r with
 | none => none
 | some (_, r2) => if d + 1 > 32 then none else match takeS [[41]] r2 with
  | some (_,r3) => some (calN t [],r3)
  | none => match pArg (pr k .form (d + 1)) (r2.length + 1) [] r2 with
   | none => none
   | some (ns,ts1) => (takeS [[41]] ts1).map fun p => (calN t ns,p.2)
theorem run_call {k:Nat} (ih:IHk m e3 e4 k) (t:List UInt8) (d:Nat) (ts:List Tok) (hd:d≤32) (hl:ts.length≤1000000000000) (hk:8 * ts.length≤k + 1):RR (callM k t d ts) d ((W m e3 e4).run 282 [.bp 0 0,bs t] [rdB ts d false]):=by
 have hs:=run_sign (m:=m) (e3:=e3) (e4:=e4) [[40]] ts d (by simp) (by omega) hl
 unfold callM
 cases htk:takeS [[40]] ts with
 | none =>
  rw [htk] at hs
  simp only
  refine RR_of (n:=zNd) (ts':=ts) (b:=true) ?_ (.inl ⟨rfl,rfl⟩)
  refine run_wp (by rw [W_T]; exact rfl) ?_
  simp only [rdB,sgB,zNd,ndA_mk,eS,List.map,List.length_cons,List.length_nil,Nat.zero_add] at hs ⊢
  simp -dsimp -implicitDefEqProofs (maxSteps:=1000000) (disch:=omega) [ST,hs,eNds]
 | some q =>
  obtain ⟨s,r2⟩:=q
  have hl3:=(takeS_len htk).1
  simp only at hl3
  rw [htk] at hs
  simp only
  have hs2:=run_sign (m:=m) (e3:=e3) (e4:=e4) [[41]] r2 d (by simp) (by omega) (by omega)
  cases htk2:takeS [[41]] r2 with
  | some q2 =>
   obtain ⟨s2,r3⟩:=q2
   rw [htk2] at hs2
   simp only
   by_cases hdeep:d + 1 > 32
   ·rw [if_pos hdeep]
    refine RR_of (n:=calN t []) (ts':=r3) (b:=true) ?_ (.inl ⟨rfl,rfl⟩)
    refine run_wp (by rw [W_T]; exact rfl) ?_
    simp only [rdB,sgB,calN,ndA_mk,eS,List.map,List.length_cons,List.length_nil,Nat.zero_add] at hs hs2 ⊢
    simp -dsimp -implicitDefEqProofs (maxSteps:=1000000) (disch:=omega) [ST,hs,hs2,eNds,show (32:Int)≤d by omega]
   ·rw [if_neg hdeep]
    refine RR_of (n:=calN t []) (ts':=r3) (b:=false) ?_ (.inr ⟨rfl,rfl⟩)
    refine run_wp (by rw [W_T]; exact rfl) ?_
    simp only [rdB,sgB,calN,ndA_mk,eS,List.map,List.length_cons,List.length_nil,Nat.zero_add] at hs hs2 ⊢
    simp -dsimp -implicitDefEqProofs (maxSteps:=1000000) (disch:=omega) [ST,hs,hs2,eNds,show ¬ (32:Int)≤d by omega]
  | none =>
   rw [htk2] at hs2
   simp only
   by_cases hdeep:d + 1 > 32
   ·rw [if_pos hdeep]
    have hu:=run_underA_deep (m:=m) (e3:=e3) (e4:=e4) t d r2 hdeep (by omega)
    have hw:=run_want_bad (m:=m) (e3:=e3) (e4:=e4) [41] r2 d
    refine RR_of (n:=calN t []) (ts':=r2) (b:=true) ?_ (.inl ⟨rfl,rfl⟩)
    refine run_wp (by rw [W_T]; exact rfl) ?_
    simp only [rdB,sgB,nB,calN,zNd,ndA_mk,eS,List.map,List.length_cons,List.length_nil,Nat.zero_add] at hs hs2 hu hw ⊢
    simp -dsimp -implicitDefEqProofs (maxSteps:=1000000) (disch:=omega) [ST,hs,hs2,hu,hw,eNds]
   ·rw [if_neg hdeep]
    obtain ⟨l,ts1,b,hu,hb⟩:=run_underA ih t d r2 (by omega) (by omega) (by omega)
    rcases hb with ⟨rfl,hb⟩ | ⟨rfl,hb⟩
    ·rw [hb]
     have hw:=run_want_bad (m:=m) (e3:=e3) (e4:=e4) [41] ts1 d
     refine RR_of (n:=calN t l) (ts':=ts1) (b:=true) ?_ (.inl ⟨rfl,rfl⟩)
     refine run_wp (by rw [W_T]; exact rfl) ?_
     simp only [rdB,sgB,nB,calN,zNd,ndA_mk,eS,List.map,List.length_cons,List.length_nil,Nat.zero_add] at hs hs2 hu hw ⊢
     simp -dsimp -implicitDefEqProofs (maxSteps:=1000000) (disch:=omega) [ST,hs,hs2,hu,hw,eNds]
    ·have hal:=pArg_len (fun ts n ts' => pr_len k .form (d + 1) ts n ts') _ _ _ _ _ hb
     rw [hb]
     simp only
     have hw:=run_want (m:=m) (e3:=e3) (e4:=e4) [41] ts1 d (by omega) (by omega)
     cases htk3:takeS [[41]] ts1 with
     | none =>
      rw [htk3] at hw
      refine RR_of (n:=calN t l) (ts':=ts1) (b:=true) ?_ (.inl ⟨rfl,rfl⟩)
      refine run_wp (by rw [W_T]; exact rfl) ?_
      simp only [rdB,sgB,nB,calN,zNd,ndA_mk,eS,List.map,List.length_cons,List.length_nil,Nat.zero_add] at hs hs2 hu hw ⊢
      simp -dsimp -implicitDefEqProofs (maxSteps:=1000000) (disch:=omega) [ST,hs,hs2,hu,hw,eNds]
     | some q3 =>
      obtain ⟨s3,r4⟩:=q3
      rw [htk3] at hw
      refine RR_of (n:=calN t l) (ts':=r4) (b:=false) ?_ (.inr ⟨rfl,rfl⟩)
      refine run_wp (by rw [W_T]; exact rfl) ?_
      simp only [rdB,sgB,nB,calN,zNd,ndA_mk,eS,List.map,List.length_cons,List.length_nil,Nat.zero_add] at hs hs2 hu hw ⊢
      simp -dsimp -implicitDefEqProofs (maxSteps:=1000000) (disch:=omega) [ST,hs,hs2,hu,hw,eNds]
end Go.Vai
namespace Go.Vai
variable {m:Int} {e3 e4:Value}
theorem pr_plc (k d:Nat) (a b:Int) (r:List Tok):pr (k + 1) .single d (.plc a b :: r)=cellM a b r:=rfl
theorem pr_name (k d:Nat) (t:List UInt8) (r:List Tok):pr (k + 1) .single d (.name t :: r)=callM k t d r:=rfl
theorem run_single {k:Nat} (ih:IHk m e3 e4 k) (d:Nat) (ts:List Tok) (hd:d≤32) (hl:ts.length≤1000000000000) (hk:8 * ts.length + 2≤k + 1):RR (pr (k + 1) .single d ts) d ((W m e3 e4).run 272 [.bp 0 0] [rdB ts d false]):=by
 have hs:=run_sign (m:=m) (e3:=e3) (e4:=e4) [[40]] ts d (by simp) (by omega) hl
 cases htk:takeS [[40]] ts with
 | some q =>
  obtain ⟨s,r⟩:=q
  have hl3:=(takeS_len htk).1
  simp only at hl3
  rw [htk] at hs
  simp only [pr,htk]
  by_cases hdeep:d + 1 > 32
  ·rw [if_pos hdeep]
   have hu:=run_under_deep (m:=m) (e3:=e3) (e4:=e4) (.bm 62 [.bp 0 0]) r d hdeep (by omega) [] (.inl rfl)
   have hw:=run_want_bad (m:=m) (e3:=e3) (e4:=e4) [41] r d
   refine RR_of (n:=zNd) (ts':=r) (b:=true) ?_ (.inl ⟨rfl,rfl⟩)
   refine run_wp (by rw [W_T]; exact rfl) ?_
   simp only [rdB,sgB,zNd,ndA_mk,eS,List.map,List.length_cons,List.length_nil,Nat.zero_add] at hs hu hw ⊢
   simp -dsimp -implicitDefEqProofs (maxSteps:=1000000) (disch:=omega) [ST,hs,hu,hw,eNds]
  ·rw [if_neg hdeep]
   obtain ⟨n,ts1,b,h1,h2⟩:=RR_shape (ih .form (d + 1) r (by omega) (by omega) (by simp only [needK]; omega))
   have hu:=run_under (m:=m) (e3:=e3) (e4:=e4) 62 (by decide) r ts1 d b n (by omega) h1
   rcases h2 with ⟨rfl,h2⟩ | ⟨rfl,h2⟩
   ·rw [h2]
    have hw:=run_want_bad (m:=m) (e3:=e3) (e4:=e4) [41] ts1 d
    refine RR_of (n:=n) (ts':=ts1) (b:=true) ?_ (.inl ⟨rfl,rfl⟩)
    obtain ⟨kk,n,t,p1,p2,p3,p4,l⟩:=n
    refine run_wp (by rw [W_T]; exact rfl) ?_
    simp only [rdB,sgB,ndA_mk,eS,List.map,List.length_cons,List.length_nil,Nat.zero_add] at hs hu hw ⊢
    simp -dsimp -implicitDefEqProofs (maxSteps:=1000000) (disch:=omega) [ST,hs,hu,hw,eNds]
   ·have hal:=pr_len _ _ _ _ _ _ h2
    rw [h2]
    simp only
    have hw:=run_want (m:=m) (e3:=e3) (e4:=e4) [41] ts1 d (by omega) (by omega)
    cases htk3:takeS [[41]] ts1 with
    | none =>
     rw [htk3] at hw
     refine RR_of (n:=n) (ts':=ts1) (b:=true) ?_ (.inl ⟨rfl,rfl⟩)
     obtain ⟨kk,n,t,p1,p2,p3,p4,l⟩:=n
     refine run_wp (by rw [W_T]; exact rfl) ?_
     simp only [rdB,sgB,ndA_mk,eS,List.map,List.length_cons,List.length_nil,Nat.zero_add] at hs hu hw ⊢
     simp -dsimp -implicitDefEqProofs (maxSteps:=1000000) (disch:=omega) [ST,hs,hu,hw,eNds]
    | some q3 =>
     obtain ⟨s3,r4⟩:=q3
     rw [htk3] at hw
     refine RR_of (n:=n) (ts':=r4) (b:=false) ?_ (.inr ⟨rfl,rfl⟩)
     obtain ⟨kk,n,t,p1,p2,p3,p4,l⟩:=n
     refine run_wp (by rw [W_T]; exact rfl) ?_
     simp only [rdB,sgB,ndA_mk,eS,List.map,List.length_cons,List.length_nil,Nat.zero_add] at hs hu hw ⊢
     simp -dsimp -implicitDefEqProofs (maxSteps:=1000000) (disch:=omega) [ST,hs,hu,hw,eNds]
 | none =>
  rw [htk] at hs
  cases ts with
  | nil =>
   refine RR_of (n:=zNd) (ts':=[]) (b:=true) ?_ (.inl ⟨rfl,rfl⟩)
   refine run_wp (by rw [W_T]; exact rfl) ?_
   simp only [rdB,sgB,zNd,ndA_mk,eS,List.map,List.length_cons,List.length_nil,Nat.zero_add] at hs ⊢
   simp -dsimp -implicitDefEqProofs (maxSteps:=1000000) (disch:=omega) [ST,hs,eNds]
  | cons t r =>
   have zr:((r.length:Int) + 1).toNat=r.length + 1:=by omega
   rw [List.length_cons] at hl hk
   cases t with
   | sign t =>
    have e:pr (k + 1) .single d (.sign t :: r)=none:=by simp only [pr,htk]
    rw [e]
    refine RR_of (n:=zNd) (ts':=r) (b:=true) ?_ (.inl ⟨rfl,rfl⟩)
    refine run_wp (by rw [W_T]; exact rfl) ?_
    simp only [rdB,sgB,zNd,ndA_mk,eS,eTok_s,eTok_n,eTok_t,eTok_p,eTok_m,List.map_cons,List.map_nil,List.length_cons,List.length_nil,Nat.zero_add] at hs ⊢
    simp -dsimp -implicitDefEqProofs (maxSteps:=1000000) (disch:=omega) [ST,hs,eNds,eTok_s,pureOp_slc,zr]
   | num n =>
    refine RR_of (n:=numN n) (ts':=r) (b:=false) ?_ (.inr ⟨rfl,rfl⟩)
    refine run_wp (by rw [W_T]; exact rfl) ?_
    simp only [rdB,sgB,numN,ndA_mk,eS,eTok_s,eTok_n,eTok_t,eTok_p,eTok_m,List.map_cons,List.map_nil,List.length_cons,List.length_nil,Nat.zero_add] at hs ⊢
    simp -dsimp -implicitDefEqProofs (maxSteps:=1000000) (disch:=omega) [ST,hs,eNds,eTok_n,pureOp_slc,zr]
   | txt t =>
    refine RR_of (n:=txtN t) (ts':=r) (b:=false) ?_ (.inr ⟨rfl,rfl⟩)
    refine run_wp (by rw [W_T]; exact rfl) ?_
    simp only [rdB,sgB,txtN,ndA_mk,eS,eTok_s,eTok_n,eTok_t,eTok_p,eTok_m,List.map_cons,List.map_nil,List.length_cons,List.length_nil,Nat.zero_add] at hs ⊢
    simp -dsimp -implicitDefEqProofs (maxSteps:=1000000) (disch:=omega) [ST,hs,eNds,eTok_t,pureOp_slc,zr]
   | plc a b =>
    rw [pr_plc]
    obtain ⟨n,ts1,b1,h1,h2⟩:=RR_shape (run_cell (m:=m) (e3:=e3) (e4:=e4) a b r d (by omega) (by omega))
    refine RR_of (n:=n) (ts':=ts1) (b:=b1) ?_ h2
    obtain ⟨kk,n,t,p1,p2,p3,p4,l⟩:=n
    refine run_wp (by rw [W_T]; exact rfl) ?_
    simp only [rdB,sgB,ndA_mk,eS,eTok_s,eTok_n,eTok_t,eTok_p,eTok_m,List.map_cons,List.map_nil,List.length_cons,List.length_nil,Nat.zero_add] at hs h1 ⊢
    simp -dsimp -implicitDefEqProofs (maxSteps:=1000000) (disch:=omega) [ST,hs,h1,eNds,eTok_p,pureOp_slc,zr]
   | name t =>
    rw [pr_name]
    obtain ⟨n,ts1,b1,h1,h2⟩:=RR_shape (run_call ih t d r hd (by omega) (by omega))
    refine RR_of (n:=n) (ts':=ts1) (b:=b1) ?_ h2
    obtain ⟨kk,n,t2,p1,p2,p3,p4,l⟩:=n
    refine run_wp (by rw [W_T]; exact rfl) ?_
    simp only [rdB,sgB,ndA_mk,eS,eTok_s,eTok_n,eTok_t,eTok_p,eTok_m,List.map_cons,List.map_nil,List.length_cons,List.length_nil,Nat.zero_add] at hs h1 ⊢
    simp -dsimp -implicitDefEqProofs (maxSteps:=1000000) (disch:=omega) [ST,hs,h1,eNds,eTok_m,pureOp_slc,zr]
theorem run_pr : ∀ k,IHk m e3 e4 k
 | 0 => fun K d ts _ _ h => by cases K <;> simp only [needK] at h <;> omega
 | k + 1 => fun K d ts hd hl hk => by
  have ih:=run_pr k
  cases K with
  | form => exact run_form ih d ts hd hl hk
  | join => exact run_join ih d ts hd hl hk
  | sum => exact run_sum ih d ts hd hl hk
  | prod => exact run_prod ih d ts hd hl hk
  | minus => exact run_minus ih d ts hd hl hk
  | single => exact run_single ih d ts hd hl hk
def prT (ts:List Tok):Rd:=pr (8 * ts.length + 7) .form 0 ts
def parseM (l:List UInt8):Option Nd:=match toksG l with
 | none => none
 | some ts => match prT ts with
  | some (n,[]) => some n
  | _ => none
def parseR:Option Nd→AV
 | none => .tup [ndA zNd,bo false]
 | some n => .tup [ndA n,bo true]
theorem run_Parse (l:List UInt8) (hl:l.length≤10000000000) (ht : ∀ ts,toksG l=some ts→ts.length≤1000000000000):(W m e3 e4).run 25 [bs l] []=some (parseR (parseM l),[]):=by
 have h1:=run_tokens (m:=m) (e3:=e3) (e4:=e4) l (by omega)
 unfold parseM
 cases htk:toksG l with
 | none =>
  rw [htk] at h1
  simp only [toksR] at h1
  refine run_wp (by rw [W_T]; exact rfl) ?_
  simp only [parseR,zNd,ndA_mk]
  simp -dsimp -implicitDefEqProofs (maxSteps:=1000000) (disch:=omega) [ST,h1,eNds]
 | some ts =>
  rw [htk] at h1
  simp only [toksR] at h1 ⊢
  have h2:=run_pr (m:=m) (e3:=e3) (e4:=e4) (8 * ts.length + 7) .form 0 ts (by omega) (ht ts htk) (by simp only [needK]; omega)
  obtain ⟨n,ts1,b,h3,h4⟩:=RR_shape h2
  have e:pr (8 * ts.length + 7) .form 0 ts=prT ts:=rfl
  rw [e] at h4
  obtain ⟨kk,n,t,p1,p2,p3,p4,l'⟩:=n
  simp only [rdB,ndA_mk,fnK,Int.natCast_zero] at h3
  rcases h4 with ⟨rfl,h4⟩ | ⟨rfl,h4⟩
  ·rw [h4]
   refine run_wp (by rw [W_T]; exact rfl) ?_
   simp only [parseR,zNd,ndA_mk]
   simp -dsimp -implicitDefEqProofs (maxSteps:=1000000) (disch:=omega) [ST,h1,h3,eNds]
  ·rw [h4]
   cases ts1 with
   | nil =>
    refine run_wp (by rw [W_T]; exact rfl) ?_
    simp only [parseR,zNd,ndA_mk]
    simp -dsimp -implicitDefEqProofs (maxSteps:=1000000) (disch:=omega) [ST,h1,h3,eNds]
   | cons t2 r2 =>
    refine run_wp (by rw [W_T]; exact rfl) ?_
    simp only [parseR,zNd,ndA_mk]
    simp -dsimp -implicitDefEqProofs (maxSteps:=1000000) (disch:=omega) [ST,h1,h3,eNds]
theorem toksG_len : ∀ (n:Nat) (l:List UInt8),l.length≤n→∀ ts,toksG l=some ts→ts.length≤l.length
 | 0,l,h,ts,e => by
  have:l=[]:=List.length_eq_zero_iff.1 (by omega)
  subst this
  simp [toksG,toksF,trimG] at e
  subst e; simp
 | n + 1, l, h, ts, e => by
  rw [← toksG_trim] at e
  have ht:=trimG_len l
  have htt:=trimG_trim l
  generalize trimG l=u at *
  cases u with
  | nil =>
   simp [toksG,toksF,trimG] at e
   subst e; simp
  | cons c r =>
   rw [toksG_cons htt] at e
   cases hn:nextG (c :: r) with
   | none => rw [hn] at e; cases e
   | some p =>
    obtain ⟨t,k⟩:=p
    rw [hn] at e
    simp only at e
    obtain ⟨ts',h1,rfl⟩:=Option.map_eq_some_iff.1 e
    have hp:=nextG_pos hn
    have:=toksG_len n ((c :: r).drop k) (by rw [List.length_drop]; omega) ts' h1
    rw [List.length_drop] at this
    simp only [List.length_cons] at *
    omega
end Go.Vai
