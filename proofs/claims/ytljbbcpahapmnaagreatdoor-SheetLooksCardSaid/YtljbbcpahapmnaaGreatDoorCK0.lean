/-
  What functions of layer 9 and of its reference compute: equations of the abstract run, and plain laws of them.
-/
import Derived.Lib.AtoiAllCases
import Derived.Test.YtljbbcpahapmnaaGreatDoorCKA
set_option linter.unusedVariables false
set_option linter.unusedSimpArgs false
set_option linter.unnecessarySimpa false
set_option linter.unusedSectionVars false
namespace Go.Vai
variable {m:Int} {e3 e4:Value}
theorem W_T:(W m e3 e4).T=Tz:=rfl
abbrev inI (n:Int):Prop := -9223372036854775808≤n∧n≤9223372036854775807
theorem run_E {f:FuncId} {xs:List AV} {bl:List (Option Blk)} {r:AV × List (Option Blk)} (hT:Tz f=none) (h:Ez f xs bl=some r):(W m e3 e4).run f xs bl=some r:=by
 rw [Env.run_some]
 refine ⟨1,?_⟩
 have h1:(W m e3 e4).T f=none:=hT
 unfold runN
 rw [h1]
 exact h
theorem run_itoa (n:Int) (h:inI n):(W m e3 e4).run 87 [i64 n] []=some (bs (Lib.itoa n),[]):=by
 refine run_E rfl ?_
 simp only [Ez,E0]
 rw [if_pos h,itoaC_eq n h]
theorem run_atoi (l:List UInt8) (h:l.length≤1000000000000):(W m e3 e4).run 112 [bs l] []=some (match Lib.atoiAll l with
 | .ok v => .tup [i64 v,.fz (.sc .nilIface)]
 | .range => .tup [i64 (Lib.atoiSat l),.err]
 | _ => .tup [i64 0,.err],[]):=by
 refine run_E rfl ?_
 simp only [Ez,E0,mkB_size,mkB_list]
 rw [if_pos (by omega)]
 cases Lib.atoiAll l <;> rfl
theorem run_upper (l:List UInt8) (h:l.length≤1000000000000) (ha:(l.all fun b => decide (b.toNat < 128))=true):(W m e3 e4).run 198 [bs l] []=some (bs (Lib.toUpperA l),[]):=by
 refine run_E rfl ?_
 simp only [Ez,E0,mkB_size,mkB_list]
 rw [if_pos ⟨by omega,ha⟩]
def parseG (l:List UInt8):Int × Bool:=match Lib.atoiAll l with
 | .ok v => if Lib.itoa v=l then (v,true) else (0,false)
 | _ => (0,false)
theorem run_parse (l:List UInt8) (h:l.length≤1000000000000):(W m e3 e4).run 70 [bs l] []=some (.tup [i64 (parseG l).1,bo (parseG l).2],[]):=by
 have h1:=run_atoi (m:=m) (e3:=e3) (e4:=e4) l h
 cases ha:Lib.atoiAll l with
 | ok v =>
  rw [ha] at h1
  have hb:=Lib.atoiAll_bounds ha
  have h2:=run_itoa (m:=m) (e3:=e3) (e4:=e4) v (by exact ⟨by omega,by omega⟩)
  by_cases he:Lib.itoa v=l
  ·have hp:parseG l=(v,true):=by unfold parseG; rw [ha]; exact if_pos he
   rw [hp]
   rw [he] at h2
   refine run_wp (by rw [W_T]; exact rfl) ?_
   simp -dsimp -implicitDefEqProofs (maxSteps:=1000000) (disch:=omega) [ST,h1,h2]
  ·have hp:parseG l=(0,false):=by unfold parseG; rw [ha]; exact if_neg he
   rw [hp]
   refine run_wp (by rw [W_T]; exact rfl) ?_
   simp -dsimp -implicitDefEqProofs (maxSteps:=1000000) (disch:=omega) [ST,h1,h2,he]
 | range =>
  rw [ha] at h1
  have hp:parseG l=(0,false):=by unfold parseG; rw [ha]
  rw [hp]
  refine run_wp (by rw [W_T]; exact rfl) ?_
  simp -dsimp -implicitDefEqProofs (maxSteps:=1000000) (disch:=omega) [ST,h1]
 | _ =>
  rw [ha] at h1
  have hp:parseG l=(0,false):=by unfold parseG; rw [ha]
  rw [hp]
  refine run_wp (by rw [W_T]; exact rfl) ?_
  simp -dsimp -implicitDefEqProofs (maxSteps:=1000000) (disch:=omega) [ST,h1]
def upI (c:UInt8):Nat:=if 97≤c.toNat∧c.toNat≤122 then c.toNat - 32 else c.toNat
def colG (c:UInt8):Nat:=if 65≤upI c∧upI c≤90 then upI c - 64 else 0
def isD (c:UInt8):Bool:=decide (48≤c.toNat) && decide (c.toNat≤57)
def isL (c:UInt8):Bool:=decide (0 < colG c)
abbrev by8 (b:UInt8):AV:=.fz (.sc (.int .u8 (b.toNat:Int)))
theorem run_digit (c:UInt8):(W m e3 e4).run 141 [by8 c] []=some (bo (isD c),[]):=by
 refine run_wp (by rw [W_T]; exact rfl) ?_
 have hc:=c.toNat_lt
 unfold isD
 by_cases h1:48≤c.toNat
 ·by_cases h2:c.toNat≤57
  ·simp -dsimp -implicitDefEqProofs (maxSteps:=1000000) (disch:=omega) [ST,h1,h2]
  ·simp -dsimp -implicitDefEqProofs (maxSteps:=1000000) (disch:=omega) [ST,h1,h2]
 ·simp -dsimp -implicitDefEqProofs (maxSteps:=1000000) (disch:=omega) [ST,h1]
theorem run_column (c:UInt8):(W m e3 e4).run 101 [by8 c] []=some (i64 (colG c),[]):=by
 refine run_wp (by rw [W_T]; exact rfl) ?_
 have hc:=c.toNat_lt
 by_cases h1:97≤c.toNat
 ·by_cases h2:c.toNat≤122
  ·have hu:upI c=c.toNat - 32:=if_pos ⟨h1,h2⟩
   have e1:colG c=c.toNat - 32 - 64:=by unfold colG; rw [hu,if_pos (by omega)]
   have e2:((c.toNat - 32 - 64:Nat):Int)=(c.toNat:Int) - 32 - 65 + 1:=by omega
   rw [e1,e2]
   simp -dsimp -implicitDefEqProofs (maxSteps:=1000000) (disch:=omega) [ST,h1,h2,wrap_u8]
  ·have hu:upI c=c.toNat:=if_neg (by omega)
   have e1:colG c=0:=by unfold colG; rw [hu,if_neg (by omega)]
   rw [e1]
   simp -dsimp -implicitDefEqProofs (maxSteps:=1000000) (disch:=omega) [ST,h1,h2,wrap_u8]
 ·have hu:upI c=c.toNat:=if_neg (by omega)
  by_cases h3:65≤c.toNat
  ·by_cases h4:c.toNat≤90
   ·have e1:colG c=c.toNat - 64:=by unfold colG; rw [hu,if_pos (by omega)]
    have e2:((c.toNat - 64:Nat):Int)=(c.toNat:Int) - 65 + 1:=by omega
    rw [e1,e2]
    simp -dsimp -implicitDefEqProofs (maxSteps:=1000000) (disch:=omega) [ST,h1,h3,h4,wrap_u8]
   ·have e1:colG c=0:=by unfold colG; rw [hu,if_neg (by omega)]
    rw [e1]
    simp -dsimp -implicitDefEqProofs (maxSteps:=1000000) (disch:=omega) [ST,h1,h3,h4,wrap_u8]
  ·have e1:colG c=0:=by unfold colG; rw [hu,if_neg (by omega)]
   rw [e1]
   simp -dsimp -implicitDefEqProofs (maxSteps:=1000000) (disch:=omega) [ST,h1,h3,wrap_u8]
theorem run_letter (c:UInt8):(W m e3 e4).run 143 [by8 c] []=some (bo (isL c),[]):=by
 refine run_wp (by rw [W_T]; exact rfl) ?_
 have h:=run_column (m:=m) (e3:=e3) (e4:=e4) c
 unfold isL
 by_cases h1:0 < colG c
 ·simp -dsimp -implicitDefEqProofs (maxSteps:=1000000) (disch:=omega) [ST,h,h1]
 ·simp -dsimp -implicitDefEqProofs (maxSteps:=1000000) (disch:=omega) [ST,h,h1]
def spanG (p:UInt8→Bool):List UInt8→Nat
 | [] => 0
 | c :: r => if p c=true then spanG p r + 1 else 0
theorem spanG_le (p:UInt8→Bool) : ∀ l,spanG p l≤l.length
 | [] => Nat.le_refl _
 | c :: r => by unfold spanG; split <;> simp; have:=spanG_le p r; omega
theorem spanG_drop (p:UInt8→Bool) (l:List UInt8) (i:Nat) (c:UInt8) (h:l[i]? = some c):spanG p (l.drop i)=if p c=true then spanG p (l.drop (i + 1)) + 1 else 0:=by
 have hi:=(List.getElem?_eq_some_iff.1 h).1
 rw [List.drop_eq_getElem_cons hi,(List.getElem?_eq_some_iff.1 h).2,spanG]
def S81 (l:List UInt8) (f:FuncId) (i:Nat):St:={ sl:=[(0,bs l),(1,.fn f []),(5,i64 i)],hp:=[],nx:=0 }
theorem run_span (p:UInt8→Bool) (f:FuncId) (hf4 : @LT.lt Nat _ f 4096) (hp : ∀ c:UInt8,(W m e3 e4).run f [by8 c] []=some (bo (p c),[])) (l:List UInt8) (hl:l.length≤1000000000000):(W m e3 e4).run 142 [bs l,.fn f []] []=some (i64 (spanG p l),[]):=by
 refine run_wp (by rw [W_T]; exact rfl) ?_
 simp -dsimp -implicitDefEqProofs (maxSteps:=1000000) (disch:=omega) [ST]
 refine wp_inv (S81 l f) (fun i => i + spanG p (l.drop i)=spanG p l) (fun i => l.length - i) 0 (by simp) (by simp -dsimp -implicitDefEqProofs (maxSteps:=1000000) (disch:=omega) [ST,S81]) ?_
 intro i hi
 by_cases h:i < l.length
 ·obtain ⟨c,hc⟩ : ∃ c,l[i]=c:=⟨_,rfl⟩
  have hc2:l[i]? = some c:=by rw [List.getElem?_eq_getElem h,hc]
  have hs:=spanG_drop p l i c hc2
  have hp1:=hp c
  by_cases hpc:p c=true
  ·rw [if_pos hpc] at hs
   rw [hpc] at hp1
   simp -dsimp -implicitDefEqProofs (maxSteps:=1000000) (disch:=omega) [ST,S81,h,hc,hp1,hf4]
   refine again (i + 1) (by omega) (by omega) (by simp -dsimp -implicitDefEqProofs (maxSteps:=1000000) (disch:=omega) [ST,S81])
  ·rw [if_neg hpc] at hs
   rw [Bool.eq_false_iff.2 hpc] at hp1
   simp -dsimp -implicitDefEqProofs (maxSteps:=1000000) (disch:=omega) [ST,S81,h,hc,hp1,hf4]
   omega
 ·rw [List.drop_of_length_le (by omega)] at hi
  simp only [spanG,Nat.add_zero] at hi
  simp -dsimp -implicitDefEqProofs (maxSteps:=1000000) (disch:=omega) [ST,S81,h,hi]
end Go.Vai
namespace Go.Vai
variable {m:Int} {e3 e4:Value}
def plB (r c:Int):Bool:=decide (1≤r) && decide (r≤99) && (decide (1≤c) && decide (c≤26))
abbrev pl (r c:Int):AV:=.agg [i64 r,i64 c]
theorem run_isPlace (r c:Int):(W m e3 e4).run 48 [pl r c] []=some (bo (plB r c),[]):=by
 refine run_wp (by rw [W_T]; exact rfl) ?_
 unfold plB
 by_cases h1:1≤r <;> by_cases h2:r≤99 <;> by_cases h3:1≤c <;> by_cases h4:c≤26 <;> simp -dsimp -implicitDefEqProofs (maxSteps:=1000000) (disch:=omega) [ST,h1,h2,h3,h4]
def placeI:List UInt8→(Int × Int) × Bool
 | [] => ((0,0),false)
 | [_] => ((0,0),false)
 | c :: d :: r => if r.length≤1∧0 < colG c∧49≤d.toNat∧d.toNat≤57 then (((parseG (d :: r)).1,(colG c:Int)),(parseG (d :: r)).2 && plB (parseG (d :: r)).1 (colG c)) else ((0,0),false)
theorem run_placeOf (l:List UInt8) (hl:l.length≤1000000000000):(W m e3 e4).run 100 [bs l] []=some (.tup [pl (placeI l).1.1 (placeI l).1.2,bo (placeI l).2],[]):=by
 refine run_wp (by rw [W_T]; exact rfl) ?_
 match l,hl with
 | [],_ => simp -dsimp -implicitDefEqProofs (maxSteps:=1000000) (disch:=omega) [ST,placeI]
 | [c],_ => simp -dsimp -implicitDefEqProofs (maxSteps:=1000000) (disch:=omega) [ST,placeI]
 | c :: d :: r, hl =>
  obtain ⟨l,hL⟩ : ∃ l,l=c :: d :: r:=⟨_,rfl⟩
  have hlen:l.length=r.length + 2:=by rw [hL]; simp
  have hd:=d.toNat_lt
  have hc:=run_column (m:=m) (e3:=e3) (e4:=e4) c
  have hp:=run_parse (m:=m) (e3:=e3) (e4:=e4) (d :: r) (by simp at hl; simp; omega)
  have hi:=run_isPlace (m:=m) (e3:=e3) (e4:=e4) (parseG (d :: r)).1 (colG c)
  have g0:l[0]? = some c:=by rw [hL]; rfl
  have g1:l[1]? = some d:=by rw [hL]; rfl
  have gt:l.drop 1=d :: r:=by rw [hL]; rfl
  have gt2:l.tail=d :: r:=by rw [hL]; rfl
  rw [← hL]
  have k0 : ∀ h:0 < l.length,l[0]=c:=fun h => (List.getElem?_eq_some_iff.1 g0).2
  have k1 : ∀ h:1 < l.length,l[1]=d:=fun h => (List.getElem?_eq_some_iff.1 g1).2
  have key:(if r.length≤1∧0 < colG c∧49≤d.toNat∧d.toNat≤57 then (((parseG (d :: r)).1,(colG c:Int)),(parseG (d :: r)).2 && plB (parseG (d :: r)).1 (colG c)) else ((0,0),false))=placeI l:=by rw [hL]; rfl
  rw [← key]
  clear hL key g0 g1
  generalize hP:parseG (d :: r)=P at *
  obtain ⟨n,b⟩:=P
  simp only at hp hi ⊢
  by_cases h1:r.length≤1
  ·by_cases h2:0 < colG c
   ·by_cases h3:49≤d.toNat
    ·by_cases h4:d.toNat≤57
     ·rw [if_pos ⟨h1,h2,h3,h4⟩]
      cases b <;> simp -dsimp -implicitDefEqProofs (maxSteps:=1000000) (disch:=omega) [ST,h1,h2,h3,h4,hc,hp,hi,hlen,k0,k1,gt,gt2,List.take_of_length_le]
     ·rw [if_neg (by omega)]
      simp -dsimp -implicitDefEqProofs (maxSteps:=1000000) (disch:=omega) [ST,h1,h2,h3,h4,hc,hp,hi,hlen,k0,k1]
    ·rw [if_neg (by omega)]
     simp -dsimp -implicitDefEqProofs (maxSteps:=1000000) (disch:=omega) [ST,h1,h2,h3,hc,hp,hi,hlen,k0,k1]
   ·rw [if_neg (by omega)]
    simp -dsimp -implicitDefEqProofs (maxSteps:=1000000) (disch:=omega) [ST,h1,h2,hc,hp,hi,hlen,k0,k1]
  ·rw [if_neg (by omega)]
   simp -dsimp -implicitDefEqProofs (maxSteps:=1000000) (disch:=omega) [ST,h1,hc,hp,hi,hlen,k0,k1]
def quotG:List UInt8→Option (List UInt8 × Nat)
 | [] => none
 | c :: r => if c=34 then (match r with
  | [] => some ([],1)
  | d :: r' => if d=34 then (quotG r').map fun p => (34 :: p.1,p.2 + 2) else some ([],1))
  else (quotG r).map fun p => (c :: p.1,p.2 + 1)
theorem quotG_nil:quotG []=none:=by rw [quotG.eq_def]
theorem quotG_cons (c:UInt8) (r:List UInt8):quotG (c :: r)=if c=34 then (match r with
 | [] => some ([],1)
 | d :: r' => if d=34 then (quotG r').map fun p => (34 :: p.1,p.2 + 2) else some ([],1))
 else (quotG r).map fun p => (c :: p.1,p.2 + 1):=by rw [quotG.eq_def]
def putG (out:List UInt8) (i:Nat) (x:Option (List UInt8 × Nat)):Option (List UInt8 × Nat):=x.map fun p => (out ++ p.1,i + p.2)
theorem putG_app2 (o:List UInt8) (i:Nat) (x:Option (List UInt8 × Nat)):putG (o ++ [34]) (i + 2) x=putG o i (x.map fun p => (34 :: p.1,p.2 + 2)):=by
 cases x with
 | none => rfl
 | some p => simp [putG]; omega
theorem putG_app1 (o:List UInt8) (c:UInt8) (i:Nat) (x:Option (List UInt8 × Nat)):putG (o ++ [c]) (i + 1) x=putG o i (x.map fun p => (c :: p.1,p.2 + 1)):=by
 cases x with
 | none => rfl
 | some p => simp [putG]; omega
def S84 (l:List UInt8) (a:Nat × List UInt8):St:={ sl:=[(0,bs l),(4,.osl 0 1 0 a.2.length),(5,i64 a.1)],hp:=[(0,some (.arr 1 (a.2.map eB)))],nx:=1 }
def quotR:Option (List UInt8 × Nat)→AV
 | none => .tup [bs [],i64 0]
 | some p => .tup [bs p.1,i64 p.2]
theorem run_quoted (l:List UInt8) (hl:l.length≤1000000000000):(W m e3 e4).run 145 [bs l] []=some (quotR (putG [] 1 (quotG (l.drop 1))),[]):=by
 refine run_wp (by rw [W_T]; exact rfl) ?_
 simp -dsimp -implicitDefEqProofs (maxSteps:=1000000) (disch:=omega) [ST,-BitVec.toNat_xor,-BitVec.toNat_and,-BitVec.toNat_or,-BitVec.toNat_not,-BitVec.toNat_ushiftRight,-BitVec.toNat_shiftLeft,-BitVec.toNat_mul,-UInt8.toNat_xor,-UInt8.toNat_and,-UInt8.toNat_or,-UInt8.toNat_shiftLeft,-UInt8.toNat_shiftRight]
 refine wp_inv (S84 l) (fun a => a.2.length≤a.1∧putG a.2 a.1 (quotG (l.drop a.1))=putG [] 1 (quotG (l.drop 1))) (fun a => l.length - a.1) (1,[]) ⟨by simp,rfl⟩ (by simp -dsimp -implicitDefEqProofs (maxSteps:=1000000) (disch:=omega) [ST,-BitVec.toNat_xor,-BitVec.toNat_and,-BitVec.toNat_or,-BitVec.toNat_not,-BitVec.toNat_ushiftRight,-BitVec.toNat_shiftLeft,-BitVec.toNat_mul,-UInt8.toNat_xor,-UInt8.toNat_and,-UInt8.toNat_or,-UInt8.toNat_shiftLeft,-UInt8.toNat_shiftRight,S84]) ?_
 rintro ⟨i,o⟩ ⟨ho,hq⟩
 simp only at ho hq
 have t1 : ∀ X,List.take (o.length + 1) (List.map eB o ++ [X])=List.map eB o ++ [X]:=fun X => List.take_of_length_le (by simp)
 by_cases h:i < l.length
 ·obtain ⟨c,hc⟩ : ∃ c,l[i]=c:=⟨_,rfl⟩
  rw [List.drop_eq_getElem_cons h,hc,quotG_cons] at hq
  by_cases h34:c=34
  ·subst h34
   rw [if_pos rfl] at hq
   by_cases h2:i + 1 < l.length
   ·obtain ⟨d,hd⟩ : ∃ d,l[i + 1]=d:=⟨_,rfl⟩
    rw [List.drop_eq_getElem_cons h2,hd] at hq
    simp only at hq
    by_cases h3:d=34
    ·subst h3
     rw [if_pos rfl] at hq
     simp -dsimp -implicitDefEqProofs (maxSteps:=1000000) (disch:=omega) [ST,-BitVec.toNat_xor,-BitVec.toNat_and,-BitVec.toNat_or,-BitVec.toNat_not,-BitVec.toNat_ushiftRight,-BitVec.toNat_shiftLeft,-BitVec.toNat_mul,-UInt8.toNat_xor,-UInt8.toNat_and,-UInt8.toNat_or,-UInt8.toNat_shiftLeft,-UInt8.toNat_shiftRight,S84,h,hc,h2,hd,t1,show (i:Int) + 1≠l.length by omega,show o.length + 1≤140737488355328 by omega]
     refine again (i + 1 + 1,o ++ [34]) ⟨by simp; omega,by rw [← hq]; exact putG_app2 _ _ _⟩ (by simp only; omega) (by simp -dsimp -implicitDefEqProofs (maxSteps:=1000000) (disch:=omega) [ST,-BitVec.toNat_xor,-BitVec.toNat_and,-BitVec.toNat_or,-BitVec.toNat_not,-BitVec.toNat_ushiftRight,-BitVec.toNat_shiftLeft,-BitVec.toNat_mul,-UInt8.toNat_xor,-UInt8.toNat_and,-UInt8.toNat_or,-UInt8.toNat_shiftLeft,-UInt8.toNat_shiftRight,S84,eB])
    ·rw [if_neg h3] at hq
     have hdn : ¬ d.toNat=34:=fun e => h3 (by apply UInt8.toNat.inj; exact e)
     rw [← hq]
     simp -dsimp -implicitDefEqProofs (maxSteps:=1000000) (disch:=omega) [ST,-BitVec.toNat_xor,-BitVec.toNat_and,-BitVec.toNat_or,-BitVec.toNat_not,-BitVec.toNat_ushiftRight,-BitVec.toNat_shiftLeft,-BitVec.toNat_mul,-UInt8.toNat_xor,-UInt8.toNat_and,-UInt8.toNat_or,-UInt8.toNat_shiftLeft,-UInt8.toNat_shiftRight,S84,h,hc,h2,hd,t1,hdn,putG,quotR,show (i:Int) + 1≠l.length by omega,show o.length + 1≤140737488355328 by omega]
   ·rw [List.drop_of_length_le (by omega)] at hq
    rw [← hq]
    simp -dsimp -implicitDefEqProofs (maxSteps:=1000000) (disch:=omega) [ST,-BitVec.toNat_xor,-BitVec.toNat_and,-BitVec.toNat_or,-BitVec.toNat_not,-BitVec.toNat_ushiftRight,-BitVec.toNat_shiftLeft,-BitVec.toNat_mul,-UInt8.toNat_xor,-UInt8.toNat_and,-UInt8.toNat_or,-UInt8.toNat_shiftLeft,-UInt8.toNat_shiftRight,S84,h,hc,h2,t1,putG,quotR,show (i:Int) + 1=l.length by omega]
  ·rw [if_neg h34] at hq
   have hcn : ¬ c.toNat=34:=fun e => h34 (by apply UInt8.toNat.inj; exact e)
   simp -dsimp -implicitDefEqProofs (maxSteps:=1000000) (disch:=omega) [ST,-BitVec.toNat_xor,-BitVec.toNat_and,-BitVec.toNat_or,-BitVec.toNat_not,-BitVec.toNat_ushiftRight,-BitVec.toNat_shiftLeft,-BitVec.toNat_mul,-UInt8.toNat_xor,-UInt8.toNat_and,-UInt8.toNat_or,-UInt8.toNat_shiftLeft,-UInt8.toNat_shiftRight,S84,h,hc,hcn,t1,show o.length + 1≤140737488355328 by omega]
   refine again (i + 1,o ++ [c]) ⟨by simp; omega,by rw [← hq]; exact putG_app1 _ _ _ _⟩ (by simp only; omega) (by simp -dsimp -implicitDefEqProofs (maxSteps:=1000000) (disch:=omega) [ST,-BitVec.toNat_xor,-BitVec.toNat_and,-BitVec.toNat_or,-BitVec.toNat_not,-BitVec.toNat_ushiftRight,-BitVec.toNat_shiftLeft,-BitVec.toNat_mul,-UInt8.toNat_xor,-UInt8.toNat_and,-UInt8.toNat_or,-UInt8.toNat_shiftLeft,-UInt8.toNat_shiftRight,S84,eB])
 ·rw [List.drop_of_length_le (by omega)] at hq
  rw [← hq]
  simp -dsimp -implicitDefEqProofs (maxSteps:=1000000) (disch:=omega) [ST,-BitVec.toNat_xor,-BitVec.toNat_and,-BitVec.toNat_or,-BitVec.toNat_not,-BitVec.toNat_ushiftRight,-BitVec.toNat_shiftLeft,-BitVec.toNat_mul,-UInt8.toNat_xor,-UInt8.toNat_and,-UInt8.toNat_or,-UInt8.toNat_shiftLeft,-UInt8.toNat_shiftRight,S84,h,putG,quotR,quotG_nil]
inductive Tok where
 | sign (t:List UInt8)
 | num (n:Int)
 | txt (t:List UInt8)
 | plc (r c:Int)
 | name (t:List UInt8)
 deriving DecidableEq
abbrev tok5 (k:Int) (t:List UInt8) (n r c:Int):List FV:=[.sc (.int .i64 k),.sc (.string (mkB t)),.sc (.int .i64 n),.sc (.int .i64 r),.sc (.int .i64 c)]
def eTok:Tok→List FV
 | .sign t => tok5 0 t 0 0 0
 | .num n => tok5 1 [] n 0 0
 | .txt t => tok5 2 t 0 0 0
 | .plc r c => tok5 3 [] 0 r c
 | .name t => tok5 6 t 0 0 0
def tokA (l:List FV):AV:=.agg (l.map .fz)
def wordG (l:List UInt8):Option (Tok × Nat) :=
 if spanG isD (l.drop (spanG isL l))=0 then some (.name (Lib.toUpperA (l.take (spanG isL l))),spanG isL l)
 else if spanG isL l > 1∨¬ (placeI (l.take (spanG isL l + spanG isD (l.drop (spanG isL l))))).2=true then none
 else some (.plc (placeI (l.take (spanG isL l + spanG isD (l.drop (spanG isL l))))).1.1 (placeI (l.take (spanG isL l + spanG isD (l.drop (spanG isL l))))).1.2,spanG isL l + spanG isD (l.drop (spanG isL l)))
def tokR (z:List FV):Option (Tok × Nat)→AV
 | none => .tup [tokA z,i64 0]
 | some p => .tup [tokA (eTok p.1),i64 p.2]
theorem isL_ascii {c:UInt8} (h:isL c=true):c.toNat < 128:=by
 have:=c.toNat_lt
 by_cases h1:97≤c.toNat∧c.toNat≤122
 ·omega
 ·have hu:upI c=c.toNat:=if_neg h1
  unfold isL colG at h
  rw [hu] at h
  by_cases h2:65≤c.toNat∧c.toNat≤90
  ·omega
  ·rw [if_neg h2] at h
   cases h
theorem span_all (p:UInt8→Bool) : ∀ l:List UInt8,(l.take (spanG p l)).all p=true
 | [] => rfl
 | c :: r => by
  unfold spanG
  split
  ·rename_i h
   simp [h]
   have:=span_all p r
   simpa using this
  ·simp
theorem run_word (l:List UInt8) (hl:l.length≤1000000000000):(W m e3 e4).run 144 [bs l] []=some (tokR (tok5 0 [] 0 0 0) (wordG l),[]):=by
 refine run_wp (by rw [W_T]; exact rfl) ?_
 have h1:=run_span (m:=m) (e3:=e3) (e4:=e4) isL 143 (by decide) run_letter l hl
 have h2:=run_span (m:=m) (e3:=e3) (e4:=e4) isD 141 (by decide) run_digit (l.drop (spanG isL l)) (by rw [List.length_drop]; omega)
 have hn:=spanG_le isL l
 have hd:=spanG_le isD (l.drop (spanG isL l))
 rw [List.length_drop] at hd
 have h3:=run_upper (m:=m) (e3:=e3) (e4:=e4) (l.take (spanG isL l)) (by rw [List.length_take]; omega) (by
  have:=span_all isL l
  rw [List.all_eq_true] at this ⊢
  intro b hb
  simpa using isL_ascii (this b hb))
 have h4:=run_placeOf (m:=m) (e3:=e3) (e4:=e4) (l.take (spanG isL l + spanG isD (l.drop (spanG isL l)))) (by rw [List.length_take]; omega)
 unfold wordG
 generalize spanG isL l=n at *
 generalize spanG isD (l.drop n)=d at *
 generalize placeI (l.take (n + d))=P at *
 obtain ⟨⟨pr,pc⟩,ok⟩:=P
 have t1:List.take l.length l=l:=List.take_length
 have t2:((n:Int) + (d:Int)).toNat=n + d:=by omega
 by_cases h0:d=0
 ·rw [if_pos h0]
  simp -dsimp -implicitDefEqProofs (maxSteps:=1000000) (disch:=omega) [ST,h1,h2,h0,h3,t1,tokR,tokA,eTok]
 ·rw [if_neg h0]
  by_cases h5:n > 1
  ·rw [if_pos (.inl h5)]
   simp -dsimp -implicitDefEqProofs (maxSteps:=1000000) (disch:=omega) [ST,h1,h2,h0,h4,h5,t1,t2,tokR,tokA]
  ·cases ok with
   | false =>
    rw [if_pos (by simp)]
    simp -dsimp -implicitDefEqProofs (maxSteps:=1000000) (disch:=omega) [ST,h1,h2,h0,h4,h5,t1,t2,tokR,tokA]
   | true =>
    rw [if_neg (by simp; omega)]
    simp -dsimp -implicitDefEqProofs (maxSteps:=1000000) (disch:=omega) [ST,h1,h2,h0,h4,h5,t1,t2,tokR,tokA,eTok]
end Go.Vai
namespace Go.Vai
variable {m:Int} {e3 e4:Value}
theorem run_hasp (l p:List UInt8) (hl:l.length≤1000000000000) (hp:p.length≤1000000000000):(W m e3 e4).run 130 [bs l,bs p] []=some (bo (p.isPrefixOf l),[]):=by
 refine run_wp (by rw [W_T]; exact rfl) ?_
 by_cases h:p.length≤l.length
 ·have e:p.isPrefixOf l=decide (l.take p.length=p):=by
   rw [Bool.eq_iff_iff,List.isPrefixOf_iff_prefix,decide_eq_true_eq,List.prefix_iff_eq_take]
   exact ⟨fun h => h.symm,fun h => h.symm⟩
  rw [e]
  by_cases h2:l.take p.length=p
  ·simp -dsimp -implicitDefEqProofs (maxSteps:=1000000) (disch:=omega) [ST,h,h2]
  ·simp -dsimp -implicitDefEqProofs (maxSteps:=1000000) (disch:=omega) [ST,h,h2]
 ·have e:p.isPrefixOf l=false:=by
   rw [Bool.eq_false_iff,Ne,List.isPrefixOf_iff_prefix]
   exact fun hh => h hh.length_le
  rw [e]
  simp -dsimp -implicitDefEqProofs (maxSteps:=1000000) (disch:=omega) [ST,h]
theorem run_hasPrefix (l p:List UInt8) (hl:l.length≤1000000000000) (hp:p.length≤1000000000000):(W m e3 e4).run 146 [bs l,bs p] []=some (bo (p.isPrefixOf l),[]):=by
 refine run_wp (by rw [W_T]; exact rfl) ?_
 simp -dsimp -implicitDefEqProofs (maxSteps:=1000000) (disch:=omega) [ST,run_hasp l p hl hp]
def signsL:List (List UInt8):=[[60,62],[60,61],[62,61],[43],[45],[42],[47],[38],[61],[60],[62],[40],[41],[44],[58]]
def signG (l:List UInt8):Option (List UInt8):=signsL.find? fun t => t.isPrefixOf l
def valG (l:List UInt8):Nat:=l.foldl (fun a b => 10 * a + (b.toNat - 48)) 0
theorem valG_take (l:List UInt8) (i:Nat) (b:UInt8) (h:l[i]? = some b):valG (l.take (i + 1))=10 * valG (l.take i) + (b.toNat - 48):=by
 rw [List.take_add_one,h]
 simp [valG]
theorem spanG_get (p:UInt8→Bool) : ∀ (l:List UInt8) (i:Nat) (b:UInt8),i < spanG p l→l[i]? = some b→p b=true
 | [],i,b,h,_ => by simp [spanG] at h
 | c :: r, i, b, h, hb => by
  unfold spanG at h
  split at h
  ·rename_i hc
   cases i with
   | zero => simp at hb; subst hb; exact hc
   | succ i => simp at hb; exact spanG_get p r i b (by omega) hb
  ·omega
def nextG:List UInt8→Option (Tok × Nat)
 | [] => none
 | c :: r => if isD c=true then (if spanG isD (c :: r) > 9 then none else some (.num (valG ((c :: r).take (spanG isD (c :: r)))),spanG isD (c :: r)))
  else if isL c=true then wordG (c :: r)
  else if c=34 then (putG [] 1 (quotG r)).map fun p => (.txt p.1,p.2)
  else (signG (c :: r)).map fun t => (.sign t,t.length)
def zTok (l:List UInt8):List FV:=match l with
 | [] => tok5 0 [] 0 0 0
 | c :: _ => if c=34 then tok5 2 [] 0 0 0 else tok5 0 [] 0 0 0
def S43 (l:List UInt8) (n:Nat) (a:Nat × Nat):St:={ sl:=[(0,bs l),(2,.bp 0 0),(5,i64 n),(6,i64 a.2),(22,i64 n),(23,i64 a.1)],hp:=[(0,some (.box [i64 0,bs [],i64 0,i64 0,i64 0]))],nx:=1 }
def S43b (l:List UInt8) (i:Nat):St:={ sl:=[(0,bs l),(2,.bp 0 0),(56,.agg (signsL.map bs)),(57,i64 i)],hp:=[(0,some (.box [i64 0,bs [],i64 0,i64 0,i64 0]))],nx:=1 }
theorem signs_get (i:Nat) (h:i < 15) : ∃ t,signsL[i]? = some t∧(signsL.map bs)[i]? = some (bs t)∧t.length≤2∧1≤t.length∧t∈signsL:=by
 match i,h with
 | 0,_ | 1,_ | 2,_ | 3,_ | 4,_ | 5,_ | 6,_ | 7,_ | 8,_ | 9,_ | 10,_ | 11,_ | 12,_ | 13,_ | 14,_ => exact ⟨_,rfl,rfl,by decide,by decide,by decide⟩
 | i + 15,h => omega
theorem signs_names:AV.namesL (signsL.map bs)=[]:=rfl
theorem signs_ren (ρ:Nat→Option Nat):AV.renL ρ (signsL.map bs)=signsL.map bs:=rfl
theorem find_drop (p:List UInt8→Bool) (i:Nat) (t:List UInt8) (h:signsL[i]? = some t):(signsL.drop i).find? p=if p t=true then some t else (signsL.drop (i + 1)).find? p:=by
 have hi:=(List.getElem?_eq_some_iff.1 h).1
 rw [List.drop_eq_getElem_cons hi,(List.getElem?_eq_some_iff.1 h).2,List.find?_cons]
 split <;> rename_i hp <;> simp [hp]
set_option maxHeartbeats 1000000 in
theorem run_next (l:List UInt8) (hl:l.length≤1000000000000) (hne:l≠[]):(W m e3 e4).run 105 [bs l] []=some (tokR (zTok l) (nextG l),[]):=by
 obtain ⟨c,r,hL⟩ : ∃ c r,l=c :: r:=by
  cases l with
  | nil => exact absurd rfl hne
  | cons c r => exact ⟨c,r,rfl⟩
 have hlen:l.length=r.length + 1:=by rw [hL]; simp
 have g0:l[0]? = some c:=by rw [hL]; rfl
 have k0 : ∀ h:0 < l.length,l[0]=c:=fun h => (List.getElem?_eq_some_iff.1 g0).2
 have d1:=run_digit (m:=m) (e3:=e3) (e4:=e4) c
 have d2:=run_letter (m:=m) (e3:=e3) (e4:=e4) c
 have d3:=run_span (m:=m) (e3:=e3) (e4:=e4) isD 141 (by decide) run_digit l hl
 have d4:=run_word (m:=m) (e3:=e3) (e4:=e4) l hl
 have d5:=run_quoted (m:=m) (e3:=e3) (e4:=e4) l hl
 have gt:l.drop 1=r:=by rw [hL]; rfl
 rw [gt] at d5
 have e1:nextG l=if isD c=true then (if spanG isD l > 9 then none else some (.num (valG (l.take (spanG isD l))),spanG isD l))
  else if isL c=true then wordG l
  else if c=34 then (putG [] 1 (quotG r)).map fun p => (.txt p.1,p.2)
  else (signG l).map fun t => (.sign t,t.length):=by rw [hL]; rfl
 have e2:zTok l=if c=34 then tok5 2 [] 0 0 0 else tok5 0 [] 0 0 0:=by rw [hL]; rfl
 have hn:=spanG_le isD l
 have t1:List.take l.length l=l:=List.take_length
 refine run_wp (by rw [W_T]; exact rfl) ?_
 rw [e1,e2]
 clear hL e1 e2 gt
 by_cases h1:isD c=true
 ·have hc34:c≠34:=by rintro rfl; cases h1
  rw [if_pos h1,if_neg hc34]
  rw [h1] at d1
  by_cases h2:spanG isD l > 9
  ·rw [if_pos h2]
   simp -dsimp -implicitDefEqProofs (maxSteps:=1000000) (disch:=omega) [ST,hlen,k0,d1,d3,h2,tokR,tokA]
  ·rw [if_neg h2]
   have hsp:=spanG_get isD l
   generalize hN:spanG isD l=n at *
   simp -dsimp -implicitDefEqProofs (maxSteps:=1000000) (disch:=omega) [ST,hlen,k0,d1,d3,h2]
   refine wp_inv (S43 l n) (fun a => a.1≤n∧a.2=valG (l.take a.1)∧a.2 < 10 ^ a.1) (fun a => n - a.1) (0,0) ⟨by simp,by simp [valG],by simp⟩ (by simp -dsimp -implicitDefEqProofs (maxSteps:=1000000) (disch:=omega) [ST,S43]) ?_
   rintro ⟨i,v⟩ ⟨hi,hv,hb⟩
   simp only at hi hv hb
   by_cases h:i < n
   ·obtain ⟨b,hb1⟩ : ∃ b,l[i]=b:=⟨_,rfl⟩
    have hb2:l[i]? = some b:=by rw [List.getElem?_eq_getElem (by omega),hb1]
    have hbd:=hsp i b h hb2
    unfold isD at hbd
    simp only [Bool.and_eq_true,decide_eq_true_eq] at hbd
    have ht:=valG_take l i b hb2
    have h10:10 ^ i≤10 ^ 8:=Nat.pow_le_pow_right (by omega) (by omega)
    have h11:10 ^ (i + 1)=10 * 10 ^ i:=by rw [Nat.pow_succ]; omega
    have hil:i < l.length:=by omega
    have eb:((b.toNat - 48:Nat):Int)=(b.toNat:Int) - 48:=by omega
    simp -dsimp -implicitDefEqProofs (maxSteps:=1000000) (disch:=omega) [ST,S43,h,hil,hb1,wrap_u8]
    refine again (i + 1,10 * v + (b.toNat - 48)) ⟨by simp only; omega,by simp only; rw [ht,hv],by simp only; rw [h11]; omega⟩ (by simp only; omega) (by simp -dsimp -implicitDefEqProofs (maxSteps:=1000000) (disch:=omega) [ST,S43,eb])
   ·have hin:i=n:=by omega
    subst hin
    simp -dsimp -implicitDefEqProofs (maxSteps:=1000000) (disch:=omega) [ST,S43,h,tokR,tokA,eTok,hv]
 ·rw [if_neg h1]
  rw [Bool.eq_false_iff.2 h1] at d1
  by_cases h2:isL c=true
  ·have hc34:c≠34:=by rintro rfl; cases h2
   rw [if_pos h2,if_neg hc34]
   rw [h2] at d2
   cases hw:wordG l with
   | none =>
    rw [hw] at d4
    simp only [tokR,tokA,List.map] at d4
    simp -dsimp -implicitDefEqProofs (maxSteps:=1000000) (disch:=omega) [ST,hlen,k0,d1,d2,d4,tokR,tokA]
   | some p =>
    rw [hw] at d4
    obtain ⟨t,n⟩:=p
    cases t <;> simp only [tokR,tokA,eTok,List.map] at d4 <;> simp -dsimp -implicitDefEqProofs (maxSteps:=1000000) (disch:=omega) [ST,hlen,k0,d1,d2,d4,tokR,tokA,eTok]
  ·rw [if_neg h2]
   rw [Bool.eq_false_iff.2 h2] at d2
   by_cases h3:c=34
   ·subst h3
    rw [if_pos rfl,if_pos rfl]
    have d1':(W m e3 e4).run 141 [u8 34] []=some (bo false,[]):=d1
    have d2':(W m e3 e4).run 143 [u8 34] []=some (bo false,[]):=d2
    cases hq:putG [] 1 (quotG r) with
    | none =>
     rw [hq] at d5
     simp only [quotR] at d5
     simp -dsimp -implicitDefEqProofs (maxSteps:=1000000) (disch:=omega) [ST,hlen,k0,d1',d2',d5,tokR,tokA]
    | some p =>
     rw [hq] at d5
     simp only [quotR] at d5
     simp -dsimp -implicitDefEqProofs (maxSteps:=1000000) (disch:=omega) [ST,hlen,k0,d1',d2',d5,tokR,tokA,eTok]
   ·rw [if_neg h3,if_neg h3]
    have hcn : ¬ c.toNat=34:=fun e => h3 (by apply UInt8.toNat.inj; exact e)
    simp -dsimp -implicitDefEqProofs (maxSteps:=1000000) (disch:=omega) [ST,hlen,k0,d1,d2,hcn]
    refine wp_inv (S43b l) (fun i => i≤15∧(signsL.drop i).find? (fun t => t.isPrefixOf l)=signG l) (fun i => 15 - i) 0 ⟨by simp,rfl⟩ (by simp -dsimp -implicitDefEqProofs (maxSteps:=1000000) (disch:=omega) [ST,S43b,signsL]) ?_
    rintro i ⟨hi,hs⟩
    by_cases h:i < 15
    ·obtain ⟨t,s1,s2,s3,s4,s5⟩:=signs_get i h
     rw [find_drop _ i t s1] at hs
     have hp:=run_hasPrefix (m:=m) (e3:=e3) (e4:=e4) l t hl (by omega)
     by_cases hpt:t.isPrefixOf l=true
     ·rw [if_pos hpt] at hs
      rw [hpt] at hp
      rw [← hs]
      simp -dsimp -implicitDefEqProofs (maxSteps:=1000000) (disch:=omega) [ST,S43b,h,s2,hp,tokR,tokA,eTok]
     ·rw [if_neg hpt] at hs
      rw [Bool.eq_false_iff.2 hpt] at hp
      simp -dsimp -implicitDefEqProofs (maxSteps:=1000000) (disch:=omega) [ST,S43b,h,s2,hp]
      refine again (i + 1) ⟨by omega,hs⟩ (by omega) (by simp -dsimp -implicitDefEqProofs (maxSteps:=1000000) (disch:=omega) [ST,S43b,signs_names,signs_ren])
    ·have:i=15:=by omega
     subst this
     have:signG l=none:=by rw [← hs]; rfl
     rw [this]
     simp -dsimp -implicitDefEqProofs (maxSteps:=1000000) (disch:=omega) [ST,S43b,tokR,tokA]
def trimG:List UInt8→List UInt8
 | [] => []
 | c :: r => if c=32 then trimG r else c :: r
theorem trimG_len : ∀ l,(trimG l).length≤l.length
 | [] => Nat.le_refl _
 | c :: r => by unfold trimG; split; have:=trimG_len r; simp; omega; simp
def S76 (l:List UInt8):St:={ sl:=[(0,bs l),(1,u8 32)],hp:=[],nx:=0 }
theorem run_trimB (l:List UInt8) (hl:l.length≤1000000000000):(W m e3 e4).run 137 [bs l,u8 32] []=some (bs (trimG l),[]):=by
 refine run_wp (by rw [W_T]; exact rfl) ?_
 simp -dsimp -implicitDefEqProofs (maxSteps:=1000000) (disch:=omega) [ST]
 refine wp_inv S76 (fun a => trimG a=trimG l) (fun a => a.length) l rfl (by simp -dsimp -implicitDefEqProofs (maxSteps:=1000000) (disch:=omega) [ST,S76]) ?_
 intro a ha
 match a,ha with
 | [],ha =>
  rw [← ha]
  simp -dsimp -implicitDefEqProofs (maxSteps:=1000000) (disch:=omega) [ST,S76,trimG]
 | c :: r, ha =>
  rw [← ha]
  by_cases h:c=32
  ·subst h
   simp -dsimp -implicitDefEqProofs (maxSteps:=1000000) (disch:=omega) [ST,S76]
   refine again r (by rw [trimG,if_pos rfl]) (by simp) (by simp -dsimp -implicitDefEqProofs (maxSteps:=1000000) (disch:=omega) [ST,S76])
  ·have hcn : ¬ c.toNat=32:=fun e => h (by apply UInt8.toNat.inj; exact e)
   simp -dsimp -implicitDefEqProofs (maxSteps:=1000000) (disch:=omega) [ST,S76,trimG,h,hcn]
theorem run_trim (l:List UInt8) (hl:l.length≤1000000000000):(W m e3 e4).run 104 [bs l,bs [32]] []=some (bs (trimG l),[]):=by
 refine run_wp (by rw [W_T]; exact rfl) ?_
 have h:=run_trimB (m:=m) (e3:=e3) (e4:=e4) l hl
 by_cases h0:l=[]
 ·subst h0
  simp -dsimp -implicitDefEqProofs (maxSteps:=1000000) (disch:=omega) [ST,trimG]
 ·simp -dsimp -implicitDefEqProofs (maxSteps:=1000000) (disch:=omega) [ST,h0,h]
def toksF:Nat→List UInt8→Option (List Tok)
 | 0,_ => none
 | k + 1, s => match trimG s with
  | [] => some []
  | c :: r => match nextG (c :: r) with
   | none => none
   | some (t,n) => (toksF k ((c :: r).drop n)).map (t :: ·)
def toksG (l:List UInt8):Option (List Tok):=toksF (l.length + 1) l
end Go.Vai
namespace Go.Vai
variable {m:Int} {e3 e4:Value}
theorem quotG_len : ∀ (n:Nat) (l:List UInt8),l.length≤n→∀ p,quotG l=some p→1≤p.2∧p.2≤l.length∧p.1.length < p.2
 | _,[],_,p,h => by rw [quotG_nil] at h; cases h
 | 0,c :: r,hn,_,_ => by simp at hn
 | n + 1, c :: r, hn, p, h => by
  simp only [List.length_cons] at hn
  rw [quotG_cons] at h
  split at h
  ·cases r with
   | nil => simp at h; subst h; simp
   | cons d r' =>
    simp only at h
    split at h
    ·obtain ⟨q,h1,rfl⟩:=Option.map_eq_some_iff.1 h
     have:=quotG_len n r' (by simp at hn; omega) q h1
     simp; omega
    ·simp at h; subst h; simp
  ·obtain ⟨q,h1,rfl⟩:=Option.map_eq_some_iff.1 h
   have:=quotG_len n r (by omega) q h1
   simp; omega
theorem nextG_pos {l:List UInt8} {t:Tok} {n:Nat} (h:nextG l=some (t,n)):1≤n∧n≤l.length:=by
 cases l with
 | nil => cases h
 | cons c r =>
  simp only [nextG] at h
  split at h
  ·rename_i hd
   split at h
   ·cases h
   ·injection h with h; injection h with _ h; subst h
    refine ⟨?_,spanG_le _ _⟩
    rw [spanG,if_pos hd]; omega
  ·split at h
   ·rename_i hl
    have h1:1≤spanG isL (c :: r):=by rw [spanG,if_pos hl]; omega
    have h2:=spanG_le isL (c :: r)
    have h3:=spanG_le isD ((c :: r).drop (spanG isL (c :: r)))
    rw [List.length_drop] at h3
    unfold wordG at h
    split at h
    ·injection h with h; injection h with _ h; omega
    ·split at h
     ·cases h
     ·injection h with h; injection h with _ h; omega
   ·split at h
    ·obtain ⟨p,h1,h2⟩:=Option.map_eq_some_iff.1 h
     injection h2 with _ h2
     unfold putG at h1
     obtain ⟨q,h3,rfl⟩:=Option.map_eq_some_iff.1 h1
     have:=quotG_len _ r (Nat.le_refl _) q h3
     simp at h2 ⊢; omega
    ·obtain ⟨s,h1,h2⟩:=Option.map_eq_some_iff.1 h
     injection h2 with _ h2
     have hm:=List.mem_of_find?_eq_some h1
     have hp:=List.find?_some h1
     rw [List.isPrefixOf_iff_prefix] at hp
     have h4:=hp.length_le
     have h5:1≤s.length:=by
      revert hm; revert s
      intro s _ _ _ _ _ hm
      simp [signsL] at hm
      rcases hm with h | h | h | h | h | h | h | h | h | h | h | h | h | h | h <;> subst h <;> decide
     omega
theorem toksF_succ : ∀ (k:Nat) (s:List UInt8),s.length < k→toksF k s=toksF (k + 1) s
 | 0,s,h => by omega
 | k + 1, s, h => by
  rw [toksF,toksF]
  have ht:=trimG_len s
  generalize trimG s=u at *
  cases u with
  | nil => rfl
  | cons c r =>
   simp only
   cases hn:nextG (c :: r) with
   | none => rfl
   | some p =>
    obtain ⟨t,n⟩:=p
    have:=nextG_pos hn
    simp only
    rw [toksF_succ k _ (by rw [List.length_drop]; omega)]
theorem toksF_ge (s:List UInt8) : ∀ (j k:Nat),s.length < k→toksF (k + j) s=toksF k s
 | 0,k,h => rfl
 | j + 1,k,h => by rw [← Nat.add_assoc,← toksF_succ _ s (by omega),toksF_ge s j k h]
theorem toksF_eq (s:List UInt8) (k:Nat) (h:s.length < k):toksF k s=toksG s:=by
 obtain ⟨j,rfl⟩ : ∃ j,k=s.length + 1 + j:=⟨k - (s.length + 1),by omega⟩
 exact toksF_ge s j _ (by omega)
theorem trimG_trim : ∀ l,trimG (trimG l)=trimG l
 | [] => rfl
 | c :: r => by
  by_cases h:c=32
  ·rw [trimG,if_pos h,trimG_trim r]
  ·rw [trimG,if_neg h,trimG,if_neg h]
theorem toksG_trim (l:List UInt8):toksG (trimG l)=toksG l:=by
 rw [← toksF_eq (trimG l) (l.length + 1) (by have:=trimG_len l; omega)]
 unfold toksG
 rw [toksF,toksF,trimG_trim]
theorem toksG_cons {c:UInt8} {r:List UInt8} (h:trimG (c :: r)=c :: r):toksG (c :: r)=match nextG (c :: r) with
 | none => none
 | some (t,n) => (toksG ((c :: r).drop n)).map (t :: ·):=by
 unfold toksG
 rw [toksF,h]
 simp only
 cases hn:nextG (c :: r) with
 | none => rfl
 | some p =>
  obtain ⟨t,n⟩:=p
  have:=nextG_pos hn
  simp only
  rw [toksF_eq _ _ (by rw [List.length_drop]; simp at *; omega)]
  rfl
def toksR:Option (List Tok)→AV
 | none => .tup [rw_ [],bo false]
 | some ts => .tup [rw_ (ts.map eTok),bo true]
@[simp] theorem eTok_len (t : Tok) : (eTok t).length = 5 := by cases t <;> rfl
def S19 (a:List UInt8 × List Tok):St:={ sl:=[(0,bs a.1),(4,.osl 0 5 0 a.2.length)],hp:=[(0,some (.arr 5 (a.2.map eTok)))],nx:=1 }
theorem zTok_any (l:List UInt8) : ∃ k,zTok l=tok5 k [] 0 0 0:=by
 unfold zTok
 split
 ·exact ⟨_,rfl⟩
 ·split
  ·exact ⟨_,rfl⟩
  ·exact ⟨_,rfl⟩
theorem eTok_any (t:Tok) : ∃ k s n r c,eTok t=tok5 k s n r c:=by cases t <;> exact ⟨_,_,_,_,_,rfl⟩
theorem run_tokens (l:List UInt8) (hl:l.length≤1000000000000):(W m e3 e4).run 61 [bs l] []=some (toksR (toksG l),[]):=by
 refine run_wp (by rw [W_T]; exact rfl) ?_
 have t0:=run_trim (m:=m) (e3:=e3) (e4:=e4) l hl
 simp -dsimp -implicitDefEqProofs (maxSteps:=1000000) (disch:=omega) [ST,t0]
 refine wp_inv S19 (fun a => trimG a.1=a.1∧(toksG a.1).map (a.2 ++ ·)=toksG l∧a.2.length + a.1.length≤l.length) (fun a => a.1.length) (trimG l,[]) ⟨trimG_trim l,by rw [toksG_trim]; simp,by simp [trimG_len]⟩ (by simp -dsimp -implicitDefEqProofs (maxSteps:=1000000) (disch:=omega) [ST,S19]) ?_
 rintro ⟨s,o⟩ ⟨ht,ho,hle⟩
 simp only at ht ho hle
 cases hs:s with
 | nil =>
  subst hs
  have e:toksG l=some o:=by rw [← ho]; simp [toksG,toksF,trimG]
  rw [e]
  simp -dsimp -implicitDefEqProofs (maxSteps:=1000000) (disch:=omega) [ST,S19,toksR,List.take_of_length_le]
 | cons c r =>
  have ht':=ht
  rw [hs] at ht' ho
  rw [toksG_cons ht'] at ho
  rw [← hs] at ho ⊢
  have hne:s≠[]:=by rw [hs]; simp
  have hn:=run_next (m:=m) (e3:=e3) (e4:=e4) s (by omega) hne
  cases hx:nextG s with
  | none =>
   rw [hx] at ho hn
   simp only [Option.map_none] at ho
   rw [← ho]
   obtain ⟨k,hk⟩:=zTok_any s
   rw [hk] at hn
   simp only [tokR,tokA,List.map] at hn
   simp -dsimp -implicitDefEqProofs (maxSteps:=1000000) (disch:=omega) [ST,S19,hne,hn,toksR]
  | some p =>
   obtain ⟨t,n⟩:=p
   rw [hx] at ho hn
   simp only at ho
   obtain ⟨p1,p2⟩:=nextG_pos hx
   obtain ⟨k,ts,nn,rr,cc,hk⟩:=eTok_any t
   simp only [tokR,hk,tokA,List.map] at hn
   have t1:=run_trim (m:=m) (e3:=e3) (e4:=e4) (s.drop n) (by rw [List.length_drop]; omega)
   have hn0 : ¬ n=0:=by omega
   have tk:List.take s.length s=s:=List.take_length
   simp -dsimp -implicitDefEqProofs (maxSteps:=1000000) (disch:=omega) [ST,S19,hne,hn,hn0,t1,tk,show o.length + 1≤140737488355328 by omega]
   refine again (trimG (s.drop n),o ++ [t]) ⟨trimG_trim _,?_,?_⟩ ?_ (by simp -dsimp -implicitDefEqProofs (maxSteps:=1000000) (disch:=omega) [ST,S19,hk])
   ·simp only
    rw [toksG_trim,← ho]
    cases toksG (s.drop n) <;> simp
   ·have:=trimG_len (s.drop n)
    rw [List.length_drop] at this
    simp; omega
   ·have:=trimG_len (s.drop n)
    rw [List.length_drop] at this
    simp only; omega
end Go.Vai
namespace Go.Vai
variable {m:Int} {e3 e4:Value}
abbrev u64 (n:Int):AV:=.fz (.sc (.int .u64 n))
theorem parse_app (a b:List UInt8) : ∀ (acc v:Nat),Lib.parseUint10 acc a=.ok v→Lib.parseUint10 acc (a ++ b)=Lib.parseUint10 v b:=by
 induction a with
 | nil =>
  intro acc v h
  simp only [Lib.parseUint10] at h
  injection h with h
  subst h
  rfl
 | cons c r ih =>
  intro acc v h
  simp only [Lib.parseUint10,List.cons_append] at h ⊢
  split at h
  ·split at h
   ·cases h
   ·split at h
    ·cases h
    ·rename_i h1 h2 h3
     rw [if_pos h1,if_neg h2,if_neg h3]
     exact ih _ _ h
  ·cases h
theorem parse_dig (acc k:Nat) (hk:k < 10) (h:acc * 10 + k < 18446744073709551616):Lib.parseUint10 acc [UInt8.ofNat (48 + k)]=.ok (acc * 10 + k):=by
 have e:(UInt8.ofNat (48 + k)).toNat=48 + k:=by simp; omega
 simp only [Lib.parseUint10,e]
 rw [if_pos (by omega),if_neg (by omega),if_neg (by omega)]
 congr 1
 omega
theorem parse_dec : ∀ u:Nat,u < 18446744073709551616→Lib.parseUint10 0 (Lib.decDigits u)=.ok u:=by
 intro u
 induction u using Nat.strongRecOn with
 | ind u ih =>
  intro hu
  rw [Lib.decDigits]
  split
  ·rename_i h
   rw [parse_dig 0 u h (by omega)]
   congr 1
   omega
  ·rename_i h
   rw [parse_app _ _ 0 (u / 10) (ih _ (by omega) (by omega)),parse_dig _ _ (by omega) (by omega)]
   congr 1
   omega
theorem dec_ne (u:Nat):Lib.decDigits u≠[]:=by
 rw [Lib.decDigits]
 split <;> simp
theorem dec_head (u:Nat) : ∀ c r,Lib.decDigits u=c :: r→48≤c.toNat∧c.toNat≤57:=by
 induction u using Nat.strongRecOn with
 | ind u ih =>
  intro c r h
  rw [Lib.decDigits] at h
  split at h
  ·rename_i h1
   injection h with h h2
   rw [← h]
   simp
   omega
  ·rename_i h1
   cases hd:Lib.decDigits (u / 10) with
   | nil => exact absurd hd (dec_ne _)
   | cons c2 r2 =>
    rw [hd] at h
    injection h with h h2
    rw [← h]
    exact ih _ (by omega) c2 r2 hd
theorem atoi_itoa (n:Int) (h:inI n):Lib.atoiAll (Lib.itoa n)=.ok n:=by
 unfold Lib.itoa
 split
 ·rename_i h0
  have hp:=parse_dec n.natAbs (by omega)
  have hm:Lib.parseMag (Lib.decDigits n.natAbs)=.ok n.natAbs:=by
   unfold Lib.parseMag
   rw [if_neg (dec_ne _),hp]
  simp only [Lib.atoiAll]
  have e45:(45:UInt8).toNat=45:=rfl
  rw [if_pos (.inr e45),hm]
  simp only [e45]
  rw [if_neg (by simp),if_neg (by simp; omega)]
  simp
  omega
 ·rename_i h0
  have hp:=parse_dec n.toNat (by omega)
  have hm:Lib.parseMag (Lib.decDigits n.toNat)=.ok n.toNat:=by
   unfold Lib.parseMag
   rw [if_neg (dec_ne _),hp]
  cases hd:Lib.decDigits n.toNat with
  | nil => exact absurd hd (dec_ne _)
  | cons c r =>
   have hh:=dec_head _ c r hd
   rw [hd] at hm
   simp only [Lib.atoiAll]
   rw [if_neg (by omega),hm]
   simp only
   rw [if_neg (by omega),if_neg (by omega),if_neg (by omega)]
   congr 1
   omega
theorem parseG_itoa (n:Int) (h:inI n):parseG (Lib.itoa n)=(n,true):=by
 unfold parseG
 rw [atoi_itoa n h]
 exact if_pos rfl
theorem parseG_cases (l:List UInt8):(∃ v,parseG l=(v,true)∧Lib.itoa v=l∧inI v)∨(parseG l=(0,false)∧¬ Lib.itoa 0=l):=by
 have h0:parseG l=(0,false)→¬ Lib.itoa 0=l:=by
  intro h1 h
  rw [← h,parseG_itoa 0 (by decide)] at h1
  cases h1
 cases ha:Lib.atoiAll l with
 | ok v =>
  have hb:=Lib.atoiAll_bounds ha
  by_cases h:Lib.itoa v=l
  ·exact .inl ⟨v,by unfold parseG; rw [ha]; exact if_pos h,h,hb.1,hb.2⟩
  ·have e:parseG l=(0,false):=by unfold parseG; rw [ha]; exact if_neg h
   exact .inr ⟨e,h0 e⟩
 | range =>
  have e:parseG l=(0,false):=by unfold parseG; rw [ha]
  exact .inr ⟨e,h0 e⟩
 | _ =>
  have e:parseG l=(0,false):=by unfold parseG; rw [ha]
  exact .inr ⟨e,h0 e⟩
end Go.Vai
