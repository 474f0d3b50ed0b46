/-
  What functions of layer 9 and of its reference compute: equations of the abstract run, and plain laws of them.
-/
import Derived.Test.YtljbbcpahapmnaaGreatDoorCK0
set_option linter.unusedVariables false
set_option linter.unusedSimpArgs false
set_option linter.unnecessarySimpa false
set_option linter.unusedSectionVars false
namespace Go.Vai
variable {m:Int} {e3 e4:Value}
def eIn (n:Int):List FV:=[.sc (.int .i64 n)]
def eTx (t:List UInt8):List FV:=[.sc (.string (mkB t))]
def rwS (l:List (List FV)):AV:=.fz (.sl l)
end Go.Vai
namespace Go.Vai
variable {m:Int} {e3 e4:Value}
structure Sh where
 cells:List Cel
 wid:List Int
 mac:List (List UInt8)
deriving DecidableEq
def shA (s:Sh):AV:=.agg [rwS (s.cells.map eCel),rwS (s.wid.map eIn),rwS (s.mac.map eTx)]
theorem shA_mk (s:Sh):shA s=.agg [rwS (s.cells.map eCel),rwS (s.wid.map eIn),rwS (s.mac.map eTx)]:=rfl
def befB (a b c d:Int):Bool:=decide (a < c) || (decide (a=c) && decide (b < d))
theorem run_order (a b c d:Int) (ha:1≤a∧a≤99) (hb:1≤b∧b≤26) (hc:1≤c∧c≤99) (hd:1≤d∧d≤26):(W m e3 e4).run 50 [pl a b,pl c d] []=some (i64 (if a=c then b - d else a - c),[]):=by
 refine run_wp (by rw [W_T]; exact rfl) ?_
 by_cases a1:a=c
 ·subst a1
  simp -dsimp -implicitDefEqProofs (maxSteps:=1000000) (disch:=omega) [ST,wrap_i64]
 ·simp -dsimp -implicitDefEqProofs (maxSteps:=1000000) (disch:=omega) [ST,a1,wrap_i64]
end Go.Vai
namespace Go.Vai
variable {m:Int} {e3 e4:Value}
def sumT (l:List (List UInt8)):Nat:=(l.map (·.length)).sum
def szSh (s:Sh):Nat:=s.cells.length + s.wid.length + s.mac.length + sumT (s.cells.map (·.2.2)) + sumT s.mac
def fewB (s:Sh) (k:Int):Bool:=decide ((szSh s:Int)≤k)
end Go.Vai
namespace Go.Vai
variable {m:Int} {e3 e4:Value}
theorem sumT_take (l:List (List UInt8)) (i:Nat) (t:List UInt8) (h:l[i]? = some t):sumT (l.take (i + 1))=sumT (l.take i) + t.length:=by
 unfold sumT
 rw [List.take_add_one,h]
 simp
theorem sumT_le (l:List (List UInt8)) (i:Nat):sumT (l.take i)≤sumT l:=by
 have e:sumT l=sumT (l.take i) + sumT (l.drop i):=by
  unfold sumT
  rw [← List.sum_append,← List.map_append,List.take_append_drop]
 omega
def S8 (s:Sh) (k:Int) (a:Nat × Nat):St:={ sl:=[(1,i64 k),(2,.bp 0 0),(5,i64 a.2),(6,i64 a.1)],hp:=[(0,some (.box [rwS (s.cells.map eCel),rwS (s.wid.map eIn),rwS (s.mac.map eTx)]))],nx:=1 }
def S8' (s:Sh) (k:Int) (a:Nat × Nat):St:={ sl:=[(1,i64 k),(2,.bp 0 0),(5,i64 a.2),(7,i64 a.1)],hp:=[(0,some (.box [rwS (s.cells.map eCel),rwS (s.wid.map eIn),rwS (s.mac.map eTx)]))],nx:=1 }
theorem run_few (s:Sh) (k:Int) (hk0:k≤1000000000000) (q1:s.cells.length≤140737488351232) (q2:s.wid.length≤140737488351232) (q3:s.mac.length≤140737488351232) (hT : ∀ c∈s.cells,c.2.2.length≤140737488351232) (hM : ∀ t∈s.mac,t.length≤140737488351232):(W m e3 e4).run 8 [shA s,i64 k] []=some (bo (fewB s k),[]):=by
 unfold fewB
 have hsz:szSh s=s.cells.length + s.wid.length + s.mac.length + sumT (s.cells.map (·.2.2)) + sumT s.mac:=rfl
 obtain ⟨N,hN⟩ : ∃ N,szSh s=N:=⟨_,rfl⟩
 rw [hN] at hsz ⊢
 simp only [shA_mk,rwS]
 refine run_wp (by rw [W_T]; exact rfl) ?_
 simp -dsimp -implicitDefEqProofs (maxSteps:=1000000) (disch:=omega) [ST]
 refine wp_inv (S8 s k) (fun a => a.1≤s.cells.length∧a.2=s.cells.length + s.wid.length + s.mac.length + sumT ((s.cells.map (·.2.2)).take a.1)∧a.2≤1000000000000000) (fun a => s.cells.length - a.1) (0,s.cells.length + s.wid.length + s.mac.length) ⟨by simp,by simp [sumT],by simp only; omega⟩ (by simp -dsimp -implicitDefEqProofs (maxSteps:=1000000) (disch:=omega) [ST,S8,rwS,wrap_i64]) ?_
 rintro ⟨i,n⟩ ⟨hi,hn,hn0⟩
 simp only at hi hn hn0
 have hle:=sumT_le (s.cells.map (·.2.2)) i
 have second : ∀ n:Nat,(n≤N)→(n=s.cells.length + s.wid.length + s.mac.length + sumT (s.cells.map (·.2.2))∨k < n)→True:=fun _ _ _ => trivial
 by_cases h:i < s.cells.length
 ·by_cases hk:(n:Int)≤k
  ·obtain ⟨c,hc⟩ : ∃ c,s.cells[i]=c:=⟨_,rfl⟩
   have hc2:s.cells[i]? = some c:=by rw [List.getElem?_eq_getElem h,hc]
   have ht:=sumT_take (s.cells.map (·.2.2)) i c.2.2 (by simp [hc2])
   have hle2:=sumT_le (s.cells.map (·.2.2)) (i + 1)
   have hcl:=hT c (List.mem_of_getElem? hc2)
   simp -dsimp -implicitDefEqProofs (maxSteps:=1000000) (disch:=omega) [ST,S8,rwS,h,hk,hc,eCel,wrap_i64]
   refine again (i + 1,n + c.2.2.length) ⟨by simp only; omega,by simp only; omega,by simp only; omega⟩ (by simp only; omega) (by simp -dsimp -implicitDefEqProofs (maxSteps:=1000000) (disch:=omega) [ST,S8,rwS,eCel])
  ·have hkN : ¬ (N:Int)≤k:=by omega
   simp -dsimp -implicitDefEqProofs (maxSteps:=1000000) (disch:=omega) [ST,S8,rwS,h,hk]
   refine wp_inv (S8' s k) (fun a => a=(0,n)) (fun a => 0) (0,n) rfl (by simp -dsimp -implicitDefEqProofs (maxSteps:=1000000) (disch:=omega) [ST,S8',rwS]) ?_
   rintro _ rfl
   by_cases h2:0 < s.mac.length <;> simp -dsimp -implicitDefEqProofs (maxSteps:=1000000) (disch:=omega) [ST,S8',rwS,h2,hk,hkN]
 ·have:i=s.cells.length:=by omega
  subst this
  simp -dsimp -implicitDefEqProofs (maxSteps:=1000000) (disch:=omega) [ST,S8,rwS,h]
  refine wp_inv (S8' s k) (fun a => a.1≤s.mac.length∧a.2=n + sumT (s.mac.take a.1)∧a.2≤1000000000000000) (fun a => s.mac.length - a.1) (0,n) ⟨by simp,by simp [sumT],by simp only; omega⟩ (by simp -dsimp -implicitDefEqProofs (maxSteps:=1000000) (disch:=omega) [ST,S8',rwS]) ?_
  rintro ⟨j,n'⟩ ⟨hj,hn',hn1⟩
  simp only at hj hn' hn1
  have hm:=sumT_le s.mac j
  rw [List.take_of_length_le (by simp)] at hn
  by_cases h2:j < s.mac.length
  ·by_cases hk:(n':Int)≤k
   ·obtain ⟨c,hc⟩ : ∃ c,s.mac[j]=c:=⟨_,rfl⟩
    have hc2:s.mac[j]? = some c:=by rw [List.getElem?_eq_getElem h2,hc]
    have ht:=sumT_take s.mac j c hc2
    have hle2:=sumT_le s.mac (j + 1)
    have hcl:=hM c (List.mem_of_getElem? hc2)
    simp -dsimp -implicitDefEqProofs (maxSteps:=1000000) (disch:=omega) [ST,S8',rwS,h2,hk,hc,eTx,wrap_i64]
    refine again (j + 1,n' + c.length) ⟨by simp only; omega,by simp only; omega,by simp only; omega⟩ (by simp only; omega) (by simp -dsimp -implicitDefEqProofs (maxSteps:=1000000) (disch:=omega) [ST,S8',rwS,eTx])
   ·have hkN : ¬ (N:Int)≤k:=by omega
    simp -dsimp -implicitDefEqProofs (maxSteps:=1000000) (disch:=omega) [ST,S8',rwS,h2,hk,hkN]
  ·have:j=s.mac.length:=by omega
   subst this
   rw [List.take_length] at hn'
   obtain rfl:N=n':=by omega
   by_cases hk:(N:Int)≤k <;> simp -dsimp -implicitDefEqProofs (maxSteps:=1000000) (disch:=omega) [ST,S8',rwS,h2,hk]
end Go.Vai
namespace Go.Vai
variable {m:Int} {e3 e4:Value}
def okFrom:Option Cel→List Cel→Bool
 | _,[] => true
 | p,c :: r => (plB c.1 c.2.1 && (decide (¬ c.2.2=[]) && (decide (¬ (10:UInt8)∈c.2.2) && (match p with | none => true | some q => befB q.1 q.2.1 c.1 c.2.1)))) && okFrom (some c) r
def widB (l:List Int):Bool:=l.all fun w => decide (1≤w) && decide (w≤20)
def macB (l:List (List UInt8)):Bool:=l.all fun t => decide (¬ (10:UInt8)∈t)
def rightB (s:Sh):Bool:=decide (s.wid.length=26) && (widB s.wid && (okFrom none s.cells && macB s.mac))
end Go.Vai
namespace Go.Vai
variable {m:Int} {e3 e4:Value}
theorem idx_ge (l:List UInt8) (c:UInt8):(0≤Lib.indexByte l c)↔c∈l:=by
 induction l with
 | nil => simp [Lib.indexByte]
 | cons b l ih =>
  unfold Lib.indexByte
  have hg:=Lib.indexByte_ge l c
  by_cases hb:b=c
  ·subst hb; simp
  ·have hb' : ¬ c=b:=fun h => hb h.symm
   rw [if_neg (by simpa using hb)]
   rw [List.mem_cons,or_iff_right hb',← ih]
   split
   ·rename_i h; have:=beq_iff_eq.1 h; omega
   ·rename_i h; constructor <;> intro h2
    ·have : ¬ Lib.indexByte l c = -1:=fun h3 => h (beq_iff_eq.2 h3)
     omega
    ·omega
def ixG (l:List UInt8):Int:=if [10]=l then 0 else Lib.indexByte l 10
theorem run_idx1 (l:List UInt8) (hl:l.length≤1000000000000):(W m e3 e4).run 186 [bs l,bs [10]] []=some (i64 (ixG l),[]):=by
 have hE:(W m e3 e4).run 237 [bs l,.fz (.sc (.int .u8 10))] []=some (i64 (Lib.indexByte l 10),[]):=by
  refine run_E rfl ?_
  simp only [Ez,E0,mkB_list]
  rfl
 refine run_wp (by rw [W_T]; exact rfl) ?_
 unfold ixG
 by_cases h:[10]=l
 ·subst h
  simp -dsimp -implicitDefEqProofs (maxSteps:=1000000) (disch:=omega) [ST]
 ·simp -dsimp -implicitDefEqProofs (maxSteps:=1000000) (disch:=omega) [ST,h,hE]
theorem ixG_ge (l:List UInt8):decide (0≤ixG l)=decide ((10:UInt8)∈l):=by
 unfold ixG
 split
 ·rename_i h; subst h; rfl
 ·rw [decide_eq_decide]; exact idx_ge l 10
theorem run_lineless (l:List UInt8) (hl:l.length≤1000000000000):(W m e3 e4).run 49 [bs l] []=some (bo (decide (¬ (10:UInt8)∈l)),[]):=by
 have h1:=run_idx1 (m:=m) (e3:=e3) (e4:=e4) l hl
 have hg:=ixG_ge l
 have h2:(W m e3 e4).run 129 [bs l,bs [10]] []=some (i64 (ixG l),[]):=by
  refine run_wp (by rw [W_T]; exact rfl) ?_
  simp -dsimp -implicitDefEqProofs (maxSteps:=1000000) (disch:=omega) [ST,h1]
 have h3:(W m e3 e4).run 94 [bs l,bs [10]] []=some (bo (decide ((10:UInt8)∈l)),[]):=by
  refine run_wp (by rw [W_T]; exact rfl) ?_
  by_cases h:(10:UInt8)∈l
  ·have:0≤ixG l:=by simpa [h] using hg
   simp -dsimp -implicitDefEqProofs (maxSteps:=1000000) (disch:=omega) [ST,h2,this,h]
  ·have : ¬ 0≤ixG l:=by simpa [h] using hg
   simp -dsimp -implicitDefEqProofs (maxSteps:=1000000) (disch:=omega) [ST,h2,this,h]
 refine run_wp (by rw [W_T]; exact rfl) ?_
 by_cases h:(10:UInt8)∈l <;> simp -dsimp -implicitDefEqProofs (maxSteps:=1000000) (disch:=omega) [ST,h3,h]
theorem run_wide (n:Int):(W m e3 e4).run 47 [i64 n] []=some (bo (!(decide (1≤n) && decide (n≤20))),[]):=by
 refine run_wp (by rw [W_T]; exact rfl) ?_
 by_cases h1:1≤n
 ·by_cases h2:n≤20
  ·simp -dsimp -implicitDefEqProofs (maxSteps:=1000000) (disch:=omega) [ST,h1,h2,show ¬ n < 1 by omega]
  ·simp -dsimp -implicitDefEqProofs (maxSteps:=1000000) (disch:=omega) [ST,h1,h2,show ¬ n < 1 by omega]
 ·simp -dsimp -implicitDefEqProofs (maxSteps:=1000000) (disch:=omega) [ST,h1,show n < 1 by omega]
theorem run_lined (l:List UInt8) (hl:l.length≤1000000000000):(W m e3 e4).run 52 [bs l] []=some (bo (decide ((10:UInt8)∈l)),[]):=by
 have h1:=run_lineless (m:=m) (e3:=e3) (e4:=e4) l hl
 refine run_wp (by rw [W_T]; exact rfl) ?_
 by_cases h:(10:UInt8)∈l <;> simp -dsimp -implicitDefEqProofs (maxSteps:=1000000) (disch:=omega) [ST,h1,h]
end Go.Vai
namespace Go.Vai
variable {m:Int} {e3 e4:Value}
def S62 (l:List Int) (i:Nat):St:={ sl:=[(0,rwS (l.map eIn)),(1,.fn 47 []),(7,i64 l.length),(8,i64 i)],hp:=[],nx:=0 }
theorem run_contInts (l:List Int) (hl:l.length≤1000000000000):(W m e3 e4).run 46 [rwS (l.map eIn),.fn 47 []] []=some (bo (!widB l),[]):=by
 have h62 : ∃ n : Int, (W m e3 e4).run 93 [rwS (l.map eIn), .fn 47 []] [] = some (i64 n, []) ∧ (decide (0 ≤ n) = !widB l) := by
  have main : ∀ r:Int,r=(match l.findIdx? (fun w => !(decide (1≤w) && decide (w≤20))) with | some i => (i:Int) | none => -1)→(W m e3 e4).run 93 [rwS (l.map eIn),.fn 47 []] []=some (i64 r,[]):=by
   intro r hr
   refine run_wp (by rw [W_T]; exact rfl) ?_
   simp -dsimp -implicitDefEqProofs (maxSteps:=1000000) (disch:=omega) [ST,rwS]
   refine wp_inv (S62 l) (fun i => i≤l.length∧∀ k < i,∀ w,l[k]? = some w→(decide (1≤w) && decide (w≤20))=true) (fun i => l.length - i) 0 ⟨by simp,by simp⟩ (by simp -dsimp -implicitDefEqProofs (maxSteps:=1000000) (disch:=omega) [ST,S62,rwS]) ?_
   rintro i ⟨hi,hp⟩
   by_cases h:i < l.length
   ·obtain ⟨x,hx⟩ : ∃ x,l[i]=x:=⟨_,rfl⟩
    have hx2:l[i]? = some x:=by rw [List.getElem?_eq_getElem h,hx]
    have hw:=run_wide (m:=m) (e3:=e3) (e4:=e4) x
    cases hb:(decide (1≤x) && decide (x≤20))
    ·have hf:l.findIdx? (fun w => !(decide (1≤w) && decide (w≤20)))=some i:=by
      rw [List.findIdx?_eq_some_iff_getElem]
      refine ⟨h,by rw [hx,hb]; rfl,fun j hj => ?_⟩
      have:=hp j hj l[j] (List.getElem?_eq_getElem (by omega))
      rw [this]; simp
     rw [hf] at hr
     simp only at hr
     subst hr
     rw [hb] at hw
     simp -dsimp -implicitDefEqProofs (maxSteps:=1000000) (disch:=omega) [ST,S62,rwS,h,hx,eIn,hw]
    ·rw [hb] at hw
     simp -dsimp -implicitDefEqProofs (maxSteps:=1000000) (disch:=omega) [ST,S62,rwS,h,hx,eIn,hw]
     refine again (i + 1) ⟨by omega,?_⟩ (by omega) (by simp -dsimp -implicitDefEqProofs (maxSteps:=1000000) (disch:=omega) [ST,S62,rwS,eIn])
     intro k hk w hkw
     by_cases hki:k=i
     ·subst hki; rw [hx2] at hkw; injection hkw with e; subst e; exact hb
     ·exact hp k (by omega) w hkw
   ·have hf:l.findIdx? (fun w => !(decide (1≤w) && decide (w≤20)))=none:=by
     rw [List.findIdx?_eq_none_iff]
     intro x hx
     obtain ⟨k,hk,e⟩:=List.getElem_of_mem hx
     rw [hp k (by omega) x (by rw [List.getElem?_eq_getElem hk,e])]; rfl
    rw [hf] at hr
    simp only at hr
    subst hr
    simp -dsimp -implicitDefEqProofs (maxSteps:=1000000) (disch:=omega) [ST,S62,rwS,h]
  refine ⟨_,main _ rfl,?_⟩
  cases hf:l.findIdx? (fun w => !(decide (1≤w) && decide (w≤20))) with
  | some i =>
   have hi:=(List.findIdx?_eq_some_iff_getElem.1 hf)
   obtain ⟨hlt,h1,-⟩:=hi
   have:widB l=false:=by
    unfold widB
    rw [List.all_eq_false]
    exact ⟨l[i],List.getElem_mem hlt,by simp at h1 ⊢; omega⟩
   simp [this]
  | none =>
   have:widB l=true:=by
    unfold widB
    rw [List.all_eq_true]
    intro x hx
    have:=List.findIdx?_eq_none_iff.1 hf x hx
    simpa using this
   simp [this]
 obtain ⟨n,h1,h2⟩:=h62
 simp only [rwS] at h1 ⊢
 refine run_wp (by rw [W_T]; exact rfl) ?_
 cases hb:widB l <;> rw [hb] at h2
 ·have:0≤n:=by simpa using h2
  simp -dsimp -implicitDefEqProofs (maxSteps:=1000000) (disch:=omega) [ST,h1,this]
 ·have : ¬ 0≤n:=by simpa using h2
  simp -dsimp -implicitDefEqProofs (maxSteps:=1000000) (disch:=omega) [ST,h1,this]
def S64 (l:List (List UInt8)) (i:Nat):St:={ sl:=[(0,rwS (l.map eTx)),(1,.fn 52 []),(7,i64 l.length),(8,i64 i)],hp:=[],nx:=0 }
theorem run_contTexts (l:List (List UInt8)) (hl:l.length≤1000000000000) (hT : ∀ t∈l,t.length≤1000000000000):(W m e3 e4).run 51 [rwS (l.map eTx),.fn 52 []] []=some (bo (!macB l),[]):=by
 have h64 : ∃ n : Int, (W m e3 e4).run 95 [rwS (l.map eTx), .fn 52 []] [] = some (i64 n, []) ∧ (decide (0 ≤ n) = !macB l) := by
  have main : ∀ r:Int,r=(match l.findIdx? (fun w => !(decide (¬ (10:UInt8)∈w))) with | some i => (i:Int) | none => -1)→(W m e3 e4).run 95 [rwS (l.map eTx),.fn 52 []] []=some (i64 r,[]):=by
   intro r hr
   refine run_wp (by rw [W_T]; exact rfl) ?_
   simp -dsimp -implicitDefEqProofs (maxSteps:=1000000) (disch:=omega) [ST,rwS]
   refine wp_inv (S64 l) (fun i => i≤l.length∧∀ k < i,∀ w,l[k]? = some w→(decide (¬ (10:UInt8)∈w))=true) (fun i => l.length - i) 0 ⟨by simp,by simp⟩ (by simp -dsimp -implicitDefEqProofs (maxSteps:=1000000) (disch:=omega) [ST,S64,rwS]) ?_
   rintro i ⟨hi,hp⟩
   by_cases h:i < l.length
   ·obtain ⟨x,hx⟩ : ∃ x,l[i]=x:=⟨_,rfl⟩
    have hx2:l[i]? = some x:=by rw [List.getElem?_eq_getElem h,hx]
    have hw:(W m e3 e4).run 52 [bs x] []=some (bo (!(decide (¬ (10:UInt8)∈x))),[]):=by
     rw [run_lined x (hT x (List.mem_of_getElem? hx2))]; by_cases h10:(10:UInt8)∈x <;> simp [h10]
    cases hb:(decide (¬ (10:UInt8)∈x))
    ·have hf:l.findIdx? (fun w => !(decide (¬ (10:UInt8)∈w)))=some i:=by
      rw [List.findIdx?_eq_some_iff_getElem]
      refine ⟨h,by rw [hx,hb]; rfl,fun j hj => ?_⟩
      have:=hp j hj l[j] (List.getElem?_eq_getElem (by omega))
      rw [this]; simp
     rw [hf] at hr
     simp only at hr
     subst hr
     rw [hb] at hw
     simp -dsimp -implicitDefEqProofs (maxSteps:=1000000) (disch:=omega) [ST,S64,rwS,h,hx,eTx,hw]
    ·rw [hb] at hw
     simp -dsimp -implicitDefEqProofs (maxSteps:=1000000) (disch:=omega) [ST,S64,rwS,h,hx,eTx,hw]
     refine again (i + 1) ⟨by omega,?_⟩ (by omega) (by simp -dsimp -implicitDefEqProofs (maxSteps:=1000000) (disch:=omega) [ST,S64,rwS,eTx])
     intro k hk w hkw
     by_cases hki:k=i
     ·subst hki; rw [hx2] at hkw; injection hkw with e; subst e; exact hb
     ·exact hp k (by omega) w hkw
   ·have hf:l.findIdx? (fun w => !(decide (¬ (10:UInt8)∈w)))=none:=by
     rw [List.findIdx?_eq_none_iff]
     intro x hx
     obtain ⟨k,hk,e⟩:=List.getElem_of_mem hx
     rw [hp k (by omega) x (by rw [List.getElem?_eq_getElem hk,e])]; rfl
    rw [hf] at hr
    simp only at hr
    subst hr
    simp -dsimp -implicitDefEqProofs (maxSteps:=1000000) (disch:=omega) [ST,S64,rwS,h]
  refine ⟨_,main _ rfl,?_⟩
  cases hf:l.findIdx? (fun w => !(decide (¬ (10:UInt8)∈w))) with
  | some i =>
   have hi:=(List.findIdx?_eq_some_iff_getElem.1 hf)
   obtain ⟨hlt,h1,-⟩:=hi
   have:macB l=false:=by
    unfold macB
    rw [List.all_eq_false]
    exact ⟨l[i],List.getElem_mem hlt,by simpa using h1⟩
   simp [this]
  | none =>
   have:macB l=true:=by
    unfold macB
    rw [List.all_eq_true]
    intro x hx
    have:=List.findIdx?_eq_none_iff.1 hf x hx
    simpa using this
   simp [this]
 obtain ⟨n,h1,h2⟩:=h64
 simp only [rwS] at h1 ⊢
 refine run_wp (by rw [W_T]; exact rfl) ?_
 cases hb:macB l <;> rw [hb] at h2
 ·have:0≤n:=by simpa using h2
  simp -dsimp -implicitDefEqProofs (maxSteps:=1000000) (disch:=omega) [ST,h1,this]
 ·have : ¬ 0≤n:=by simpa using h2
  simp -dsimp -implicitDefEqProofs (maxSteps:=1000000) (disch:=omega) [ST,h1,this]
end Go.Vai
namespace Go.Vai
variable {m:Int} {e3 e4:Value}
theorem plB_iff {r c:Int} (h:plB r c=true):(1≤r∧r≤99)∧1≤c∧c≤26:=by
 unfold plB at h
 simpa using h
theorem order_bef (a b c d:Int) (h1:plB a b=true) (h2:plB c d=true):(0≤if a=c then b - d else a - c)↔befB a b c d=false:=by
 unfold befB
 split
 ·rename_i h; subst h; simp
 ·rename_i h; simp [h]
def S10 (w:List Int) (mc:List (List UInt8)) (a:List Cel × List Cel):St:={ sl:=[(1,.bp 0 0),(15,rwS ((a.1 ++ a.2).map eCel)),(16,i64 (a.1 ++ a.2).length),(17,i64 a.1.length)],hp:=[(0,some (.box [rwS ((a.1 ++ a.2).map eCel),rwS (w.map eIn),rwS (mc.map eTx)]))],nx:=1 }
theorem run_right (s : Sh) (hs : szSh s ≤ 1000000000000) (hT : ∀ c ∈ s.cells, c.2.2.length ≤ 1000000000000) (hM : ∀ t ∈ s.mac, t.length ≤ 1000000000000) : (W m e3 e4).run 20 [shA s] [] = some (bo (rightB s), []) := by
 have hsz:szSh s=s.cells.length + s.wid.length + s.mac.length + sumT (s.cells.map (·.2.2)) + sumT s.mac:=rfl
 obtain ⟨sc,sw,sm⟩:=s
 simp only at hsz
 have hci:=run_contInts (m:=m) (e3:=e3) (e4:=e4) sw (by omega)
 have hct:=run_contTexts (m:=m) (e3:=e3) (e4:=e4) sm (by omega) hM
 unfold rightB
 simp only [shA_mk,rwS] at hsz hT hM hci hct ⊢
 refine run_wp (by rw [W_T]; exact rfl) ?_
 by_cases hw:sw.length=26
 ·cases hwb : widB sw
  ·rw [hwb] at hci
   simp -dsimp -implicitDefEqProofs (maxSteps:=1000000) (disch:=omega) [ST,hw,hci,hwb]
  ·rw [hwb] at hci
   simp -dsimp -implicitDefEqProofs (maxSteps:=1000000) (disch:=omega) [ST,hw,hci,hwb]
   refine wp_inv (S10 sw sm) (fun a => a.1 ++ a.2=sc∧okFrom none sc=okFrom a.1.getLast? a.2∧∀ q,a.1.getLast? = some q→plB q.1 q.2.1=true) (fun a => a.2.length) ([],sc) ⟨by simp,by simp,by simp⟩ (by simp -dsimp -implicitDefEqProofs (maxSteps:=1000000) (disch:=omega) [ST,S10,rwS]) ?_
   rintro ⟨pre,rest⟩ ⟨g1,g2,g3⟩
   simp only at g1 g2 g3
   rw [g2]
   cases rest with
   | nil =>
    cases hmb:macB sm <;> rw [hmb] at hct <;> simp -dsimp -implicitDefEqProofs (maxSteps:=1000000) (disch:=omega) [ST,S10,rwS,okFrom,hct,hmb]
    all_goals simp [okFrom]
   | cons c rest =>
    subst g1
    obtain ⟨a,b,t⟩:=c
    have hpl:=run_isPlace (m:=m) (e3:=e3) (e4:=e4) a b
    have hpn:=run_lineless (m:=m) (e3:=e3) (e4:=e4) t (hT (a,b,t) (by simp))
    rcases List.eq_nil_or_concat pre with rfl | ⟨pre',q,rfl⟩
    ·cases k1:plB a b
     ·simp -dsimp -implicitDefEqProofs (maxSteps:=1000000) (disch:=omega) [ST,S10,rwS,eCel,hpl,k1,okFrom]
     ·by_cases k2:t=[]
      ·subst k2
       simp -dsimp -implicitDefEqProofs (maxSteps:=1000000) (disch:=omega) [ST,S10,rwS,eCel,hpl,k1,okFrom]
      ·by_cases k3:(10:UInt8)∈t
       ·simp -dsimp -implicitDefEqProofs (maxSteps:=1000000) (disch:=omega) [ST,S10,rwS,eCel,hpl,k1,k2,hpn,k3,okFrom]
       ·rw [← g2]
        simp -dsimp -implicitDefEqProofs (maxSteps:=1000000) (disch:=omega) [ST,S10,rwS,eCel,hpl,k1,k2,hpn,k3]
        refine again ([(a,b,t)],rest) ⟨by simp,by rw [g2]; simp [okFrom,k1,k2,k3],by simp [k1]⟩ (by simp) (by simp -dsimp -implicitDefEqProofs (maxSteps:=1000000) (disch:=omega) [ST,S10,rwS,eCel])
    ·obtain ⟨qa,qb,qt⟩:=q
     have kq:plB qa qb=true:=by simpa using g3 (qa,qb,qt)
     have hl0:pre'.length≤1000000000000:=by have hs':=hs; rw [hsz] at hs'; simp at hs'; omega
     have hq1 : ∀ r:List (List FV),(pre'.map eCel ++ eCel (qa,qb,qt) :: r)[pre'.length]? = some (eCel (qa,qb,qt)):=fun r => by rw [List.getElem?_append_right (by simp)]; simp
     have hq2 : ∀ (x:List FV) (r:List (List FV)),(pre'.map eCel ++ x :: eCel (a,b,t) :: r)[pre'.length + 1]? = some (eCel (a,b,t)):=fun x r => by rw [List.getElem?_append_right (by simp)]; simp
     simp only [eCel] at hq1 hq2
     cases k1:plB a b
     ·simp -dsimp -implicitDefEqProofs (maxSteps:=1000000) (disch:=omega) [ST,S10,rwS,eCel,hpl,k1,okFrom,hq1,hq2,wrap_i64]
     ·by_cases k2:t=[]
      ·subst k2
       simp -dsimp -implicitDefEqProofs (maxSteps:=1000000) (disch:=omega) [ST,S10,rwS,eCel,hpl,k1,okFrom,hq1,hq2,wrap_i64]
      ·by_cases k3:(10:UInt8)∈t
       ·simp -dsimp -implicitDefEqProofs (maxSteps:=1000000) (disch:=omega) [ST,S10,rwS,eCel,hpl,k1,k2,hpn,k3,okFrom,hq1,hq2,wrap_i64]
       ·have hor:=run_order (m:=m) (e3:=e3) (e4:=e4) qa qb a b (plB_iff kq).1 (plB_iff kq).2 (plB_iff k1).1 (plB_iff k1).2
        have hob:=order_bef qa qb a b kq k1
        generalize (if qa=a then qb - b else qa - a)=z at hor hob
        cases k4:befB qa qb a b
        ·have hz:0≤z:=hob.2 k4
         simp -dsimp -implicitDefEqProofs (maxSteps:=1000000) (disch:=omega) [ST,S10,rwS,eCel,hpl,k1,k2,hpn,k3,okFrom,hq1,hq2,wrap_i64,hor,hz,k4]
        ·have hz : ¬ 0≤z:=fun h => by rw [hob.1 h] at k4; cases k4
         rw [← g2]
         simp -dsimp -implicitDefEqProofs (maxSteps:=1000000) (disch:=omega) [ST,S10,rwS,eCel,hpl,k1,k2,hpn,k3,hq1,hq2,wrap_i64,hor,hz,k4]
         refine again (pre' ++ [(qa,qb,qt)] ++ [(a,b,t)],rest) ⟨by simp,by rw [g2]; simp [okFrom,k1,k2,k3,k4],by simp [k1]⟩ (by simp) (by simp -dsimp -implicitDefEqProofs (maxSteps:=1000000) (disch:=omega) [ST,S10,rwS,eCel]; omega)
 ·simp -dsimp -implicitDefEqProofs (maxSteps:=1000000) (disch:=omega) [ST,hw]
end Go.Vai
