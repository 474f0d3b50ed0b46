/-
  What functions of layer 9 and of its reference compute: equations of the abstract run, and plain laws of them.
-/
import Derived.Lib.IndexLaws
import Derived.Test.YtljbbcpahapmnaaGreatDoorCN1
import Derived.Test.YtljbbcpahapmnaaGreatDoorCL5
set_option linter.unusedVariables false
set_option linter.unusedSimpArgs false
set_option linter.unnecessarySimpa false
set_option linter.unusedSectionVars false
namespace Go.Vai
variable {m:Int} {e3 e4:Value}
end Go.Vai
namespace Go.Vai
variable {m:Int} {e3 e4:Value}
theorem rightB_wid {s:Sh} (h:rightB s=true):s.wid.length=26∧∀ w∈s.wid,1≤w∧w≤20:=by
 unfold rightB widB at h
 simp only [Bool.and_eq_true,decide_eq_true_eq,List.all_eq_true] at h
 exact ⟨h.1,fun w hw => h.2.1 w hw⟩
end Go.Vai
namespace Go.Vai
def celLs (a b:Cel):Bool:=decide (a.1 < b.1) || (decide (a.1=b.1) && decide (a.2.1 < b.2.1))
def celEq (a b:Cel):Bool:=decide (a.1=b.1) && decide (a.2.1=b.2.1)
def srtC (l:List Cel):Prop:=l.Pairwise fun a b => celLs a b=true
theorem celLs_iff {a b:Cel}:celLs a b=true↔a.1 < b.1∨(a.1=b.1∧a.2.1 < b.2.1):=by simp [celLs]
theorem celEq_iff {a b:Cel}:celEq a b=true↔a.1=b.1∧a.2.1=b.2.1:=by simp [celEq]
def nodC (l:List Cel):Prop:=l.Pairwise fun a b => celEq a b=false
theorem celEq_comm (a b:Cel):celEq a b=celEq b a:=by
 rw [Bool.eq_iff_iff,celEq_iff,celEq_iff]
 constructor <;> (rintro ⟨h1,h2⟩; exact ⟨h1.symm,h2.symm⟩)
theorem nod_filter {p:Cel→Bool} {l:List Cel} (h:nodC l):nodC (l.filter p):=List.Pairwise.filter p h
theorem nod_snoc {c:Cel} {l:List Cel} (h:nodC l) (hc : ∀ d∈l,celEq d c=false):nodC (l ++ [c]):=by
 unfold nodC at *
 rw [List.pairwise_append]
 refine ⟨h,by simp,fun a ha b hb => ?_⟩
 simp at hb
 subst hb
 exact hc a ha
def tabC (l:List Cel) (c:Cel):List Cel:=if c.2.2=[] then l.filter (fun d => !celEq d c) else l.filter (fun d => !celEq d c) ++ [c]
theorem nod_tab {l:List Cel} (h:nodC l) (c:Cel):nodC (tabC l c):=by
 unfold tabC
 split
 ·exact nod_filter h
 ·exact nod_snoc (nod_filter h) fun d hd => by simpa using (List.mem_filter.1 hd).2
end Go.Vai
namespace Go.Vai
variable {m:Int} {e3 e4:Value}
def cpxR (l p:List UInt8):AV:=if p.isPrefixOf l=true then .tup [bs (l.drop p.length),bo true] else .tup [bs l,bo false]
theorem run_cutPrefix (l p:List UInt8) (hl:l.length≤1000000000000) (hp:p.length≤1000000000000):(W m e3 e4).run 55 [bs l,bs p] []=some (cpxR l p,[]):=by
 have h:=run_hasp (m:=m) (e3:=e3) (e4:=e4) l p hl hp
 unfold cpxR
 by_cases hc:p.isPrefixOf l=true
 ·rw [hc] at h
  have h1:p.length≤l.length:=(List.isPrefixOf_iff_prefix.1 hc).length_le
  have h0:(W m e3 e4).run 96 [bs l,bs p] []=some (.tup [bs (l.drop p.length),bo true],[]):=by
   refine run_wp (by rw [W_T]; exact rfl) ?_
   simp -dsimp -implicitDefEqProofs (maxSteps:=1000000) (disch:=omega) [ST,h,h1,List.take_of_length_le]
  rw [if_pos hc]
  refine run_wp (by rw [W_T]; exact rfl) ?_
  simp -dsimp -implicitDefEqProofs (maxSteps:=1000000) (disch:=omega) [ST,h0]
 ·rw [Bool.eq_false_iff.2 hc] at h
  have h0:(W m e3 e4).run 96 [bs l,bs p] []=some (.tup [bs l,bo false],[]):=by
   refine run_wp (by rw [W_T]; exact rfl) ?_
   simp -dsimp -implicitDefEqProofs (maxSteps:=1000000) (disch:=omega) [ST,h]
  rw [if_neg hc]
  refine run_wp (by rw [W_T]; exact rfl) ?_
  simp -dsimp -implicitDefEqProofs (maxSteps:=1000000) (disch:=omega) [ST,h0]
end Go.Vai
namespace Go.Vai
variable {m:Int} {e3 e4:Value}
def valC (c:Cel):Bool:=plB c.1 c.2.1 && (decide (¬ c.2.2=[]) && decide (¬ (10:UInt8)∈c.2.2))
def setE (L:List (Nat × Cel)) (c:Nat) (x:Cel):List (Nat × Cel):=if L.any (fun p => celEq p.2 x) then L.map (fun p => if celEq p.2 x then (p.1,x) else p) else L ++ [(c,x)]
def setN (L:List (Nat × Cel)) (c:Nat) (x:Cel):Nat:=if L.any (fun p => celEq p.2 x) then c else c + 1
def eEnt (p:Nat × Cel):Nat × Value × FV:=(p.1,.agg ⟨[.int .i64 p.2.1,.int .i64 p.2.2.1]⟩,.sc (.string (mkB p.2.2.2)))
theorem find_set (x:Cel) : ∀ (L:List (Nat × Cel)) (j c:Nat),nodC (L.map (·.2)) →
 (∃ i y,findM 3 (.agg ⟨[.int .i64 x.1,.int .i64 x.2.1]⟩) (L.map eEnt) j=some (some (j + i,y))∧L.any (fun p => celEq p.2 x)=true∧(L.map eEnt).modify i (fun p => (p.1,.agg ⟨[.int .i64 x.1,.int .i64 x.2.1]⟩,.sc (.string (mkB x.2.2))))=(L.map (fun p => if celEq p.2 x then (p.1,x) else p)).map eEnt) ∨
 (findM 3 (.agg ⟨[.int .i64 x.1,.int .i64 x.2.1]⟩) (L.map eEnt) j=some none∧L.any (fun p => celEq p.2 x)=false)
 | [],_,_,_ => .inr ⟨rfl,rfl⟩
 | p :: r, j, c, h => by
  unfold nodC at h
  rw [List.map_cons,List.pairwise_cons] at h
  by_cases h1:celEq p.2 x=true
  ·have h1':=celEq_iff.1 h1
   have h2:(decide (x.1=p.2.1) && decide (x.2.1=p.2.2.1))=true:=by
    simp only [Bool.and_eq_true,decide_eq_true_eq]; omega
   refine .inl ⟨0,.sc (.string (mkB p.2.2.2)),by simp only [List.map_cons,findM,eEnt,eqK,h2]; rfl,by simp [h1],?_⟩
   have hr:r.map (fun p => if celEq p.2 x then (p.1,x) else p)=r:=by
    rw [show r=r.map id by simp]
    rw [List.map_map]
    refine List.map_congr_left fun q hq => ?_
    have h3:=h.1 q.2 (List.mem_map.2 ⟨q,by simpa using hq,rfl⟩)
    rw [Bool.eq_false_iff,Ne,celEq_iff] at h3
    have : ¬ celEq q.2 x=true:=by rw [celEq_iff]; omega
    simp [this]
   rw [List.map_cons,List.map_cons,if_pos h1,hr]
   rfl
  ·have h2:(decide (x.1=p.2.1) && decide (x.2.1=p.2.2.1))=false:=by
    rw [celEq_iff] at h1
    rw [Bool.eq_false_iff,Ne]; simp only [Bool.and_eq_true,decide_eq_true_eq]; omega
   have h1f:celEq p.2 x=false:=Bool.eq_false_iff.2 h1
   rcases find_set x r (j + 1) c h.2 with ⟨i,y,g1,g2,g3⟩ | ⟨g1,g2⟩
   ·refine .inl ⟨i + 1,y,?_,by simp [g2],?_⟩
    ·simp only [List.map_cons,findM,eEnt,eqK,h2]
     rw [show j + (i + 1)=j + 1 + i by omega]
     exact g1
    ·rw [List.map_cons,List.map_cons,h1f,List.map_cons,← g3]
     simp
   ·refine .inr ⟨?_,by simp [h1f,g2]⟩
    simp only [List.map_cons,findM,eEnt,eqK,h2]
    exact g1
def widT (l:List Int):List Int:=(List.range 26).map fun i => match l[i]? with
 | some w => max 1 (min w 20)
 | none => 6
def setAll (l:List Cel):List (Nat × Cel) × Nat:=(l.filter valC).foldl (fun t x => (setE t.1 t.2 x,setN t.1 t.2 x)) ([],0)
def takenG (s:Sh):Sh:=⟨sortC ((setAll s.cells).1.map (·.2)),widT s.wid,s.mac.filter fun t => decide (¬ (10:UInt8)∈t)⟩
theorem set_cells (L:List (Nat × Cel)) (c:Nat) (x:Cel) (h:nodC (L.map (·.2))) (hx:x.2.2≠[]):((setE L c x).map (·.2)).Perm (tabC (L.map (·.2)) x)∧nodC ((setE L c x).map (·.2)):=by
 have key : ((setE L c x).map (·.2)).Perm (tabC (L.map (·.2)) x) := by
  unfold setE tabC
  rw [if_neg hx]
  split
  ·rename_i ha
   clear hx
   induction L with
   | nil => simp at ha
   | cons p r ih =>
    unfold nodC at h
    rw [List.map_cons,List.pairwise_cons] at h
    by_cases h1:celEq p.2 x=true
    ·have hr : ∀ q∈r,celEq q.2 x=false:=fun q hq => by
      have h3:=h.1 q.2 (List.mem_map.2 ⟨q,hq,rfl⟩)
      have h1':=celEq_iff.1 h1
      rw [Bool.eq_false_iff,Ne,celEq_iff] at h3
      rw [Bool.eq_false_iff,Ne,celEq_iff]
      omega
     have e1:(r.map fun p => if celEq p.2 x then (p.1,x) else p).map (·.2)=r.map (·.2):=by
      rw [List.map_map]
      refine List.map_congr_left fun q hq => ?_
      simp [hr q hq]
     have e2:(r.map (·.2)).filter (fun d => !celEq d x)=r.map (·.2):=List.filter_eq_self.2 fun d hd => by
      obtain ⟨q,hq,rfl⟩:=List.mem_map.1 hd
      simp [hr q hq]
     rw [List.map_cons,List.map_cons,List.map_cons,List.filter_cons_of_neg (by simp [h1]),if_pos h1,e1,e2]
     exact (List.perm_append_singleton x _).symm
    ·have h1f:celEq p.2 x=false:=Bool.eq_false_iff.2 h1
     have ha2:r.any (fun p => celEq p.2 x)=true:=by simpa [h1f] using ha
     rw [List.map_cons,List.map_cons,List.map_cons,List.filter_cons_of_pos (by simp [h1f]),h1f]
     exact (ih h.2 ha2).cons _
  ·rename_i ha
   have hr : ∀ q∈L,celEq q.2 x=false:=fun q hq => by
    have ha2:L.any (fun p => celEq p.2 x)=false:=Bool.eq_false_iff.2 ha
    exact List.any_eq_false.1 ha2 q hq |> Bool.eq_false_iff.2
   have e2:(L.map (·.2)).filter (fun d => !celEq d x)=L.map (·.2):=List.filter_eq_self.2 fun d hd => by
    obtain ⟨q,hq,rfl⟩:=List.mem_map.1 hd
    simp [hr q hq]
   rw [List.map_append,e2]
   try exact .refl _
 exact ⟨key,key.symm.pairwise (nod_tab h x) fun {a b} h => by rw [celEq_comm]; exact h⟩
theorem nodup_lt : ∀ (n:Nat) (L:List Nat),L.Nodup→(∀ x∈L,x < n)→L.length≤n
 | 0,L,_,h => by
  cases L with
  | nil => simp
  | cons a r => exact absurd (h a (by simp)) (by omega)
 | n + 1, L, hn, h => by
  by_cases hm:n∈L
  ·have h1:=nodup_lt n (L.erase n) (hn.erase n) fun x hx => by
    have h2:=(hn.mem_erase_iff).1 hx
    have:=h x h2.2
    omega
   rw [List.length_erase_of_mem hm] at h1
   omega
  ·have:=nodup_lt n L hn fun x hx => by
    have h2:=h x hx
    have:x≠n:=fun e => hm (e ▸ hx)
    omega
   omega
theorem cells_few {l:List Cel} (h:nodC l) (hp : ∀ c∈l,plB c.1 c.2.1=true):l.length≤2574:=by
 have h1:(l.map fun c => ((c.1 - 1) * 26 + (c.2.1 - 1)).toNat).Nodup:=by
  unfold nodC at h
  refine List.pairwise_map.2 (h.imp_of_mem fun {a b} ha hb hab e => ?_)
  have h1:=plB_iff (hp a ha)
  have h2:=plB_iff (hp b hb)
  rw [Bool.eq_false_iff,Ne,celEq_iff] at hab
  omega
 have h2:=nodup_lt 2574 _ h1 fun x hx => by
  obtain ⟨c,hc,rfl⟩:=List.mem_map.1 hx
  have:=plB_iff (hp c hc)
  omega
 simpa using h2
theorem cels_tab : ∀ L:List (Nat × Cel),celsOf (L.map eEnt)=some (L.map (·.2))
 | [] => rfl
 | p :: r => by
  simp only [List.map_cons,eEnt,celsOf]
  rw [cels_tab r]
  simp
theorem keys_ok : ∀ {l:List Cel},nodC l→(∀ c∈l,plB c.1 c.2.1=true)→keysOk l=true
 | [],_,_ => rfl
 | c :: r,h,hp => by
  unfold nodC at h
  rw [List.pairwise_cons] at h
  have h1:=plB_iff (hp c (by simp))
  have h2:=keys_ok h.2 fun d hd => hp d (by simp [hd])
  unfold keysOk
  simp only [Bool.and_eq_true,h2,and_true,decide_eq_true_eq]
  refine ⟨List.all_eq_true.2 fun d hd => ?_,by omega⟩
  have h3:=h.1 d hd
  rw [celEq_comm] at h3
  unfold celEq at h3
  rw [h3]; rfl
theorem born_snoc (x:Cel) : ∀ (L:List (Nat × Cel)) (lo c:Nat),lo≤c→bornOk (L.map eEnt) lo c=true→bornOk ((L ++ [(c,x)]).map eEnt) lo (c + 1)=true
 | [],lo,c,hc,_ => by simp [bornOk,eEnt,hc]
 | p :: r,lo,c,hc,h => by
  rw [List.map_cons] at h
  unfold bornOk at h
  simp only [Bool.and_eq_true,decide_eq_true_eq] at h
  have h1:=born_snoc x r _ c (by omega) h.2
  rw [List.cons_append,List.map_cons]
  unfold bornOk
  simp only [Bool.and_eq_true,decide_eq_true_eq]
  exact ⟨⟨h.1.1,by omega⟩,h1⟩
theorem born_rep (x:Cel) : ∀ (L:List (Nat × Cel)) (lo c:Nat),bornOk (L.map eEnt) lo c=true→bornOk ((L.map fun p => if celEq p.2 x then (p.1,x) else p).map eEnt) lo c=true
 | [],_,_,_ => rfl
 | p :: r,lo,c,h => by
  rw [List.map_cons] at h
  unfold bornOk at h
  simp only [Bool.and_eq_true,decide_eq_true_eq] at h
  have h1:=born_rep x r _ c h.2
  rw [List.map_cons,List.map_cons]
  unfold bornOk
  simp only [Bool.and_eq_true,decide_eq_true_eq]
  split
  ·exact ⟨h.1,h1⟩
  ·exact ⟨h.1,h1⟩
def tbOk (t:List (Nat × Cel) × Nat):Prop:=nodC (t.1.map (·.2))∧bornOk (t.1.map eEnt) 0 t.2=true∧∀ p∈t.1,valC p.2=true
theorem valC_iff {c:Cel}:valC c=true↔plB c.1 c.2.1=true∧c.2.2≠[]∧¬ (10:UInt8)∈c.2.2:=by
 unfold valC
 simp only [Bool.and_eq_true,decide_eq_true_eq]
 try exact ⟨fun h => ⟨h.1,h.2.1,h.2.2⟩,fun h => ⟨h.1,h.2.1,h.2.2⟩⟩
theorem tb_step {t:List (Nat × Cel) × Nat} (h:tbOk t) {x:Cel} (hx:valC x=true):tbOk (setE t.1 t.2 x,setN t.1 t.2 x):=by
 obtain ⟨h1,h2,h3⟩:=h
 refine ⟨(set_cells t.1 t.2 x h1 (valC_iff.1 hx).2.1).2,?_,fun p hp => ?_⟩
 ·unfold setE setN
  simp only
  split
  ·exact born_rep x _ _ _ h2
  ·exact born_snoc x _ _ _ (Nat.zero_le _) h2
 ·unfold setE at hp
  simp only at hp
  split at hp
  ·obtain ⟨q,hq,rfl⟩:=List.mem_map.1 hp
   split
   ·exact hx
   ·exact h3 q hq
  ·rcases List.mem_append.1 hp with hp | hp
   ·exact h3 p hp
   ·simp at hp; subst hp; exact hx
theorem tb_all (l:List Cel):tbOk (setAll l):=by
 unfold setAll
 have key : ∀ (l:List Cel) (t:List (Nat × Cel) × Nat),(∀ x∈l,valC x=true)→tbOk t→tbOk (l.foldl (fun t x => (setE t.1 t.2 x,setN t.1 t.2 x)) t):=by
  intro l
  induction l with
  | nil => exact fun t _ h => h
  | cons x r ih => exact fun t hl h => ih _ (fun y hy => hl y (by simp [hy])) (tb_step h (hl x (by simp)))
 exact key _ _ (fun x hx => (List.mem_filter.1 hx).2) ⟨List.Pairwise.nil,rfl,fun p hp => by cases hp⟩
theorem run_tabCells (L:List (Nat × Cel)) (c:Nat) (h1:nodC (L.map (·.2))) (h2:bornOk (L.map eEnt) 0 c=true) (h3 : ∀ p∈L,plB p.2.1 p.2.2.1=true):(W m e3 e4).run 60 [.mp 0] [some (.map (L.map eEnt) c)]=some (.osl 1 3 0 (sortC (L.map (·.2))).length,[some (.map (L.map eEnt) c),some (.arr 3 ((sortC (L.map (·.2))).map eCel))]):=by
 have h4 : ∀ d∈L.map (·.2),plB d.1 d.2.1=true:=by
  intro d hd
  obtain ⟨p,hp,rfl⟩:=List.mem_map.1 hd
  exact h3 p hp
 have h5:=cells_few h1 h4
 refine run_E rfl ?_
 simp only [Ez,cels_tab,Option.bind_some]
 have hsl : ∀ l:List Cel,(sortC l).length=l.length:=by
  have key : ∀ (c:Cel) (l:List Cel),(insC c l).length=l.length + 1:=by
   intro c l
   induction l with
   | nil => rfl
   | cons d l ih => rw [insC]; split <;> simp [ih]
  intro l
  induction l with
  | nil => rfl
  | cons a r ih => rw [sortC,key,ih]; rfl
 rw [if_pos ⟨keys_ok h1 h4,h2,by omega⟩,hsl]
def S28a (s:Sh) (D:List Int):St:={ sl:=[(1,.bp 0 0),(2,.bp 1 0),(3,.bp 2 0),(11,i64 D.length)],hp:=[(0,some (.box [rwS (s.cells.map eCel),rwS (s.wid.map eIn),rwS (s.mac.map eTx)])),(1,some (.box [.emp,.emp,.emp])),(2,some (.box [.emp,.osl 3 1 0 D.length,.osl 4 1 0 0])),(3,some (.arr 1 (D.map eIn))),(4,some (.arr 1 []))],nx:=5 }
def S28b (s:Sh) (D:List Int) (a:Nat × List (Nat × Cel) × Nat):St:={ sl:=[(1,.bp 0 0),(2,.bp 1 0),(3,.bp 2 0),(6,.mp 5),(35,rwS (s.cells.map eCel)),(36,i64 s.cells.length),(37,i64 a.1)],hp:=[(0,some (.box [rwS (s.cells.map eCel),rwS (s.wid.map eIn),rwS (s.mac.map eTx)])),(1,some (.box [.emp,.emp,.emp])),(2,some (.box [.emp,.osl 3 1 0 D.length,.osl 4 1 0 0])),(3,some (.arr 1 (D.map eIn))),(4,some (.arr 1 [])),(5,some (.map (a.2.1.map eEnt) a.2.2))],nx:=6 }
def S28c (s:Sh) (C:List Cel) (D:List Int) (a:Nat × List (List UInt8)):St:={ sl:=[(2,.bp 0 0),(3,.bp 1 0),(64,rwS (s.mac.map eTx)),(65,i64 s.mac.length),(66,i64 a.1)],hp:=[(0,some (.box [.emp,.emp,.emp])),(1,some (.box [.osl 2 3 0 C.length,.osl 3 1 0 D.length,.osl 4 1 0 a.2.length])),(2,some (.arr 3 (C.map eCel))),(3,some (.arr 1 (D.map eIn))),(4,some (.arr 1 (a.2.map eTx)))],nx:=5 }
theorem widT_len (l:List Int):(widT l).length=26:=by simp [widT]
theorem widT_get (l:List Int) (i:Nat) (h:i < 26):(widT l)[i]? = some (match l[i]? with
 | some w => max 1 (min w 20)
 | none => 6):=by
 unfold widT
 rw [List.getElem?_map,List.getElem?_range h]
 rfl
def shO (s:Sh):AV:=.agg [.osl 0 3 0 s.cells.length,.osl 1 1 0 s.wid.length,.osl 2 1 0 s.mac.length]
def shOB (s:Sh):List (Option Blk):=[some (.arr 3 (s.cells.map eCel)),some (.arr 1 (s.wid.map eIn)),some (.arr 1 (s.mac.map eTx))]
set_option maxHeartbeats 2000000 in
theorem run_taken (s:Sh) (hs:szSh s≤1000000) (hT : ∀ c∈s.cells,c.2.2.length≤1000000) (hM : ∀ t∈s.mac,t.length≤1000000):(W m e3 e4).run 28 [shA s] []=some (shO (takenG s),shOB (takenG s)):=by
 have hsz:szSh s=s.cells.length + s.wid.length + s.mac.length + sumT (s.cells.map (·.2.2)) + sumT s.mac:=rfl
 have htb:=tb_all s.cells
 unfold takenG
 simp only [shA_mk,rwS,shO,shOB]
 refine run_wp (by rw [W_T]; exact rfl) ?_
 simp -dsimp -implicitDefEqProofs (maxSteps:=1000000) (disch:=omega) [ST]
 refine wp_inv (S28a s) (fun D => D.length≤26∧D=(widT s.wid).take D.length) (fun D => 26 - D.length) [] ⟨by simp,by simp⟩ (by simp -dsimp -implicitDefEqProofs (maxSteps:=1000000) (disch:=omega) [ST,S28a,rwS]) ?_
 rintro D ⟨hi,hD⟩
 by_cases h:D.length < 26
 ·have hg:=widT_get s.wid D.length h
  have htk:(widT s.wid).take (D.length + 1)=D ++ [match s.wid[D.length]? with
   | some w => max 1 (min w 20)
   | none => 6]:=by rw [List.take_add_one,hg,← hD]; rfl
  by_cases hw:D.length < s.wid.length
  ·obtain ⟨x,hx⟩ : ∃ x,s.wid[D.length]=x:=⟨_,rfl⟩
   have hx2:s.wid[D.length]? = some x:=by rw [List.getElem?_eq_getElem hw,hx]
   rw [hx2] at htk
   simp only at htk
   simp -dsimp -implicitDefEqProofs (maxSteps:=1000000) (disch:=omega) [ST,S28a,rwS,h,hw,hx,eIn]
   refine again (D ++ [max 1 (min x 20)]) ⟨by simp; omega,by simp only [List.length_append,List.length_cons,List.length_nil]; rw [htk]⟩ (by simp; omega) (by simp -dsimp -implicitDefEqProofs (maxSteps:=1000000) (disch:=omega) [ST,S28a,rwS,eIn])
  ·rw [List.getElem?_eq_none (by omega)] at htk
   simp only at htk
   simp -dsimp -implicitDefEqProofs (maxSteps:=1000000) (disch:=omega) [ST,S28a,rwS,h,hw,eIn]
   refine again (D ++ [6]) ⟨by simp; omega,by simp only [List.length_append,List.length_cons,List.length_nil]; rw [htk]⟩ (by simp; omega) (by simp -dsimp -implicitDefEqProofs (maxSteps:=1000000) (disch:=omega) [ST,S28a,rwS,eIn])
 ·have hD26 : D.length = 26 := by omega
  rw [hD26,List.take_of_length_le (by rw [widT_len]; exact Nat.le_refl _)] at hD
  rw [← hD]
  clear hD hi h
  have htd:(D.map eIn).take 26=D.map eIn:=List.take_of_length_le (by simp [hD26])
  simp -dsimp -implicitDefEqProofs (maxSteps:=1000000) (disch:=omega) [ST,S28a,rwS,hD26]
  refine wp_inv (S28b s D) (fun a => a.1≤s.cells.length∧(a.2.1,a.2.2)=setAll (s.cells.take a.1)) (fun a => s.cells.length - a.1) (0,[],0) ⟨by simp,rfl⟩ (by simp -dsimp -implicitDefEqProofs (maxSteps:=1000000) (disch:=omega) [ST,S28b,rwS,hD26,htd]) ?_
  rintro ⟨i,L,c⟩ ⟨g1,g2⟩
  simp only at g1 g2
  by_cases h:i < s.cells.length
  ·obtain ⟨x,hx⟩ : ∃ x,s.cells[i]=x:=⟨_,rfl⟩
   have hx2:s.cells[i]? = some x:=by rw [List.getElem?_eq_getElem h,hx]
   have htl:=hT x (List.mem_of_getElem? hx2)
   have hb:=tb_all (s.cells.take i)
   rw [← g2] at hb
   have hsa:setAll (s.cells.take (i + 1))=if valC x=true then (setE L c x,setN L c x) else (L,c):=by
    unfold setAll at g2 ⊢
    rw [List.take_add_one,hx2,List.filter_append,List.foldl_append,← g2]
    simp only [Option.toList_some]
    cases hv:valC x
    ·rw [List.filter_cons_of_neg (by simp [hv])]; rfl
    ·rw [List.filter_cons_of_pos hv]; rfl
   obtain ⟨xa,xb,xt⟩:=x
   simp only at htl
   have hip:=run_isPlace (m:=m) (e3:=e3) (e4:=e4) xa xb
   have hll:=run_lineless (m:=m) (e3:=e3) (e4:=e4) xt (by omega)
   cases k1:plB xa xb
   ·have hv:valC (xa,xb,xt)=false:=by simp [valC,k1]
    rw [hv] at hsa
    simp -dsimp -implicitDefEqProofs (maxSteps:=1000000) (disch:=omega) [ST,S28b,rwS,h,hx,eCel,hip,k1]
    refine again (i + 1,L,c) ⟨by simp only; omega,by simp only; rw [hsa]; rfl⟩ (by simp only; omega) (by simp -dsimp -implicitDefEqProofs (maxSteps:=1000000) (disch:=omega) [ST,S28b,rwS,hD26])
   ·by_cases k2:xt=[]
    ·subst k2
     have hv:valC (xa,xb,[])=false:=by simp [valC]
     rw [hv] at hsa
     simp -dsimp -implicitDefEqProofs (maxSteps:=1000000) (disch:=omega) [ST,S28b,rwS,h,hx,eCel,hip,k1]
     refine again (i + 1,L,c) ⟨by simp only; omega,by simp only; rw [hsa]; rfl⟩ (by simp only; omega) (by simp -dsimp -implicitDefEqProofs (maxSteps:=1000000) (disch:=omega) [ST,S28b,rwS,hD26])
    ·by_cases k3:(10:UInt8)∈xt
     ·have hv:valC (xa,xb,xt)=false:=by simp [valC,k3]
      rw [hv] at hsa
      simp -dsimp -implicitDefEqProofs (maxSteps:=1000000) (disch:=omega) [ST,S28b,rwS,h,hx,eCel,hip,k1,k2,hll,k3]
      refine again (i + 1,L,c) ⟨by simp only; omega,by simp only; rw [hsa]; rfl⟩ (by simp only; omega) (by simp -dsimp -implicitDefEqProofs (maxSteps:=1000000) (disch:=omega) [ST,S28b,rwS,hD26])
     ·have hv:valC (xa,xb,xt)=true:=by simp [valC,k1,k2,k3]
      rw [hv,if_pos rfl] at hsa
      rcases find_set (xa,xb,xt) L 0 c hb.1 with ⟨j,y,f1,f2,f3⟩ | ⟨f1,f2⟩
      ·simp only [Nat.zero_add] at f1 f3
       have e1:setE L c (xa,xb,xt)=L.map (fun p => if celEq p.2 (xa,xb,xt) then (p.1,(xa,xb,xt)) else p):=by unfold setE; rw [f2]; rfl
       have e2:setN L c (xa,xb,xt)=c:=by unfold setN; rw [f2]; rfl
       rw [e1,e2] at hsa
       simp -dsimp -implicitDefEqProofs (maxSteps:=1000000) (disch:=omega) [ST,S28b,rwS,h,hx,eCel,hip,k1,k2,hll,k3,f1]
       refine again (i + 1,L.map (fun p => if celEq p.2 (xa,xb,xt) then (p.1,(xa,xb,xt)) else p),c) ⟨by simp only; omega,by simp only; rw [hsa]⟩ (by simp only; omega) ?_
       rw [S28b,← f3]
       simp -dsimp -implicitDefEqProofs (maxSteps:=1000000) (disch:=omega) [ST,rwS,hD26]
      ·have e1:setE L c (xa,xb,xt)=L ++ [(c,(xa,xb,xt))]:=by unfold setE; rw [f2]; rfl
       have e2:setN L c (xa,xb,xt)=c + 1:=by unfold setN; rw [f2]; rfl
       rw [e1,e2] at hsa
       simp -dsimp -implicitDefEqProofs (maxSteps:=1000000) (disch:=omega) [ST,S28b,rwS,h,hx,eCel,hip,k1,k2,hll,k3,f1]
       refine again (i + 1,L ++ [(c,(xa,xb,xt))],c + 1) ⟨by simp only; omega,by simp only; rw [hsa]⟩ (by simp only; omega) (by simp -dsimp -implicitDefEqProofs (maxSteps:=1000000) (disch:=omega) [ST,S28b,rwS,hD26,eEnt])
  ·obtain rfl:i=s.cells.length:=by omega
   rw [List.take_length] at g2
   rw [← g2] at htb ⊢
   obtain ⟨h1,h2,h3⟩:=htb
   simp only at h1 h2 h3 ⊢
   have htc:=run_tabCells (m:=m) (e3:=e3) (e4:=e4) L c h1 h2 fun p hp => (valC_iff.1 (h3 p hp)).1
   generalize sortC (L.map (·.2))=C at *
   simp -dsimp -implicitDefEqProofs (maxSteps:=1000000) (disch:=omega) [ST,S28b,rwS,hD26,htc]
   refine wp_inv (S28c s C D) (fun a => a.1≤s.mac.length∧a.2=(s.mac.take a.1).filter fun t => decide (¬ (10:UInt8)∈t)) (fun a => s.mac.length - a.1) (0,[]) ⟨by simp,by simp⟩ (by simp -dsimp -implicitDefEqProofs (maxSteps:=1000000) (disch:=omega) [ST,S28c,rwS,hD26,htd]) ?_
   rintro ⟨i,M⟩ ⟨q1,q2⟩
   simp only at q1 q2
   by_cases h:i < s.mac.length
   ·obtain ⟨x,hx⟩ : ∃ x,s.mac[i]=x:=⟨_,rfl⟩
    have hx2:s.mac[i]? = some x:=by rw [List.getElem?_eq_getElem h,hx]
    have htl:=hM x (List.mem_of_getElem? hx2)
    have hll:=run_lineless (m:=m) (e3:=e3) (e4:=e4) x (by omega)
    have hml:M.length≤1000000:=by
     rw [q2]
     have:=List.length_filter_le (fun t => decide (¬ (10:UInt8)∈t)) (s.mac.take i)
     rw [List.length_take] at this
     omega
    by_cases k3:(10:UInt8)∈x
    ·simp -dsimp -implicitDefEqProofs (maxSteps:=1000000) (disch:=omega) [ST,S28c,rwS,h,hx,eTx,hll,k3]
     refine again (i + 1,M) ⟨by simp only; omega,by simp only; rw [q2,List.take_add_one,hx2]; simp [k3]⟩ (by simp only; omega) (by simp -dsimp -implicitDefEqProofs (maxSteps:=1000000) (disch:=omega) [ST,S28c,rwS,hD26,htd])
    ·simp -dsimp -implicitDefEqProofs (maxSteps:=1000000) (disch:=omega) [ST,S28c,rwS,h,hx,eTx,hll,k3]
     refine again (i + 1,M ++ [x]) ⟨by simp only; omega,by simp only; rw [q2,List.take_add_one,hx2]; simp [k3]⟩ (by simp only; omega) (by simp -dsimp -implicitDefEqProofs (maxSteps:=1000000) (disch:=omega) [ST,S28c,rwS,hD26,htd,eTx])
   ·obtain rfl:i=s.mac.length:=by omega
    rw [List.take_length] at q2
    rw [← q2]
    simp -dsimp -implicitDefEqProofs (maxSteps:=1000000) (disch:=omega) [ST,S28c,rwS,h,hD26,htd]
end Go.Vai
namespace Go.Vai
variable {m:Int} {e3 e4:Value}
def fmlG (t:List UInt8):Option Nd:=if [61].isPrefixOf t=true then parseM (t.drop 1) else none
def nodG (c:Cel):Nd:=(fmlG c.2.2).getD zNd
def fmG (c:Cel):Bool:=(fmlG c.2.2).isSome
def eBo (b:Bool):List FV:=[.sc (.bool b)]
def eAt (p:Nat × Cel):Nat × Value × FV:=(p.1,.agg ⟨[.int .i64 p.2.1,.int .i64 p.2.2.1]⟩,.sc (.int .i64 p.1))
def atL (l:List Cel):List (Nat × Cel):=l.zipIdx.map fun p => (p.2,p.1)
structure WS where
 cells:List Cel
 nodes:List Nd
 fm:List Bool
 rd:List Bool
 vals:List Cel
 kn:List Bool
 left:Int
 short:Bool
def wB (x:WS) (k:Nat):List (Option Blk):=[none,none,none,some (.box [rwS (x.cells.map eCel),.mp 4,.osl 5 8 0 x.nodes.length,.osl 6 1 0 x.fm.length,.osl 7 1 0 x.rd.length,.osl 8 3 0 x.vals.length,.osl 9 1 0 x.kn.length,i64 x.left,bo x.short]),
 some (.map ((atL (x.cells.take k)).map eAt) k),some (.arr 8 (x.nodes.map eNd)),some (.arr 1 (x.fm.map eBo)),some (.arr 1 (x.rd.map eBo)),some (.arr 3 (x.vals.map eCel)),some (.arr 1 (x.kn.map eBo))]
def zDat:Cel:=(0,0,[])
def ws0 (l:List Cel):WS:=⟨l,l.map nodG,l.map fmG,List.replicate l.length false,List.replicate l.length zDat,List.replicate l.length false,0,false⟩
theorem find_at (x:Cel) : ∀ (L:List (Nat × Cel)) (j:Nat),(∀ p∈L,celEq p.2 x=false)→findM 3 (.agg ⟨[.int .i64 x.1,.int .i64 x.2.1]⟩) (L.map eAt) j=some none
 | [],_,_ => rfl
 | p :: r, j, h => by
  have h1:=h p (by simp)
  rw [Bool.eq_false_iff,Ne,celEq_iff] at h1
  have h2:(decide (x.1=p.2.1) && decide (x.2.1=p.2.2.1))=false:=by
   rw [Bool.eq_false_iff,Ne]; simp only [Bool.and_eq_true,decide_eq_true_eq]; omega
  simp only [List.map_cons,findM,eAt,eqK,h2]
  exact find_at x r (j + 1) fun q hq => h q (by simp [hq])
theorem atL_take (l:List Cel) (i:Nat) (x:Cel) (h:l[i]? = some x):atL (l.take (i + 1))=atL (l.take i) ++ [(i,x)]:=by
 unfold atL
 have hi:=(List.getElem?_eq_some_iff.1 h).1
 rw [List.take_add_one,h]
 simp only [Option.toList_some,List.zipIdx_append,List.map_append]
 congr 1
 simp [Nat.min_eq_left (Nat.le_of_lt hi)]
theorem atL_mem {l:List Cel} {p:Nat × Cel} (h:p∈atL l):l[p.1]? = some p.2:=by
 unfold atL at h
 obtain ⟨q,hq,rfl⟩:=List.mem_map.1 h
 obtain ⟨c,i⟩:=q
 have:=List.mem_zipIdx_iff_getElem?.1 hq
 simpa using this
def S27 (l:List Cel) (a:Nat × List Nd × List Bool):St:={ sl:=[(4,.bp 3 0),(28,rwS (l.map eCel)),(29,i64 l.length),(30,i64 a.1)],hp:=numd 0 (wB ⟨l,a.2.1,a.2.2,List.replicate l.length false,List.replicate l.length zDat,List.replicate l.length false,0,false⟩ a.1),nx:=10 }
set_option maxHeartbeats 2000000 in
theorem run_newState (s:Sh) (hn:nodC s.cells) (hl:s.cells.length≤100000) (hT : ∀ c∈s.cells,c.2.2.length≤1000000):(W m e3 e4).run 27 [shO s] (shOB s)=some (.bp 3 0,wB (ws0 s.cells) s.cells.length):=by
 obtain ⟨l,sw,sm⟩:=s
 simp only at hn hl hT
 simp only [shO,shOB,rwS]
 obtain ⟨R,hR⟩ : ∃ R,wB (ws0 l) l.length=R:=⟨_,rfl⟩
 rw [hR]
 refine run_wp (by rw [W_T]; exact rfl) ?_
 simp -dsimp -implicitDefEqProofs (maxSteps:=1000000) (disch:=omega) [ST]
 refine wp_inv (S27 l) (fun a => a.1≤l.length∧a.2.1=(l.take a.1).map nodG ++ List.replicate (l.length - a.1) zNd∧a.2.2=(l.take a.1).map fmG ++ List.replicate (l.length - a.1) false) (fun a => l.length - a.1) (0,List.replicate l.length zNd,List.replicate l.length false) ⟨by simp,by simp,by simp⟩ ?_ ?_
 ·simp -dsimp -implicitDefEqProofs (maxSteps:=1000000) (disch:=omega) [ST,S27,rwS,wB,atL,eBo,zNd,eNd,eNds,zDat,eCel]
 ·rintro ⟨i,NL,FL⟩ ⟨g1,g2,g3⟩
  simp only at g1 g2 g3
  have hNl:NL.length=l.length:=by rw [g2]; simp; omega
  have hFl:FL.length=l.length:=by rw [g3]; simp; omega
  by_cases h:i < l.length
  ·obtain ⟨x,hx⟩ : ∃ x,l[i]=x:=⟨_,rfl⟩
   have hx2:l[i]? = some x:=by rw [List.getElem?_eq_getElem h,hx]
   have htl:=hT x (List.mem_of_getElem? hx2)
   have hcp:=run_cutPrefix (m:=m) (e3:=e3) (e4:=e4) x.2.2 [61] (by omega) (by decide)
   have hat:=atL_take l i x hx2
   have hfa:=find_at x (atL (l.take i)) 0 (fun p hp => by
    have h1:=atL_mem hp
    rw [List.getElem?_take] at h1
    split at h1
    ·rename_i hlt
     unfold nodC at hn
     have h2:=List.pairwise_iff_getElem.1 hn p.1 i (by omega) h hlt
     have h3:l[p.1]=p.2:=(List.getElem?_eq_some_iff.1 h1).2
     rw [h3,hx] at h2
     exact h2
    ·cases h1)
   have hrep : ∀ {α:Type} (z:α),List.replicate (l.length - i) z=z :: List.replicate (l.length - (i + 1)) z:=fun z => by
    rw [show l.length - i=l.length - (i + 1) + 1 by omega,List.replicate_succ]
   have hNs:NL.set i (nodG x)=(l.take (i + 1)).map nodG ++ List.replicate (l.length - (i + 1)) zNd:=by
    rw [g2,hrep,List.set_append_right _ _ (by simp; omega),List.take_add_one,hx2]
    simp [Nat.min_eq_left g1]
   have hFs:FL.set i (fmG x)=(l.take (i + 1)).map fmG ++ List.replicate (l.length - (i + 1)) false:=by
    rw [g3,hrep,List.set_append_right _ _ (by simp; omega),List.take_add_one,hx2]
    simp [Nat.min_eq_left g1]
   have hNz:NL[i]? = some zNd:=by
    rw [g2,List.getElem?_append_right (by simp; omega),hrep]
    simp [Nat.min_eq_left g1]
   have hFz:FL[i]? = some false:=by
    rw [g3,List.getElem?_append_right (by simp; omega),hrep]
    simp [Nat.min_eq_left g1]
   obtain ⟨xa,xb,xt⟩:=x
   simp only at htl hcp hfa
   unfold cpxR at hcp
   by_cases hp:[61].isPrefixOf xt=true
   ·rw [if_pos hp] at hcp
    have hpa:=run_Parse (m:=m) (e3:=e3) (e4:=e4) (xt.drop 1) (by rw [List.length_drop]; omega) (fun ts ht => by
     have:=toksG_len _ (xt.drop 1) (Nat.le_refl _) ts ht
     rw [List.length_drop] at this
     omega)
    have hnd:nodG (xa,xb,xt)=(parseM (xt.drop 1)).getD zNd:=by unfold nodG fmlG; rw [if_pos hp]
    have hfm:fmG (xa,xb,xt)=(parseM (xt.drop 1)).isSome:=by unfold fmG fmlG; rw [if_pos hp]
    obtain ⟨nd,ok,hpr,e1,e2⟩ : ∃ nd ok,parseR (parseM (xt.drop 1))=.tup [ndA nd,bo ok]∧nodG (xa,xb,xt)=nd∧fmG (xa,xb,xt)=ok:=by
     rw [hnd,hfm]
     cases parseM (xt.drop 1) with
     | none => exact ⟨_,_,rfl,rfl,rfl⟩
     | some n => exact ⟨_,_,rfl,rfl,rfl⟩
    rw [hpr] at hpa
    rw [e1] at hNs
    rw [e2] at hFs
    simp only [show ([61]:List UInt8).length=1 from rfl] at hcp
    generalize xt.drop 1=tl at *
    have hFg : ∀ h:i < FL.length,FL[i]=false:=fun h => (List.getElem?_eq_some_iff.1 hFz).2
    have hNg : ∀ h:i < NL.length,NL[i]=zNd:=fun h => (List.getElem?_eq_some_iff.1 hNz).2
    have hsF:(FL.map eBo).set i [.sc (.bool ok)]=(FL.set i ok).map eBo:=by rw [List.map_set]; rfl
    have hsN:(NL.map eNd).set i (eNd nd)=(NL.set i nd).map eNd:=by rw [List.map_set]
    obtain ⟨k,n,t,a,b,c,d,ar⟩:=nd
    rw [eNd] at hsN
    simp only [ndA_mk] at hpa
    simp -dsimp -implicitDefEqProofs (maxSteps:=1000000) (disch:=omega) [ST,S27,wB,rwS,h,hx,eCel,hfa,hcp,hpa,hNl,hFl,hFg,hNg,eBo,zNd,eNd,eNds]
    refine again (i + 1,NL.set i (.mk k n t a b c d ar),FL.set i ok) ⟨by simp only; omega,hNs,hFs⟩ (by simp only; omega) ?_
    rw [S27,wB,← hsF,← hsN,hat]
    simp -dsimp -implicitDefEqProofs (maxSteps:=1000000) (disch:=omega) [ST,rwS,hNl,hFl,eAt,eBo]
    exact .inr rfl
   ·rw [if_neg hp] at hcp
    have hnd:nodG (xa,xb,xt)=zNd:=by unfold nodG fmlG; rw [if_neg hp]; rfl
    have hfm:fmG (xa,xb,xt)=false:=by unfold fmG fmlG; rw [if_neg hp]; rfl
    have hN2:NL.set i zNd=NL:=by
     obtain ⟨_,e⟩:=List.getElem?_eq_some_iff.1 hNz
     rw [← e]; exact List.set_getElem_self _
    have hF2:FL.set i false=FL:=by
     obtain ⟨_,e⟩:=List.getElem?_eq_some_iff.1 hFz
     rw [← e]; exact List.set_getElem_self _
    rw [hnd,hN2] at hNs
    rw [hfm,hF2] at hFs
    simp -dsimp -implicitDefEqProofs (maxSteps:=1000000) (disch:=omega) [ST,S27,wB,rwS,h,hx,eCel,hfa,hcp]
    refine again (i + 1,NL,FL) ⟨by simp only; omega,hNs,hFs⟩ (by simp only; omega) ?_
    rw [S27,wB,hat]
    simp -dsimp -implicitDefEqProofs (maxSteps:=1000000) (disch:=omega) [ST,rwS,hNl,hFl,eAt]
    exact .inr rfl
  ·obtain rfl:i=l.length:=by omega
   rw [List.take_length,Nat.sub_self] at g2 g3
   simp only [List.replicate_zero,List.append_nil] at g2 g3
   subst g2; subst g3
   simp -dsimp -implicitDefEqProofs (maxSteps:=1000000) (disch:=omega) [ST,S27,wB,rwS]
   rw [← hR]
   simp [wB,ws0,rwS]
end Go.Vai
namespace Go.Vai
variable {m:Int} {e3 e4:Value}
def ixF (a b:Int):List Cel→Option Nat
 | [] => none
 | c :: r => if c.1=a∧c.2.1=b then some 0 else (ixF a b r).map (· + 1)
def ixR (k j:Nat):Option Nat→Option (Option (Nat × FV))
 | some i => some (some (k + i,.sc (.int .i64 ((j + i:Nat):Int))))
 | none => some none
theorem find_ix (a b:Int) : ∀ (l:List Cel) (j k:Nat),findM 3 (.agg ⟨[.int .i64 a,.int .i64 b]⟩) (((l.zipIdx j).map fun p => (p.2,p.1)).map eAt) k=ixR k j (ixF a b l)
 | [],_,_ => rfl
 | c :: r, j, k => by
  by_cases h:c.1=a∧c.2.1=b
  ·have h2:(decide (a=c.1) && decide (b=c.2.1))=true:=by
    simp only [Bool.and_eq_true,decide_eq_true_eq]; exact ⟨h.1.symm,h.2.symm⟩
   simp only [List.zipIdx_cons,List.map_cons,findM,eAt,eqK,h2]
   rw [ixF,if_pos h]
   rfl
  ·have h2:(decide (a=c.1) && decide (b=c.2.1))=false:=by
    rw [Bool.eq_false_iff,Ne]; simp only [Bool.and_eq_true,decide_eq_true_eq]; exact fun g => h ⟨g.1.symm,g.2.symm⟩
   simp only [List.zipIdx_cons,List.map_cons,findM,eAt,eqK,h2]
   have ih:=find_ix a b r (j + 1) (k + 1)
   rw [ih,ixF,if_neg h]
   cases ixF a b r with
   | none => rfl
   | some i =>
    simp only [Option.map_some,ixR]
    rw [show k + 1 + i=k + (i + 1) by omega,show j + 1 + i=j + (i + 1) by omega]
theorem find_ix0 (a b:Int) (l:List Cel):findM 3 (.agg ⟨[.int .i64 a,.int .i64 b]⟩) ((atL l).map eAt) 0=ixR 0 0 (ixF a b l):=find_ix a b l 0 0
theorem ixF_some {a b:Int} : ∀ {l:List Cel} {i:Nat},ixF a b l=some i→∃ c,l[i]? = some c∧c.1=a∧c.2.1=b
 | [],i,h => by cases h
 | c :: r, i, h => by
  rw [ixF] at h
  split at h
  ·rename_i hc
   injection h with h
   subst h
   exact ⟨c,rfl,hc⟩
  ·obtain ⟨j,hj,rfl⟩:=Option.map_eq_some_iff.1 h
   obtain ⟨d,h1,h2⟩:=ixF_some hj
   exact ⟨d,by simpa using h1,h2⟩
def wBb (o:Nat) (x:WS):List (Option Blk):=[some (.box [rwS (x.cells.map eCel),.mp (o + 1),.osl (o + 2) 8 0 x.nodes.length,.osl (o + 3) 1 0 x.fm.length,.osl (o + 4) 1 0 x.rd.length,.osl (o + 5) 3 0 x.vals.length,.osl (o + 6) 1 0 x.kn.length,i64 x.left,bo x.short]),
 some (.map ((atL x.cells).map eAt) x.cells.length),some (.arr 8 (x.nodes.map eNd)),some (.arr 1 (x.fm.map eBo)),some (.arr 1 (x.rd.map eBo)),some (.arr 3 (x.vals.map eCel)),some (.arr 1 (x.kn.map eBo))]
def lookB (x:WS) (O:List Int):List (Option Blk):=some (.box [.bp 1 0]) :: (wBb 1 x ++ [some (.box [.osl 9 1 0 O.length]),some (.arr 1 (O.map eIn))])
def lookO (x:WS) (O:List Int):Option Nat→List (Option Blk)
 | some i => some (.box [.bp 1 0]) :: (wBb 1 x ++ [some (.box [.osl 10 1 0 (O.length + 1)]),none,some (.arr 1 ((O ++ [(i:Int)]).map eIn))])
 | none => lookB x O
set_option maxHeartbeats 4000000 in
theorem run_look (x:WS) (O:List Int) (a b:Int) (hO:O.length≤1000000000):(W m e3 e4).run 499754 [.tup [.bm 2 [.bp 0 0],.bm 5 [.bp 8 0]],pl a b] (lookB x O)=some (.tup [],lookO x O (ixF a b x.cells)):=by
 have hf:=find_ix0 a b x.cells
 refine round_wp (by rw [W_T]; exact rfl) rfl ?_
 cases hi:ixF a b x.cells with
 | none =>
  rw [hi] at hf
  simp only [ixR,Nat.zero_add] at hf
  simp -dsimp -implicitDefEqProofs (maxSteps:=1000000) (disch:=omega) [ST,lookB,lookO,wBb,rwS,hf]
 | some i =>
  rw [hi] at hf
  simp only [ixR,Nat.zero_add] at hf
  simp -dsimp -implicitDefEqProofs (maxSteps:=1000000) (disch:=omega) [ST,lookB,lookO,wBb,rwS,hf,eIn]
end Go.Vai
namespace Go.Vai
variable {m:Int} {e3 e4:Value}
def cmpZ:List Int→List Int
 | [] => []
 | x :: r => match r with
  | [] => [x]
  | y :: t => if x=y then cmpZ r else x :: cmpZ r
theorem cmpZ_two (x y:Int) (t:List Int):cmpZ (x :: y :: t)=if x=y then cmpZ (y :: t) else x :: cmpZ (y :: t):=by rw [cmpZ]
theorem cmp_snoc : ∀ (l:List Int) (z x:Int),cmpZ (l ++ [z,x])=if z=x then cmpZ (l ++ [z]) else cmpZ (l ++ [z]) ++ [x]
 | [],z,x => by
  rw [List.nil_append,List.nil_append,cmpZ_two]
  by_cases h:z=x <;> simp [h,cmpZ]
 | [a],z,x => by
  rw [show [a] ++ [z,x]=a :: z :: [x] from rfl,show [a] ++ [z]=a :: z :: [] from rfl,cmpZ_two,cmpZ_two,cmpZ_two]
  by_cases h1:a=z <;> by_cases h2:z=x <;> simp [h1,h2,cmpZ]
 | a :: b :: r,z,x => by
  have ih:=cmp_snoc (b :: r) z x
  rw [show a :: b :: r ++ [z,x]=a :: b :: (r ++ [z,x]) from rfl,show a :: b :: r ++ [z]=a :: b :: (r ++ [z]) from rfl,cmpZ_two,cmpZ_two]
  rw [show b :: r ++ [z,x]=b :: (r ++ [z,x]) from rfl,show b :: r ++ [z]=b :: (r ++ [z]) from rfl] at ih
  rw [ih]
  by_cases h1:a=b <;> by_cases h2:z=x <;> simp [h1,h2]
theorem cmp_take (l:List Int) (j:Nat) (z x:Int) (hz:l[j]? = some z) (hx:l[j + 1]? = some x):cmpZ (l.take (j + 2))=if z=x then cmpZ (l.take (j + 1)) else cmpZ (l.take (j + 1)) ++ [x]:=by
 rw [List.take_add_one (i:=j + 1),hx,List.take_add_one (i:=j),hz]
 simp only [Option.toList_some,List.append_assoc,List.cons_append,List.nil_append]
 exact cmp_snoc _ z x
theorem cmp_len : ∀ l:List Int,(cmpZ l).length≤l.length
 | [] => by simp [cmpZ]
 | [x] => by simp [cmpZ]
 | x :: y :: t => by
  have:=cmp_len (y :: t)
  rw [cmpZ_two]
  split
  ·simp only [List.length_cons] at this ⊢; omega
  ·simp only [List.length_cons] at this ⊢; omega
theorem slc_l (av:LX→AV) (sz:Nat) (x lo:LX):pureOp av (.slc sz x (some lo) none none)=(intOf' (av lo)).bind fun l => match av x with
 | .fz (.sl es) => if okSz sz es=true∧0≤l∧l≤(es.length:Int) then some (.fz (.sl (es.drop l.toNat))) else none
 | .emp => if l=0 then some .emp else none
 | .osl b sz' off len => if sz'=sz∧0≤l∧l≤(len:Int) then some (.osl b sz (off + l.toNat) (len - l).toNat) else none
 | _ => none:=by
 cases h:intOf' (av lo) with
 | none => rw [pureOp.eq_def]; simp only [h]; rfl
 | some l =>
  rw [pureOp.eq_def]; simp only [h,Option.bind_some]
  cases av x with
  | fz f => cases f <;> simp
  | emp => simp
  | osl b s o n => simp
  | _ => rfl
theorem slc_h (av:LX→AV) (sz:Nat) (x hi:LX):pureOp av (.slc sz x none (some hi) none)=(intOf' (av hi)).bind fun h => match av x with
 | .fz (.sl es) => if okSz sz es=true∧0≤h∧h≤(es.length:Int) then some (.fz (.sl (es.take h.toNat))) else none
 | .emp => if h=0 then some .emp else none
 | .osl b sz' off len => if sz'=sz∧0≤h∧h≤(len:Int) then some (.osl b sz off h.toNat) else none
 | _ => none:=by
 cases h:intOf' (av hi) with
 | none => rw [pureOp.eq_def]; simp only [h]; rfl
 | some l =>
  rw [pureOp.eq_def]; simp only [h,Option.bind_some,Option.map_some]
  cases av x with
  | fz f => cases f <;> simp
  | emp => simp
  | osl b s o n => simp
  | _ => rfl
theorem get_tail (C l:List Int) (j:Nat) (h:C.length≤j):(C ++ l.drop C.length)[j]? = l[j]? := by
 rw [List.getElem?_append_right h,List.getElem?_drop]
 congr 1
 omega
def S90 (l:List Int) (k:Nat):St:={ sl:=[(0,.osl 0 1 0 l.length),(3,i64 k)],hp:=[(0,some (.arr 1 (l.map eIn)))],nx:=1 }
def S90b (n k0:Nat) (a:List Int × Nat × Nat):St:={ sl:=[(0,.osl 0 1 0 n),(3,i64 a.2.1),(4,.osl 0 1 k0 (n - k0)),(5,i64 a.2.2)],hp:=[(0,some (.arr 1 (a.1.map eIn)))],nx:=1 }
theorem run_compact (l : List Int) (hl : l.length ≤ 1000000000) : (W m e3 e4).run 90 [.osl 0 1 0 l.length] [some (.arr 1 (l.map eIn))] = some (.osl 0 1 0 (cmpZ l).length, [some (.arr 1 ((cmpZ l ++ List.replicate (l.length - (cmpZ l).length) 0).map eIn))]) := by
 refine run_wp (by rw [W_T]; exact rfl) ?_
 by_cases h2:l.length < 2
 ·match l,h2 with
  | [],_ => simp -dsimp -implicitDefEqProofs (maxSteps:=1000000) (disch:=omega) [ST,cmpZ]
  | [x],_ => simp -dsimp -implicitDefEqProofs (maxSteps:=1000000) (disch:=omega) [ST,cmpZ,eIn]
 ·simp -dsimp -implicitDefEqProofs (maxSteps := 1000000) (disch := omega) [ST, h2]
  refine wp_inv (S90 l) (fun k => 1≤k∧k≤l.length∧cmpZ (l.take k)=l.take k) (fun k => l.length - k) 1 ⟨by omega,by omega,?_⟩ (by simp -dsimp -implicitDefEqProofs (maxSteps:=1000000) (disch:=omega) [ST,S90]) ?_
  ·match l,h2 with
   | x :: r,_ => simp [cmpZ]
  ·rintro k ⟨g1,g2,g3⟩
   by_cases h:k < l.length
   ·obtain ⟨z,hz⟩ : ∃ z,l[k - 1]? = some z:=⟨_,List.getElem?_eq_getElem (by omega)⟩
    obtain ⟨x,hx⟩ : ∃ x,l[k]? = some x:=⟨_,List.getElem?_eq_getElem h⟩
    have hct:=cmp_take l (k - 1) z x hz (by rw [show k - 1 + 1=k by omega]; exact hx)
    rw [show k - 1 + 2=k + 1 by omega,show k - 1 + 1=k by omega] at hct
    have hz' : ∀ h:k - 1 < l.length,l[k - 1]=z:=fun h => (List.getElem?_eq_some_iff.1 hz).2
    have hx' : ∀ h:k < l.length,l[k]=x:=fun h => (List.getElem?_eq_some_iff.1 hx).2
    have hk1:((k:Int) - 1).toNat=k - 1:=by omega
    by_cases he:x=z
    ·subst he
     rw [if_pos rfl,g3] at hct
     simp -dsimp -implicitDefEqProofs (maxSteps:=1000000) (disch:=omega) [ST,S90,h,hz',hx',hk1,eIn,slc_l,show 1≤(k:Int) by omega]
     refine wp_inv (S90b l.length k) (fun a => a.1=cmpZ (l.take (k + a.2.2)) ++ l.drop (cmpZ (l.take (k + a.2.2))).length∧a.2.1=(cmpZ (l.take (k + a.2.2))).length∧1≤a.2.2∧k + a.2.2≤l.length∧(cmpZ (l.take (k + a.2.2))).length + 1≤k + a.2.2) (fun a => l.length - a.2.2) (l,k,1) ⟨?_,?_,by simp only; omega,by simp only; omega,?_⟩ (by simp -dsimp -implicitDefEqProofs (maxSteps:=1000000) (disch:=omega) [ST,S90b]) ?_
     ·simp only; rw [hct]; rw [List.length_take,Nat.min_eq_left g2,List.take_append_drop]
     ·simp only; rw [hct]; rw [List.length_take,Nat.min_eq_left g2]
     ·simp only; rw [hct]; rw [List.length_take,Nat.min_eq_left g2]; omega
     ·rintro ⟨A,k',k2⟩ ⟨q1,q2,q3,q4,q5⟩
      simp only at q1 q2 q3 q4 q5
      generalize hC:cmpZ (l.take (k + k2))=C at *
      have hAl:A.length=l.length:=by rw [q1,List.length_append,List.length_drop]; omega
      by_cases hb:k2 < l.length - k
      ·obtain ⟨p,hp⟩ : ∃ p,l[k + k2 - 1]? = some p:=⟨_,List.getElem?_eq_getElem (by omega)⟩
       obtain ⟨y,hy⟩ : ∃ y,l[k + k2]? = some y:=⟨_,List.getElem?_eq_getElem (by omega)⟩
       have hcn:=cmp_take l (k + k2 - 1) p y hp (by rw [show k + k2 - 1 + 1=k + k2 by omega]; exact hy)
       rw [show k + k2 - 1 + 2=k + (k2 + 1) by omega,show k + k2 - 1 + 1=k + k2 by omega,hC] at hcn
       have hA1:A[k + k2]? = some y:=by rw [q1,get_tail C l _ (by omega)]; exact hy
       have hA0:A[k + (k2 - 1)]? = some p:=by rw [q1,get_tail C l _ (by omega),show k + (k2 - 1)=k + k2 - 1 by omega]; exact hp
       have hA1' : ∀ h:k + k2 < A.length,A[k + k2]=y:=fun h => (List.getElem?_eq_some_iff.1 hA1).2
       have hA0' : ∀ h:k + (k2 - 1) < A.length,A[k + (k2 - 1)]=p:=fun h => (List.getElem?_eq_some_iff.1 hA0).2
       have hk21:((k2:Int) - 1).toNat=k2 - 1:=by omega
       by_cases he:y=p
       ·subst he
        rw [if_pos rfl] at hcn
        simp -dsimp -implicitDefEqProofs (maxSteps:=1000000) (disch:=omega) [ST,S90b,hb,hA1,hA0,hA1',hA0',hk21,eIn,show 1≤(k2:Int) by omega,show k2 - 1 < l.length - k by omega]
        refine again (A,k',k2 + 1) ⟨by simp only; rw [hcn]; exact q1,by simp only; rw [hcn]; exact q2,by simp only; omega,by simp only; omega,by simp only; rw [hcn]; omega⟩ (by simp only; omega) (by simp -dsimp -implicitDefEqProofs (maxSteps:=1000000) (disch:=omega) [ST,S90b,eIn])
       ·have he' : ¬ p=y:=fun e => he e.symm
        rw [if_neg he'] at hcn
        have hset:A.set k' y=(C ++ [y]) ++ l.drop (C.length + 1):=by
         have e:l.drop C.length=l[C.length] :: l.drop (C.length + 1):=List.drop_eq_getElem_cons (by omega)
         rw [q1,q2,List.set_append_right _ _ (Nat.le_refl _),Nat.sub_self,e,List.set_cons_zero]
         simp
        have hsm:(A.map eIn).set k' [.sc (.int .i64 y)]=(A.set k' y).map eIn:=by rw [List.map_set]; rfl
        simp -dsimp -implicitDefEqProofs (maxSteps:=1000000) (disch:=omega) [ST,S90b,hb,hA1,hA0,hA1',hA0',hk21,eIn,he,show 1≤(k2:Int) by omega,show k2 - 1 < l.length - k by omega,show k' < l.length by omega]
        refine again (A.set k' y,k' + 1,k2 + 1) ⟨by simp only; rw [hcn,hset,List.length_append]; rfl,by simp only; rw [hcn,List.length_append,q2]; rfl,by simp only; omega,by simp only; omega,by simp only; rw [hcn,List.length_append,List.length_cons,List.length_nil]; omega⟩ (by simp only; omega) ?_
        rw [S90b]
        simp only
        rw [← hsm]
        simp -dsimp -implicitDefEqProofs (maxSteps:=1000000) (disch:=omega) [ST]
      ·have hkk:k + k2=l.length:=by omega
       rw [hkk,List.take_length] at hC
       subst hC
       simp -dsimp -implicitDefEqProofs (maxSteps:=1000000) (disch:=omega) [ST,S90b,hb,slc_l,slc_h,show k'≤l.length by omega]
       have e1:(A.map eIn).take k'=(cmpZ l).map eIn:=by rw [q1,List.map_append,q2,List.take_left' (by simp)]
       have e2:(A.map eIn).drop l.length=[]:=List.drop_of_length_le (by simp [hAl])
       refine ⟨q2,?_⟩
       rw [e1,e2,q2]
       simp [eIn]
    ·have he' : ¬ z=x:=fun e => he e.symm
     rw [if_neg he',g3] at hct
     simp -dsimp -implicitDefEqProofs (maxSteps:=1000000) (disch:=omega) [ST,S90,h,hz',hx',hk1,eIn,he,show 1≤(k:Int) by omega]
     refine again (k + 1) ⟨by omega,by omega,by rw [hct,List.take_add_one,hx]; rfl⟩ (by omega) (by simp -dsimp -implicitDefEqProofs (maxSteps:=1000000) (disch:=omega) [ST,S90,eIn])
   ·obtain rfl:k=l.length:=by omega
    rw [List.take_length] at g3
    rw [g3]
    simp -dsimp -implicitDefEqProofs (maxSteps:=1000000) (disch:=omega) [ST,S90]
end Go.Vai
