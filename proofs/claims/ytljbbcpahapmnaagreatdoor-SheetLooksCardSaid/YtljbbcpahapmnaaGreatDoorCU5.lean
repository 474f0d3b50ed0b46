/-
  What functions of layer 9 and of its reference compute: equations of the abstract run, and plain laws of them.
-/
import Derived.Test.YtljbbcpahapmnaaGreatDoorCN9
set_option linter.unusedVariables false
set_option linter.unusedSimpArgs false
set_option linter.unnecessarySimpa false
set_option linter.unusedSectionVars false
namespace Go.Vai
theorem placeI_v {l:List UInt8} (h:(placeI l).2=true):plB (placeI l).1.1 (placeI l).1.2=true:=by
 match l with
 | [] => simp [placeI] at h
 | [_] => simp [placeI] at h
 | c :: d :: r =>
  simp only [placeI] at h ⊢
  split at h
  ·rename_i hh
   rw [if_pos hh]
   simp only [Bool.and_eq_true] at h
   exact h.2
  ·cases h
end Go.Vai
namespace Go.Vai
variable {m:Int} {e3 e4:Value}
def prB (x:WS) (O:List Int):List (Option Blk):=some (.box [.yl 1]) :: some (.loop 499754 [(2,.bp 2 0),(5,.bp 10 0)] none) :: some (.box [.bp 3 0]) :: (wBb 3 x ++ [some (.box [.osl 11 1 0 O.length]),some (.arr 1 (O.map eIn)),some (.box [bo false])])
def prO (x:WS) (O:List Int):Option Nat→List (Option Blk)
 | some i => some (.box [.yl 1]) :: some (.loop 499754 [(2,.bp 2 0),(5,.bp 10 0)] none) :: some (.box [.bp 3 0]) :: (wBb 3 x ++ [some (.box [.osl 13 1 0 (O.length + 1)]),none,some (.box [bo false]),some (.arr 1 ((O ++ [(i:Int)]).map eIn))])
 | none => prB x O
set_option maxHeartbeats 2000000 in
theorem yl_look (x:WS) (O:List Int) (a b:Int) (hO:O.length≤1000000000) (sl:List (Nat × AV)) (hp:HW) (nx:Nat) (hnx:12≤nx)
 (k1:hk hp 1=some (.loop 499754 [(2,.bp 2 0),(5,.bp 10 0)] none)) (k2:hk hp 2=some (.box [.bp 3 0])) (k3:hk hp 3=some (.box [rwS (x.cells.map eCel),.mp 4,.osl 5 8 0 x.nodes.length,.osl 6 1 0 x.fm.length,.osl 7 1 0 x.rd.length,.osl 8 3 0 x.vals.length,.osl 9 1 0 x.kn.length,i64 x.left,bo x.short]))
 (k4:hk hp 4=some (.map ((atL x.cells).map eAt) x.cells.length)) (k5:hk hp 5=some (.arr 8 (x.nodes.map eNd))) (k6:hk hp 6=some (.arr 1 (x.fm.map eBo))) (k7:hk hp 7=some (.arr 1 (x.rd.map eBo))) (k8:hk hp 8=some (.arr 3 (x.vals.map eCel))) (k9:hk hp 9=some (.arr 1 (x.kn.map eBo)))
 (k10:hk hp 10=some (.box [.osl 11 1 0 O.length])) (k11:hk hp 11=some (.arr 1 (O.map eIn))) :
 (ixF a b x.cells=none→∃ ws,yldOp (W m e3 e4).run 1 [pl a b] ⟨sl,hp,nx⟩=some (.fz (.sc (.bool true)),ws,0)∧∀ i,hk (ws ++ hp) i=hk hp i) ∧
 ∀ j,ixF a b x.cells=some j→∃ ws,yldOp (W m e3 e4).run 1 [pl a b] ⟨sl,hp,nx⟩=some (.fz (.sc (.bool true)),ws,1)∧hk (ws ++ hp) 10=some (.box [.osl nx 1 0 (O.length + 1)])∧hk (ws ++ hp) 11=none∧hk (ws ++ hp) nx=some (.arr 1 ((O ++ [(j:Int)]).map eIn))∧∀ i,i≠10→i≠11→i≠nx→hk (ws ++ hp) i=hk hp i:=by
 have hl:=run_look (m:=m) (e3:=e3) (e4:=e4) x O a b hO
 refine ⟨fun hi => ?_,fun j hi => ?_⟩
 ·rw [hi] at hl
  simp only [lookB,lookO,wBb,rwS,List.cons_append,List.nil_append,Nat.reduceAdd] at hl k3
  refine ⟨_,by simp [yldOp,callOp,clos,hk,k1,k2,k3,k4,k5,k6,k7,k8,k9,k10,k11,hl]; rfl,?_⟩
  intro i
  simp [hk]
  split
  ·rename_i e; subst e; exact k2.symm
  split
  ·rename_i e; subst e; exact k3.symm
  split
  ·rename_i e; subst e; exact k4.symm
  split
  ·rename_i e; subst e; exact k5.symm
  split
  ·rename_i e; subst e; exact k6.symm
  split
  ·rename_i e; subst e; exact k7.symm
  split
  ·rename_i e; subst e; exact k8.symm
  split
  ·rename_i e; subst e; exact k9.symm
  split
  ·rename_i e; subst e; exact k10.symm
  split
  ·rename_i e; subst e; exact k11.symm
  split
  ·rename_i e; subst e; exact k1.symm
  rfl
 ·rw [hi] at hl
  simp only [lookB,lookO,wBb,rwS,List.cons_append,List.nil_append,Nat.reduceAdd] at hl k3
  refine ⟨_,by simp [yldOp,callOp,clos,hk,k1,k2,k3,k4,k5,k6,k7,k8,k9,k10,k11,hl]; rfl,?_,?_,?_,?_⟩
  ·simp [hk]
  ·simp [hk]
  ·simp [hk,show ¬ 2=nx by omega,show ¬ 3=nx by omega,show ¬ 4=nx by omega,show ¬ 5=nx by omega,show ¬ 6=nx by omega,show ¬ 7=nx by omega,show ¬ 8=nx by omega,show ¬ 9=nx by omega,show ¬ 10=nx by omega,show ¬ 11=nx by omega]
  ·intro i i1 i2 i3
   simp [hk,show ¬ 10=i by omega,show ¬ 11=i by omega,show ¬ nx=i by omega]
   split
   ·rename_i e; subst e; exact k2.symm
   split
   ·rename_i e; subst e; exact k3.symm
   split
   ·rename_i e; subst e; exact k4.symm
   split
   ·rename_i e; subst e; exact k5.symm
   split
   ·rename_i e; subst e; exact k6.symm
   split
   ·rename_i e; subst e; exact k7.symm
   split
   ·rename_i e; subst e; exact k8.symm
   split
   ·rename_i e; subst e; exact k9.symm
   split
   ·rename_i e; subst e; exact k1.symm
   ·rfl
end Go.Vai
namespace Go.Vai
variable {m:Int} {e3 e4:Value}
theorem opt_yl (x:WS) (O:List Int) (a b:Int) (hO:O.length≤1000000000) {sl:List (Nat × AV)} {hp:HW} {nx:Nat} {Q:AV × HW × Nat→Prop} {w:Wit Q} (hnx:12≤nx)
 (k1:hk hp 1=some (.loop 499754 [(2,.bp 2 0),(5,.bp 10 0)] none)) (k2:hk hp 2=some (.box [.bp 3 0])) (k3:hk hp 3=some (.box [rwS (x.cells.map eCel),.mp 4,.osl 5 8 0 x.nodes.length,.osl 6 1 0 x.fm.length,.osl 7 1 0 x.rd.length,.osl 8 3 0 x.vals.length,.osl 9 1 0 x.kn.length,i64 x.left,bo x.short]))
 (k4:hk hp 4=some (.map ((atL x.cells).map eAt) x.cells.length)) (k5:hk hp 5=some (.arr 8 (x.nodes.map eNd))) (k6:hk hp 6=some (.arr 1 (x.fm.map eBo))) (k7:hk hp 7=some (.arr 1 (x.rd.map eBo))) (k8:hk hp 8=some (.arr 3 (x.vals.map eCel))) (k9:hk hp 9=some (.arr 1 (x.kn.map eBo)))
 (k10:hk hp 10=some (.box [.osl 11 1 0 O.length])) (k11:hk hp 11=some (.arr 1 (O.map eIn)))
 (kN:ixF a b x.cells=none→∀ ws,(∀ i,hk (ws ++ hp) i=hk hp i)→Q (.fz (.sc (.bool true)),ws,0))
 (kS : ∀ j,ixF a b x.cells=some j→∀ ws,hk (ws ++ hp) 10=some (.box [.osl nx 1 0 (O.length + 1)])→hk (ws ++ hp) 11=none→hk (ws ++ hp) nx=some (.arr 1 ((O ++ [(j:Int)]).map eIn))→(∀ i,i≠10→i≠11→i≠nx→hk (ws ++ hp) i=hk hp i)→Q (.fz (.sc (.bool true)),ws,1)) :
 optP (yldOp (W m e3 e4).run 1 [.agg [i64 a,i64 b]] ⟨sl,hp,nx⟩) Q w:=by
 obtain ⟨f1,f2⟩:=yl_look (m:=m) (e3:=e3) (e4:=e4) x O a b hO sl hp nx hnx k1 k2 k3 k4 k5 k6 k7 k8 k9 k10 k11
 cases hi:ixF a b x.cells with
 | none =>
  obtain ⟨ws,g1,g2⟩:=f1 hi
  rw [show (AV.agg [i64 a,i64 b])=pl a b from rfl,g1]
  exact kN hi ws g2
 | some j =>
  obtain ⟨ws,g1,g2,g3,g4,g5⟩:=f2 j hi
  rw [show (AV.agg [i64 a,i64 b])=pl a b from rfl,g1]
  exact kS j hi ws g2 g3 g4 g5
set_option maxHeartbeats 2000000 in
theorem run_pround (x:WS) (O:List Int) (a b:Int) (hO:O.length≤1000000000):(W m e3 e4).run 7053435 [.tup [.bm 1 [.bp 0 0],.bm 4 [.bp 12 0]],pl a b] (prB x O)=some (.tup [],prO x O (ixF a b x.cells)):=by
 refine round_wp (by rw [W_T]; exact rfl) rfl ?_
 simp -dsimp -implicitDefEqProofs (maxSteps:=1000000) (disch:=omega) [ST,prB,wBb,rwS,-yldOp]
 refine opt_yl x O a b hO (by omega) rfl rfl rfl rfl rfl rfl rfl rfl rfl rfl rfl ?_ ?_
 ·intro hi ws hw
  rw [hi]
  simp only
  generalize hh:ws ++ _=hp2 at *
  have w0:=hw 0
  have w1:=hw 1
  have w2:=hw 2
  have w3:=hw 3
  have w4:=hw 4
  have w5:=hw 5
  have w6:=hw 6
  have w7:=hw 7
  have w8:=hw 8
  have w9:=hw 9
  have w10:=hw 10
  have w11:=hw 11
  have w12:=hw 12
  clear hw hh
  simp [hk] at w0 w1 w2 w3 w4 w5 w6 w7 w8 w9 w10 w11 w12
  rw [show (prB x O).length=13 from rfl]
  obtain ⟨R,hR⟩ : ∃ R,prO x O none=R:=⟨_,rfl⟩
  rw [hR]
  simp -dsimp -implicitDefEqProofs (maxSteps:=1000000) (disch:=omega) [ST]
  simp only [w0,w1,w2,w3,w4,w5,w6,w7,w8,w9,w10,w11,w12]
  change blks hp2 (idx [0,1,2,3,4,5,6,7,8,9,10,11,12]) [0,1,2,3,4,5,6,7,8,9,10,11,12]=R
  simp only [blks,w0,w1,w2,w3,w4,w5,w6,w7,w8,w9,w10,w11,w12]
  rw [← hR]
  rfl
 ·intro j hi ws v10 v11 v19 hw
  rw [hi]
  simp only
  generalize hh:ws ++ _=hp2 at *
  have w0:=hw 0 (by omega) (by omega) (by omega)
  have w1:=hw 1 (by omega) (by omega) (by omega)
  have w2:=hw 2 (by omega) (by omega) (by omega)
  have w3:=hw 3 (by omega) (by omega) (by omega)
  have w4:=hw 4 (by omega) (by omega) (by omega)
  have w5:=hw 5 (by omega) (by omega) (by omega)
  have w6:=hw 6 (by omega) (by omega) (by omega)
  have w7:=hw 7 (by omega) (by omega) (by omega)
  have w8:=hw 8 (by omega) (by omega) (by omega)
  have w9:=hw 9 (by omega) (by omega) (by omega)
  have w12:=hw 12 (by omega) (by omega) (by omega)
  clear hw hh
  simp [hk] at w0 w1 w2 w3 w4 w5 w6 w7 w8 w9 w12
  rw [show (prB x O).length=13 from rfl]
  obtain ⟨R,hR⟩ : ∃ R,prO x O (some j)=R:=⟨_,rfl⟩
  rw [hR]
  have hns:clos hp2 1000 [1,2,10,3,4,5,6,7,8,9,19] [0,1,2,3,4,5,6,7,8,9,10,11,12]=[0,1,2,3,4,5,6,7,8,9,10,11,12,19]:=by
   change (match hk hp2 19 with
    | none => clos hp2 989 [] [0,1,2,3,4,5,6,7,8,9,10,11,12]
    | some blk => clos hp2 989 (blk.names ++ []) ([0,1,2,3,4,5,6,7,8,9,10,11,12] ++ [19]))=_
   rw [v19]; rfl
  simp -dsimp -implicitDefEqProofs (maxSteps:=1000000) (disch:=omega) [ST]
  simp only [w0,w1,w2,w3,w4,w5,w6,w7,w8,w9,v10,v11,w12]
  change blks hp2 (idx (clos hp2 1000 [1,2,10,3,4,5,6,7,8,9,19] [0,1,2,3,4,5,6,7,8,9,10,11,12])) (clos hp2 1000 [1,2,10,3,4,5,6,7,8,9,19] [0,1,2,3,4,5,6,7,8,9,10,11,12])=R
  rw [hns]
  simp only [blks,w0,w1,w2,w3,w4,w5,w6,w7,w8,w9,v10,v11,v19,w12]
  rw [← hR]
  rfl
end Go.Vai
namespace Go.Vai
variable {m:Int} {e3 e4:Value}
theorem clos_nil (hp:HW) (n:Nat) (acc:List Nat):clos hp n [] acc=acc:=by cases n <;> rfl
theorem clos_cons (hp:HW) (n b:Nat) (r acc:List Nat):clos hp (n + 1) (b :: r) acc=if acc.contains b then clos hp n r acc else match hk hp b with
 | none => clos hp n r acc
 | some blk => clos hp n (blk.names ++ r) (acc ++ [b]):=rfl
theorem clos_skip (hp:HW) : ∀ (n:Nat) (E acc:List Nat),(∀ x∈E,x∈acc)→clos hp n E acc=acc
 | 0,_,_,_ => rfl
 | n + 1,[],acc,_ => rfl
 | n + 1,x :: r,acc,h => by
  rw [clos_cons,if_pos (by simpa using h x (by simp))]
  exact clos_skip hp n r acc fun y hy => h y (by simp [hy])
theorem clos_more (hp:HW) (E:List Nat) : ∀ (n:Nat) (L acc:List Nat),(∀ x∈E,x∈acc)→clos hp n (L ++ E) acc=clos hp n L acc
 | 0,_,_,_ => rfl
 | n + 1,[],acc,h => by rw [List.nil_append,clos_skip hp _ E acc h,clos_nil]
 | n + 1, x :: r, acc, h => by
  rw [List.cons_append,clos_cons,clos_cons]
  split
  ·exact clos_more hp E n r acc h
  ·split
   ·exact clos_more hp E n r acc h
   ·rw [← List.append_assoc]
    exact clos_more hp E n _ _ fun y hy => by simp [h y hy]
theorem upTo_succ (n:Nat):upTo (n + 1)=upTo n ++ [n]:=rfl
theorem mem_upTo {x:Nat} : ∀ {n:Nat},x∈upTo n↔x < n
 | 0 => by simp [upTo]
 | n + 1 => by rw [upTo_succ,List.mem_append,mem_upTo (n:=n),List.mem_singleton]; omega
theorem upTo_len : ∀ n:Nat,(upTo n).length=n
 | 0 => rfl
 | n + 1 => by rw [upTo_succ,List.length_append,upTo_len n]; rfl
theorem idx_app_in : ∀ (A B:List Nat) (i j:Nat),idx A i=some j→idx (A ++ B) i=some j
 | [],_,_,_,h => by cases h
 | c :: r, B, i, j, h => by
  rw [List.cons_append]
  simp only [idx] at h ⊢
  split
  ·rename_i e; rw [if_pos e] at h; exact h
  ·rename_i e
   rw [if_neg e] at h
   cases hr:idx r i with
   | none => rw [hr] at h; cases h
   | some k => rw [idx_app_in r B i k hr]; rw [hr] at h; exact h
theorem idx_app_out : ∀ (A:List Nat) (i:Nat),¬ i∈A→∀ B,idx (A ++ i :: B) i=some A.length
 | [],i,_,B => by simp [idx]
 | c :: r,i,h,B => by
  rw [List.cons_append]
  simp only [idx]
  rw [if_neg (fun e => h (by simp [e])),idx_app_out r i (fun e => h (by simp [e])) B]
  rfl
theorem idx_up (m:Nat) (r:List Nat) {i:Nat} (h:i < m):idx (upTo m ++ r) i=some i:=by
 refine idx_app_in _ _ _ _ ?_
 induction m with
 | zero => omega
 | succ n ih =>
  rw [upTo_succ]
  by_cases e:i < n
  ·exact idx_app_in _ _ _ _ (ih e)
  ·obtain rfl:i=n:=by omega
   have:=idx_app_out (upTo i) i (by rw [mem_upTo]; omega) []
   rw [upTo_len] at this
   exact this
def Nrm (m:Nat) (hp:HW) (bl':List (Option Blk)):Prop := ∃ r,clos hp 1000 (argNames m hp) (upTo m)=upTo m ++ r∧blks hp (idx (upTo m ++ r)) (upTo m ++ r)=bl'
theorem blks_len (hp:HW) (ρ:Nat→Option Nat) : ∀ L:List Nat,(blks hp ρ L).length=L.length
 | [] => rfl
 | x :: r => by rw [blks,List.length_cons,blks_len hp ρ r]; rfl
theorem nrm_norm {m:Nat} {hp:HW} {bl':List (Option Blk)} (h:Nrm m hp bl') {live:List Nat} {sl:List (Nat × AV)} {nx:Nat} {vs:Nat→AV} (hn : ∀ x∈AV.namesL (live.map (lk sl)),x < m) (hr : ∀ ρ:Nat→Option Nat,(∀ i,i < m→ρ i=some i)→∀ t∈live,(lk sl t).ren ρ=vs t):norm m live ⟨sl,hp,nx⟩=⟨live.map fun t => (t,vs t),numd 0 bl',bl'.length⟩:=by
 obtain ⟨r,h1,h2⟩:=h
 have h3:clos hp 1000 (argNames m hp ++ AV.namesL (live.map (lk sl))) (upTo m)=upTo m ++ r:=by
  rw [clos_more _ _ _ _ _ (fun x hx => mem_upTo.2 (hn x hx)),h1]
 unfold norm
 simp only [h3]
 rw [h2,← h2,blks_len]
 congr 1
 refine List.map_congr_left fun t ht => ?_
 rw [hr _ (fun i hi => idx_up m r hi) t ht]
theorem nrm_fin {m:Nat} {hp:HW} {bl':List (Option Blk)} (h:Nrm m hp bl') {sl:List (Nat × AV)} {nx:Nat} {own:Bool}:fin0 [] own m ⟨sl,hp,nx⟩=some (.tup [],bl'):=by
 obtain ⟨r,h1,h2⟩:=h
 have h3:clos hp 1000 (argNames m hp ++ []) (upTo m)=upTo m ++ r:=by rw [List.append_nil,h1]
 have h4:froL m hp []=([],hp):=rfl
 cases own <;> simp [fin0,resL,tupOf,h4,AV.names,AV.namesL,AV.ren,AV.renL,h1,h2]
def YStep (rf:RF) (m:Nat) (bl bl':List (Option Blk)) (p:AV):Prop := ∀ (sl:List (Nat × AV)) (nx:Nat),nx=bl.length + 15→∃ ws n,yldOp rf 0 [p] ⟨sl,numd 0 bl,nx⟩=some (.fz (.sc (.bool true)),ws,n)∧Nrm m (ws ++ numd 0 bl) bl'
def zr (lo hi:Int):List Int:=(List.range (hi + 1 - lo).toNat).map fun i:Nat => lo + (i:Int)
theorem zr_nil {lo hi:Int} (h:hi < lo):zr lo hi=[]:=by
 unfold zr; rw [show (hi + 1 - lo).toNat=0 by omega]; rfl
theorem zr_cons {lo hi:Int} (h:lo≤hi):zr lo hi=lo :: zr (lo + 1) hi:=by
 unfold zr
 rw [show (hi + 1 - lo).toNat=(hi + 1 - (lo + 1)).toNat + 1 by omega,List.range_succ_eq_map,List.map_cons,List.map_map]
 congr 1
 ·simp
 ·refine List.map_congr_left fun i _ => ?_
  simp; omega
def plcs (r1 c1 r2 c2:Int):List (Int × Int):=(zr r1 r2).flatMap fun r => (zr c1 c2).map fun c => (r,c)
def S171 {α:Type} (S:α→List (Option Blk)) (B:Nat) (a:α × Int):St:={ sl:=[(0,.yl 0),(1,.bp B 0),(3,i64 a.2)],hp:=numd 0 (S a.1),nx:=(S a.1).length }
def S171b {α:Type} (S:α→List (Option Blk)) (B:Nat) (row:Int) (a:α × Int):St:={ sl:=[(0,.yl 0),(1,.bp B 0),(3,i64 row),(4,i64 a.2)],hp:=numd 0 (S a.1),nx:=(S a.1).length }
theorem opt_ys {rf:RF} {M:Nat} {bl bl':List (Option Blk)} {p:AV} (h:YStep rf M bl bl' p) {sl:List (Nat × AV)} {nx:Nat} {Q:AV × HW × Nat→Prop} {w:Wit Q} (hn:nx=bl.length + 15) (k : ∀ ws n,Nrm M (ws ++ numd 0 bl) bl'→Q (.fz (.sc (.bool true)),ws,n)):optP (yldOp rf 0 [p] ⟨sl,numd 0 bl,nx⟩) Q w:=by
 obtain ⟨ws,n,e,h2⟩:=h sl nx hn
 rw [e]
 exact k ws n h2
set_option maxHeartbeats 2000000 in
theorem run_places {α:Type} (S:α→List (Option Blk)) (I:Nat→α→Prop) (nxt:α→Int × Int→α) (M B:Nat) (k0 k1 k2 k7:AV) (r1 c1 r2 c2:Int) (hb : -1000000≤r1∧r1≤1000000∧-1000000≤r2∧r2≤1000000∧-1000000≤c1∧c1≤1000000∧-1000000≤c2∧c2≤1000000) (hM:0 < M) (hB:B < M)
 (h1 : ∀ k a,I k a→hk (numd 0 (S a)) B=some (.box [k0,k1,k2,i64 r1,i64 c1,i64 r2,i64 c2,k7]))
 (h2 : ∀ k a,I (k + 1) a→∀ r c,min r1 r2≤r→r≤max r1 r2→min c1 c2≤c→c≤max c1 c2→I k (nxt a (r,c))∧YStep (W m e3 e4).run M (S a) (S (nxt a (r,c))) (pl r c))
 (h3 : ∀ k a,I k a→Nrm M (numd 0 (S a)) (S a))
 (a:α) (ha:I (plcs (min r1 r2) (min c1 c2) (max r1 r2) (max c1 c2)).length a) (hm:(S a).length=M) :
 (W m e3 e4).run 171 [.yl 0,.bp B 0] (S a)=some (.tup [],S ((plcs (min r1 r2) (min c1 c2) (max r1 r2) (max c1 c2)).foldl nxt a)):=by
 obtain ⟨R,hR⟩ : ∃ R,(plcs (min r1 r2) (min c1 c2) (max r1 r2) (max c1 c2)).foldl nxt a=R:=⟨_,rfl⟩
 rw [hR]
 refine run_wp (by rw [W_T]; exact rfl) ?_
 rw [hm]
 have q1:=h1 _ _ ha
 simp -dsimp -implicitDefEqProofs (maxSteps:=1000000) (disch:=omega) [ST,q1]
 refine wp_inv (S171 S B) (fun b => min r1 r2≤b.2∧b.2≤max r1 r2 + 1∧I (plcs b.2 (min c1 c2) (max r1 r2) (max c1 c2)).length b.1∧(plcs b.2 (min c1 c2) (max r1 r2) (max c1 c2)).foldl nxt b.1=R) (fun b => (max r1 r2 + 1 - b.2).toNat) (a,min r1 r2) ⟨by simp only; omega,by simp only; omega,ha,hR⟩ ?_ ?_
 ·refine (nrm_norm (h3 _ _ ha) (vs:=lk [(0,AV.yl 0),(1,.bp B 0),(3,i64 (min r1 r2))]) ?_ ?_).trans rfl
  ·simp [AV.namesL,AV.names,lk,hM,hB]
  ·intro ρ hρ; simp [lk,AV.ren,hρ 0 hM,hρ B hB]
 ·rintro ⟨a,row⟩ ⟨g1,g2,g3,g4⟩
  simp only at g1 g2 g3 g4
  have q1:=h1 _ _ g3
  by_cases hr:row≤max r1 r2
  ·simp -dsimp -implicitDefEqProofs (maxSteps:=1000000) (disch:=omega) [ST,S171,q1,hr]
   have hpl:plcs row (min c1 c2) (max r1 r2) (max c1 c2)=(zr (min c1 c2) (max c1 c2)).map (fun c => (row,c)) ++ plcs (row + 1) (min c1 c2) (max r1 r2) (max c1 c2):=by
    unfold plcs; rw [zr_cons hr,List.flatMap_cons]
   rw [hpl] at g3 g4
   generalize hT:plcs (row + 1) (min c1 c2) (max r1 r2) (max c1 c2)=T at *
   refine wp_inv (S171b S B row) (fun b => min c1 c2≤b.2∧b.2≤max c1 c2 + 1∧I ((zr b.2 (max c1 c2)).map (fun c => (row,c)) ++ T).length b.1∧((zr b.2 (max c1 c2)).map (fun c => (row,c)) ++ T).foldl nxt b.1=R) (fun b => (max c1 c2 + 1 - b.2).toNat) (a,min c1 c2) ⟨by simp only; omega,by simp only; omega,g3,g4⟩ ?_ ?_
   ·refine (nrm_norm (h3 _ _ g3) (vs:=lk [(0,AV.yl 0),(1,.bp B 0),(3,i64 row),(4,i64 (min c1 c2))]) ?_ ?_).trans rfl
    ·simp [AV.namesL,AV.names,lk,hM,hB]
    ·intro ρ hρ; simp [lk,AV.ren,hρ 0 hM,hρ B hB]
   ·rintro ⟨b,col⟩ ⟨f1,f2,f3,f4⟩
    simp only at f1 f2 f3 f4
    have q1:=h1 _ _ f3
    by_cases hc:col≤max c1 c2
    ·rw [zr_cons hc,List.map_cons,List.cons_append,List.length_cons] at f3
     rw [zr_cons hc,List.map_cons,List.cons_append,List.foldl_cons] at f4
     obtain ⟨e1,e2⟩:=h2 _ _ f3 row col g1 hr f1 hc
     simp -dsimp -implicitDefEqProofs (maxSteps:=1000000) (disch:=omega) [ST,S171b,q1,hc,-yldOp]
     refine opt_ys e2 (by omega) ?_
     intro ws n hN
     simp -dsimp -implicitDefEqProofs (maxSteps:=1000000) (disch:=omega) [ST]
     refine again (nxt b (row,col),col + 1) ⟨by simp only; omega,by simp only; omega,e1,f4⟩ (by simp only; omega) ?_
     refine (nrm_norm hN (vs:=lk [(0,AV.yl 0),(1,.bp B 0),(3,i64 row),(4,i64 (col + 1))]) ?_ ?_).trans rfl
     ·simp [AV.namesL,AV.names,lk,hM,hB]
     ·intro ρ hρ; simp [lk,AV.ren,hρ 0 hM,hρ B hB]
    ·rw [zr_nil (by omega),List.map_nil,List.nil_append] at f3 f4
     simp -dsimp -implicitDefEqProofs (maxSteps:=1000000) (disch:=omega) [ST,S171b,q1,hc]
     rw [← hT] at f3 f4
     refine again (b,row + 1) ⟨by simp only; omega,by simp only; omega,f3,f4⟩ (by simp only; omega) ?_
     refine (nrm_norm (h3 _ _ f3) (vs:=lk [(0,AV.yl 0),(1,.bp B 0),(3,i64 (row + 1))]) ?_ ?_).trans rfl
     ·simp [AV.namesL,AV.names,lk,hM,hB]
     ·intro ρ hρ; simp [lk,AV.ren,hρ 0 hM,hρ B hB]
  ·have hn:plcs row (min c1 c2) (max r1 r2) (max c1 c2)=[]:=by unfold plcs; rw [zr_nil (show max r1 r2 < row by omega)]; rfl
   rw [hn] at g3 g4
   have hRa:a=R:=g4
   subst hRa
   simp -dsimp -implicitDefEqProofs (maxSteps:=1000000) (disch:=omega) [ST,S171,q1,hr,-fin0]
   exact nrm_fin (h3 _ _ g3)
end Go.Vai
namespace Go.Vai
variable {m:Int} {e3 e4:Value}
theorem callOp_of {rf:RF} {f:FuncId} {xs:List AV} {st:St} {ns:List Nat} {xs':List AV} {bl:List (Option Blk)} {r:AV} {bl':List (Option Blk)} (h1:clos st.hp 1000 (AV.namesL xs) []=ns) (h2:AV.renL (idx ns) xs=xs') (h3:blks st.hp (idx ns) ns=bl) (h4:rf f xs' bl=some (r,bl')) :
 callOp rf f xs st=some (r.ren (fun j => some (backName ns st.nx j)),backHp ns st.nx (fun j => some (backName ns st.nx j)) 0 bl',bl'.length - ns.length):=by
 subst h1
 unfold callOp
 simp only [h2,h3,h4]
theorem yldOp_of {rf:RF} {b:Nat} {xs:List AV} {sl:List (Nat × AV)} {hp:HW} {nx:Nat} {pf:FuncId} {caps:List (Nat × AV)} {ns:List Nat} {xs':List AV} {bl:List (Option Blk)} {bl':List (Option Blk)} (h0:hk hp b=some (.loop pf caps none)) (h1:clos ((b,none) :: hp) 1000 (AV.namesL (capE caps :: xs)) []=ns) (h2:AV.renL (idx ns) (capE caps :: xs)=xs') (h3:blks ((b,none) :: hp) (idx ns) ns=bl) (h4:rf pf xs' bl=some (.tup [],bl')) :
 yldOp rf b xs ⟨sl,hp,nx⟩=some (.fz (.sc (.bool true)),backHp ns nx (fun j => some (backName ns nx j)) 0 bl' ++ [(b,some (.loop pf caps none))],bl'.length - ns.length):=by
 unfold yldOp
 simp only [h0]
 rw [callOp_of h1 h2 h3 h4]
 rfl
def plBk (f:Bool) (x:WS) (n:Nat) (O:List Int) (nd:Nd):List (Option Blk):=some (.loop 7053435 [(1,.bp 1 0),(4,.bp 13 0)] none) :: some (.box [.yl 2]) :: some (.loop 499754 [(2,.bp 3 0),(5,.bp 11 0)] none) :: some (.box [.bp 4 0]) :: (wBb 4 x ++ (match f with
 | false => [some (.box [.osl 12 1 0 n]),some (.arr 1 (O.map eIn)),some (.box [bo false]),some (.box ((eNd nd).map .fz))]
 | true => [some (.box [.osl 15 1 0 n]),none,some (.box [bo false]),some (.box ((eNd nd).map .fz)),some (.arr 1 (O.map eIn))]))
def addO (O:List Int):Option Nat→List Int
 | some i => O ++ [(i:Int)]
 | none => O
theorem pl_ff (x:WS) (O:List Int) (k n:Int) (t:List UInt8) (r1 c1 r2 c2:Int) (l:List Nd) (a b:Int) (hO:O.length≤1000000000) (h:ixF a b x.cells=none):YStep (W m e3 e4).run 15 (plBk false x O.length O (.mk k n t r1 c1 r2 c2 l)) (plBk false x O.length O (.mk k n t r1 c1 r2 c2 l)) (pl a b):=by
 intro sl nx hn
 subst hn
 have hr:=run_pround (m:=m) (e3:=e3) (e4:=e4) x O a b hO
 rw [h] at hr
 refine ⟨_,_,yldOp_of (pf:=7053435) (caps:=[(1,.bp 1 0),(4,.bp 13 0)]) (ns:=[1,2,3,4,5,6,7,8,9,10,11,12,13]) (by kernel_rfl) (by kernel_rfl) (by kernel_rfl) (by kernel_rfl) hr,[],by kernel_rfl,by kernel_rfl⟩
theorem pl_ft (x:WS) (O:List Int) (k n:Int) (t:List UInt8) (r1 c1 r2 c2:Int) (l:List Nd) (a b:Int) (hO:O.length≤1000000000) (j:Nat) (h:ixF a b x.cells=some j):YStep (W m e3 e4).run 15 (plBk false x O.length O (.mk k n t r1 c1 r2 c2 l)) (plBk true x (O.length + 1) (O ++ [(j:Int)]) (.mk k n t r1 c1 r2 c2 l)) (pl a b):=by
 intro sl nx hn
 subst hn
 have hr:=run_pround (m:=m) (e3:=e3) (e4:=e4) x O a b hO
 rw [h] at hr
 refine ⟨_,_,yldOp_of (pf:=7053435) (caps:=[(1,.bp 1 0),(4,.bp 13 0)]) (ns:=[1,2,3,4,5,6,7,8,9,10,11,12,13]) (by kernel_rfl) (by kernel_rfl) (by kernel_rfl) (by kernel_rfl) hr,[30],by kernel_rfl,by kernel_rfl⟩
theorem pl_tf (x:WS) (O:List Int) (k n:Int) (t:List UInt8) (r1 c1 r2 c2:Int) (l:List Nd) (a b:Int) (hO:O.length≤1000000000) (h:ixF a b x.cells=none):YStep (W m e3 e4).run 15 (plBk true x O.length O (.mk k n t r1 c1 r2 c2 l)) (plBk true x O.length O (.mk k n t r1 c1 r2 c2 l)) (pl a b):=by
 intro sl nx hn
 subst hn
 have hr:=run_pround (m:=m) (e3:=e3) (e4:=e4) x O a b hO
 rw [h] at hr
 refine ⟨_,_,yldOp_of (pf:=7053435) (caps:=[(1,.bp 1 0),(4,.bp 13 0)]) (ns:=[1,2,3,4,5,6,7,8,9,10,11,15,13]) (by kernel_rfl) (by kernel_rfl) (by kernel_rfl) (by kernel_rfl) hr,[15],by kernel_rfl,by kernel_rfl⟩
theorem pl_tt (x:WS) (O:List Int) (k n:Int) (t:List UInt8) (r1 c1 r2 c2:Int) (l:List Nd) (a b:Int) (hO:O.length≤1000000000) (j:Nat) (h:ixF a b x.cells=some j):YStep (W m e3 e4).run 15 (plBk true x O.length O (.mk k n t r1 c1 r2 c2 l)) (plBk true x (O.length + 1) (O ++ [(j:Int)]) (.mk k n t r1 c1 r2 c2 l)) (pl a b):=by
 intro sl nx hn
 subst hn
 have hr:=run_pround (m:=m) (e3:=e3) (e4:=e4) x O a b hO
 rw [h] at hr
 refine ⟨_,_,yldOp_of (pf:=7053435) (caps:=[(1,.bp 1 0),(4,.bp 13 0)]) (ns:=[1,2,3,4,5,6,7,8,9,10,11,15,13]) (by kernel_rfl) (by kernel_rfl) (by kernel_rfl) (by kernel_rfl) hr,[31],by kernel_rfl,by kernel_rfl⟩
end Go.Vai
namespace Go.Vai
theorem mem_insZ {c d:Int} : ∀ {l:List Int},d∈insZ c l↔d=c∨d∈l
 | [] => by simp [insZ]
 | e :: r => by
  rw [insZ]
  split
  ·simp
  ·simp only [List.mem_cons,mem_insZ (l:=r)]
   exact ⟨fun h => by rcases h with h | h | h <;> simp [h],fun h => by rcases h with h | h | h <;> simp [h]⟩
theorem mem_sortZ {d:Int} : ∀ {l:List Int},d∈sortZ l↔d∈l
 | [] => by simp [sortZ]
 | e :: r => by simp [sortZ,mem_insZ,mem_sortZ (l:=r)]
theorem mem_cmp {d:Int} : ∀ {l:List Int},d∈cmpZ l↔d∈l
 | [] => by simp [cmpZ]
 | [x] => by simp [cmpZ]
 | x :: y :: t => by
  have ih:=mem_cmp (d:=d) (l:=y :: t)
  rw [cmpZ_two]
  split
  ·rename_i e
   rw [ih,e]
   simp
  ·rw [List.mem_cons,ih,List.mem_cons (a:=d) (b:=x)]
end Go.Vai
