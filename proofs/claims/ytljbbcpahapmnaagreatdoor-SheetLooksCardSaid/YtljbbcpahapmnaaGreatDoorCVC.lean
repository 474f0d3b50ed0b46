/-
  What functions of layer 9 and of its reference compute: equations of the abstract run, and plain laws of them.
-/
import Derived.Test.YtljbbcpahapmnaaGreatDoorCT2
import Derived.Test.YtljbbcpahapmnaaGreatDoorCKB
set_option linter.unusedVariables false
set_option linter.unusedSimpArgs false
set_option linter.unnecessarySimpa false
set_option linter.unusedSectionVars false
namespace Go.Vai
variable {m:Int} {e3 e4:Value}
def adjS (s:Sh) (i:Nat):List Nat:=adjW (wsG s) i
theorem usesG_adj (s:Sh) (i:Nat) (h:i < (takenG s).cells.length):usesG s i=(adjS s i).map fun (n:Nat) => (n:Int):=by
 unfold usesG
 rw [if_pos (by omega),Int.toNat_natCast]
 exact uses_cast _ _
theorem circ_iff (s:Sh) (i:Nat) (h:i < (takenG s).cells.length):(circT (wsG s)).rnd i=true↔Cyc (adjS s) i :=
 marks (N:=(takenG s).cells.length) (adj:=adjW (wsG s)) (fun x _ y hy => adj_lt (wsG s) hy) i h
def eUs (U:List Int):List FV:=[.sl (U.map eIn)]
def S5a (s:Sh) (n:Nat) (l:List Int) (a:(Nat→Bool) × Nat):St:={ sl:=[(1,.bp 0 0),(3,bo true),(4,.osl 1 1 0 n),(5,rwS (l.map eIn)),(6,i64 a.2)],hp:=numd 0 [some (.box [rwS (s.cells.map eCel),rwS (s.wid.map eIn),rwS (s.mac.map eTx)]),some (.arr 1 ((rgB n a.1).map eBo))],nx:=2 }
def S5b (s:Sh) (n:Nat) (f:Nat→Bool) (a:List (List Int)):St:={ sl:=[(1,.bp 0 0),(3,bo true),(4,.osl 1 1 0 n),(7,.osl 2 1 0 a.length),(8,i64 a.length)],hp:=numd 0 [some (.box [rwS (s.cells.map eCel),rwS (s.wid.map eIn),rwS (s.mac.map eTx)]),some (.arr 1 ((rgB n f).map eBo)),some (.arr 1 (a.map eUs))],nx:=3 }
def S5c (n:Nat) (f:Nat→Bool) (LU:List (List Int)) (i:Nat):St:={ sl:=[(3,bo true),(4,.osl 0 1 0 n),(7,.osl 1 1 0 n),(9,i64 i)],hp:=numd 0 [some (.arr 1 ((rgB n f).map eBo)),some (.arr 1 (LU.map eUs))],nx:=2 }
def S5d (n:Nat) (f:Nat→Bool) (LU:List (List Int)) (i:Nat) (a:(Nat→Bool) × List Int × List Int × Bool):St:={ sl:=[(3,bo true),(4,.osl 0 1 0 n),(7,.osl 1 1 0 n),(9,i64 i),(10,.osl 2 1 0 n),(11,.osl 3 1 a.2.1.length a.2.2.1.length),(12,bo a.2.2.2)],hp:=numd 0 [some (.arr 1 ((rgB n f).map eBo)),some (.arr 1 (LU.map eUs)),some (.arr 1 ((rgB n a.1).map eBo)),some (.arr 1 (a.2.1.map eIn ++ a.2.2.1.map eIn))],nx:=4 }
theorem eIn_len (n:Int):(eIn n).length=1:=rfl
theorem rch_lt {adj:Nat→List Nat} {n:Nat} (h : ∀ x,∀ y∈adj x,y < n) {a b:Nat} (hr:Rch adj a b) (ha:a < n):b < n:=by
 induction hr with
 | refl => exact ha
 | step e _ ih => exact ih (h _ _ e)
theorem drop_mid {α:Type} (l:List α) (a:α) (r:List α):(l ++ a :: r).drop (l.length + 1)=r:=by
 rw [List.drop_append,List.drop_of_length_le (by omega),Nat.add_sub_cancel_left]
 rfl
theorem drop_map_mid {α β:Type} (g:α→β) (l:List α) (a:β) (r:List β):(l.map g ++ a :: r).drop (l.length + 1)=r:=by
 have:=drop_mid (l.map g) a r
 rwa [List.length_map] at this
set_option maxHeartbeats 8000000 in
theorem law_looks (s : Sh) (q1 : s.cells.length ≤ 140737488351232) (q2 : s.wid.length ≤ 140737488351232) (q3 : s.mac.length ≤ 140737488351232) (hT : ∀ c ∈ s.cells, c.2.2.length ≤ 140737488351232) (hM : ∀ t ∈ s.mac, t.length ≤ 140737488351232) : (W m e3 e4).run 5 [shA s] [] = some (bo true, []) := by
 have hf:=run_few (m:=m) (e3:=e3) (e4:=e4) s 700 (by decide) q1 q2 q3 hT hM
 by_cases hk:(szSh s:Int)≤700
 ·have hf' : fewB s 700 = true := by unfold fewB; simpa using hk
  rw [hf'] at hf
  have hsm:smSh s:=by unfold smSh; omega
  have hss:=sm_src hsm
  have hri:=run_right (m:=m) (e3:=e3) (e4:=e4) s (by unfold smSh at hsm; omega) (fun c hc => by have:=hss.1 c hc; omega) fun t ht => by have:=hss.2.1 t ht; omega
  cases hr:rightB s with
  | false =>
   rw [hr] at hri
   simp only [shA_mk,rwS] at hf hri ⊢
   refine run_wp (by rw [W_T]; exact rfl) ?_
   simp -dsimp -implicitDefEqProofs (maxSteps:=1000000) (disch:=omega) [ST,run_awake,hf,hri]
  | true =>
   rw [hr] at hri
   have hta:=right_taken hr
   have hci:=run_Circular (m:=m) (e3:=e3) (e4:=e4) s hsm
   have hus : ∀ i:Nat,(W m e3 e4).run 14 [shA s,i64 i] []=some (rwS ((usesG s i).map eIn),[]):=fun i => run_Uses s i hsm
   have hcirc:=circ_iff s
   have huse:=usesG_adj s
   have hadj : ∀ x,∀ y∈adjS s x,y < (takenG s).cells.length:=fun x y hy => adj_lt (wsG s) hy
   have hul : ∀ i:Nat,(usesG s i).length≤100000000:=by
    intro i
    unfold usesG
    split
    ·exact uses_len _ _ (ws_ok s hsm)
    ·simp
   unfold circG at hci
   rw [hta] at hci hcirc huse hadj
   have hn:s.cells.length≤700:=by unfold szSh at hk; omega
   generalize (circT (wsG s)).rnd=cr at *
   obtain ⟨us,hue⟩ : ∃ us:Nat→List Int,∀ i:Nat,usesG s i=us i:=⟨fun i => usesG s i,fun _ => rfl⟩
   simp only [hue] at hus hul huse
   generalize adjS s=adj at *
   obtain ⟨n,hnn⟩ : ∃ n,s.cells.length=n:=⟨_,rfl⟩
   rw [hnn] at hci hcirc huse hadj hn
   obtain ⟨l,hl⟩ : ∃ l,((List.range n).filter fun i => cr i).map (fun (n:Nat) => (n:Int))=l:=⟨_,rfl⟩
   rw [hl] at hci
   have hlm : ∀ i:Nat,(i:Int)∈l↔i < n∧cr i=true:=by
    intro i
    rw [← hl,List.mem_map]
    constructor
    ·rintro ⟨j,hj,e⟩
     have:j=i:=by omega
     subst this
     rw [List.mem_filter,List.mem_range] at hj
     exact hj
    ·rintro ⟨h1,h2⟩
     exact ⟨i,by rw [List.mem_filter,List.mem_range]; exact ⟨h1,h2⟩,rfl⟩
   have hll : ∀ z∈l,∃ k:Nat,k < n∧z=k:=by
    intro z hz
    rw [← hl] at hz
    obtain ⟨j,hj,rfl⟩:=List.mem_map.1 hz
    rw [List.mem_filter,List.mem_range] at hj
    exact ⟨j,hj.1,rfl⟩
   have hls:l.Pairwise (· < ·):=by
    rw [← hl]
    refine List.pairwise_map.2 ((List.pairwise_lt_range.filter _).imp fun {a b} h => by omega)
   have hlen:l.length≤n:=by
    rw [← hl,List.length_map]
    have:=List.length_filter_le (fun i => cr i) (List.range n)
    rwa [List.length_range] at this
   have hrep:List.replicate n [FV.sc (.bool false)]=(rgB n fun _ => false).map eBo:=by rw [rgB_rep,List.map_replicate]; rfl
   simp only [shA_mk,rwS] at hf hri hci hus ⊢
   refine run_wp (by rw [W_T]; exact rfl) ?_
   simp -dsimp -implicitDefEqProofs (maxSteps:=1000000) (disch:=omega) [ST,run_awake,hf,hri,hci,hnn,hrep]
   refine wp_inv (S5a s n l) (fun a => a.2≤l.length∧∀ k,a.1 k=decide ((k:Int)∈l.take a.2)) (fun a => l.length - a.2) (fun _ => false,0) ⟨by simp,by simp⟩ (by kernel_rfl) ?_
   rintro ⟨f,i⟩ ⟨g1,g2⟩
   simp only at g1 g2
   by_cases hi:i < l.length
   ·obtain ⟨z,hz⟩ : ∃ z,l[i]? = some z:=⟨_,List.getElem?_eq_getElem hi⟩
    obtain ⟨k,hk,rfl⟩:=hll z (List.mem_of_getElem? hz)
    have hz' : ∀ h:i < l.length,l[i]=(k:Int):=fun h => (List.getElem?_eq_some_iff.1 hz).2
    have hnk : ∀ j,updT f k true j=decide ((j:Int)∈l.take (i + 1)):=by
     intro j
     rw [List.take_add_one,hz]
     by_cases hj:j=k
     ·subst hj; simp [updT]
     ·simp only [updT,if_neg hj,g2,Option.toList_some,List.mem_append,List.mem_singleton]
      apply decide_eq_decide.2
      exact ⟨.inl,fun h => h.elim id fun e => absurd (by omega:j=k) hj⟩
    by_cases hi0:0 < i
    ·obtain ⟨y,hy⟩ : ∃ y,l[i - 1]? = some y:=⟨_,List.getElem?_eq_getElem (by omega)⟩
     have hy' : ∀ h:i - 1 < l.length,l[i - 1]=y:=fun h => (List.getElem?_eq_some_iff.1 hy).2
     have hlt : ¬ (k:Int)≤y:=by
      have:=List.pairwise_iff_getElem.1 hls (i - 1) i (by omega) hi (by omega)
      rw [hy' (by omega),hz' hi] at this
      omega
     have hi1:((i:Int) - 1).toNat=i - 1:=by omega
     simp -dsimp -implicitDefEqProofs (maxSteps:=1000000) (disch:=omega) [ST,S5a,rwS,hi,hz,hz',hk,rgB_set,rgB_len,rgB_getE,eIn,eBo,hi0,hy,hy',hlt,hi1,show 1≤(i:Int) by omega,show i - 1 < l.length by omega]
     refine again (updT f k true,i + 1) ⟨by simp only; omega,hnk⟩ (by simp only; omega) (by kernel_rfl)
    ·simp -dsimp -implicitDefEqProofs (maxSteps:=1000000) (disch:=omega) [ST,S5a,rwS,hi,hz,hz',hk,rgB_set,rgB_len,rgB_getE,eIn,eBo,hi0]
     refine again (updT f k true,i + 1) ⟨by simp only; omega,hnk⟩ (by simp only; omega) (by kernel_rfl)
   ·obtain rfl : i = l.length := by omega
    rw [List.take_length] at g2
    have hfc : ∀ k,k < n→f k=cr k:=by
     intro k hk
     rw [g2,Bool.eq_iff_iff,decide_eq_true_eq,hlm]
     exact ⟨fun h => h.2,fun h => ⟨hk,h⟩⟩
    simp -dsimp -implicitDefEqProofs (maxSteps:=1000000) (disch:=omega) [ST,S5a,rwS,hi]
    refine wp_inv (S5b s n f) (fun a => a.length≤n∧a=(List.range a.length).map fun j => us j) (fun a => n - a.length) [] ⟨by simp,by simp⟩ (by kernel_rfl) ?_
    rintro LU ⟨u1,u2⟩
    by_cases hu:LU.length < n
    ·have hux:=hus LU.length
     obtain ⟨LV,hLV⟩ : ∃ LV,LU ++ [us LU.length]=LV:=⟨_,rfl⟩
     have hLl:LV.length=LU.length + 1:=by rw [← hLV]; simp
     have hLm:LU.map eUs ++ [[.sl ((us LU.length).map eIn)]]=LV.map eUs:=by rw [← hLV,List.map_append]; rfl
     have hLs:LV=(List.range LV.length).map fun j => us j:=by
      rw [hLl,List.range_succ,List.map_append,← u2,← hLV]; rfl
     simp -dsimp -implicitDefEqProofs (maxSteps:=1000000) (disch:=omega) [ST,S5b,rwS,hnn,hu,hux,hLm]
     refine again LV ⟨by omega,hLs⟩ (by omega) ?_
     rw [S5b,hLl]
     kernel_rfl
    ·have hLn : LU.length = n := by omega
     simp -dsimp -implicitDefEqProofs (maxSteps:=1000000) (disch:=omega) [ST,S5b,rwS,hnn,hLn]
     have hLi : ∀ j,j < n→LU[j]? = some (us j):=by
      intro j hj
      rw [u2,List.getElem?_map,List.getElem?_range (by omega)]; rfl
     have htk7:(LU.map eUs).take n=LU.map eUs:=List.take_of_length_le (by simp [hLn])
     clear u2
     refine wp_inv (S5c n f LU) (fun i => i≤n) (fun i => n - i) 0 (by omega) ?_ ?_
     ·simp -dsimp -implicitDefEqProofs (maxSteps:=1000000) (disch:=omega) [ST,htk7,hLn]
      kernel_rfl
     ·intro i hi
      by_cases hin:i < n
      ·have hLii := hLi i hin
       have hLii' : ∀ h:i < LU.length,LU[i]=us i:=fun h => (List.getElem?_eq_some_iff.1 hLii).2
       have hui:=huse i hin
       have huil:=hul i
       have hbw:bWt adj n (fun _ => false)≤700 * 100000000:=by
        unfold bWt
        have key : ∀ L:List Nat,(∀ z∈L,z < n)→(L.map fun x => if (fun _ => false) x=true then 0 else (adj x).length).sum≤L.length * 100000000:=by
         intro L
         induction L with
         | nil => simp
         | cons a r ih =>
          intro hz
          have h1:=ih fun z hzz => hz z (by simp [hzz])
          have h2:=hul a
          rw [huse a (hz a (by simp)),List.length_map] at h2
          simp only [List.map_cons,List.sum_cons,List.length_cons,Nat.succ_mul,Bool.false_eq_true,if_false] at h1 ⊢
          omega
        have:=key (List.range n) fun z hz => List.mem_range.1 hz
        rw [List.length_range] at this
        exact Nat.le_trans this (Nat.mul_le_mul_right _ hn)
       simp -dsimp -implicitDefEqProofs (maxSteps:=1000000) (disch:=omega) [ST,S5c,rwS,hLii,hLii',hin,hLn,eUs,hrep,htk7,eIn_len]
       refine wp_inv (S5d n f LU i) (fun a => (∃ o:List Nat,a.2.2.1=o.map (fun (n:Nat) => (n:Int))∧BInv adj i o a.1)∧a.2.2.2=a.1 i∧a.2.2.1.length + bWt adj n a.1≤(us i).length + bWt adj n (fun _ => false)) (fun a => a.2.2.1.length + bWt adj n a.1) (fun _ => false,[],us i,false) ⟨⟨adj i,hui,b_begin i⟩,rfl,Nat.le_refl _⟩ ?_ ?_
       ·simp -dsimp -implicitDefEqProofs (maxSteps:=1000000) (disch:=omega) [ST,htk7,hLn]
        kernel_rfl
       ·rintro ⟨sn,pre,op,bk⟩ ⟨⟨o,ho,hb⟩,hbk,hw⟩
        simp only at ho hb hbk hw
        subst hbk
        cases o with
        | nil =>
         have hop:op=[]:=ho
         subst hop
         have hfi:sn i=f i:=by
          rw [hfc i hin,Bool.eq_iff_iff,hcirc i hin]
          exact b_end hb
         simp -dsimp -implicitDefEqProofs (maxSteps:=1000000) (disch:=omega) [ST,S5d,rwS,hin,rgB_getE,rgB_get,eBo,hfi]
         refine again (i + 1) (by omega) (by omega) ?_
         kernel_rfl
        | cons x r =>
         obtain ⟨R,hR⟩ : ∃ R:List Int,r.map (fun (n:Nat) => (n:Int))=R:=⟨_,rfl⟩
         have hop:op=(x:Int) :: R:=by rw [ho,List.map_cons,hR]
         subst hop
         have hRl:R.length=r.length:=by rw [← hR,List.length_map]
         have hxn:x < n:=by
          obtain ⟨y,hy,hrc⟩:=hb.r1 x (by simp)
          exact rch_lt hadj hrc (hadj i y hy)
         have hLx:=hLi x hxn
         have hLx' : ∀ h:x < LU.length,LU[x]=us x:=fun h => (List.getElem?_eq_some_iff.1 hLx).2
         simp only [List.length_cons] at hw
         by_cases hsx:sn x=true
         ·obtain ⟨P2,hP2⟩ : ∃ P2,pre ++ [(x:Int)]=P2:=⟨_,rfl⟩
          have hP2l:P2.length=pre.length + 1:=by rw [← hP2]; simp
          have hP2m:pre.map eIn ++ [FV.sc (.int .i64 (x:Int))] :: R.map eIn=P2.map eIn ++ R.map eIn:=by rw [← hP2]; simp [eIn]
          have hold:=b_old hb hsx
          have hbk2:(sn i || decide (x=i))=sn i:=by
           by_cases e:x=i
           ·subst e; rw [hsx]; rfl
           ·simp [e]
          by_cases hsi:sn i=true
          ·simp -dsimp -implicitDefEqProofs (maxSteps:=1000000) (disch:=omega) [ST,S5d,rwS,hxn,rgB_getE,rgB_get,eBo,eIn,hsx,hsi,slc_l]
           refine again (sn,P2,R,true) ⟨⟨r,hR.symm,hold⟩,hsi.symm,by simp only; omega⟩ (by simp only [List.length_cons]; omega) ?_
           rw [hP2m,S5d]
           simp only
           rw [hP2l]
           kernel_rfl
          ·have hxi : ¬ x=i:=fun e => hsi (e ▸ hsx)
           have hsi':sn i=false:=Bool.eq_false_iff.2 hsi
           simp -dsimp -implicitDefEqProofs (maxSteps:=1000000) (disch:=omega) [ST,S5d,rwS,hxn,rgB_getE,rgB_get,eBo,eIn,hsx,hsi',hxi,slc_l]
           refine again (sn,P2,R,false) ⟨⟨r,hR.symm,hold⟩,hsi'.symm,by simp only; omega⟩ (by simp only [List.length_cons]; omega) ?_
           rw [hP2m,S5d]
           simp only
           rw [hP2l]
           kernel_rfl
         ·have hsx':sn x=false:=Bool.eq_false_iff.2 hsx
          have hnew:=b_new hb hsx'
          have hwt:=b_wt (adj:=adj) hxn hsx'
          have hux:=huse x hxn
          have huxm:=hul x
          have hpl1:pre.length + 1 + R.length≤pre.length + (R.length + 1):=by omega
          have huxl:(us x).length=(adj x).length:=by rw [hux,List.length_map]
          obtain ⟨O2,hO2⟩ : ∃ O2,R ++ us x=O2:=⟨_,rfl⟩
          have hO2l:O2.length=R.length + (us x).length:=by rw [← hO2]; simp
          have hO2m:R.map eIn ++ (us x).map eIn=O2.map eIn:=by rw [← hO2]; simp
          have hO2o:O2=(r ++ adj x).map (fun (n:Nat) => (n:Int)):=by rw [List.map_append,hR,← hux,hO2]
          have hbk3 : ∀ b:Bool,b=(sn i || decide (x=i))→b=updT sn x true i:=by
           rintro b rfl
           by_cases e:x=i
           ·subst e; simp [updT]
           ·have e' : ¬ i=x:=fun h => e h.symm
            simp [updT,e,e']
          by_cases hsi:sn i=true
          ·simp -dsimp -implicitDefEqProofs (maxSteps:=1000000) (disch:=omega) [ST,S5d,rwS,hxn,rgB_getE,rgB_get,rgB_set,eBo,eIn,hsx',hsi,slc_l,drop_map_mid,hLx,hLx',hLn,eUs,hO2m,eIn_len,hpl1]
           refine again (updT sn x true,[],O2,true) ⟨⟨r ++ adj x,hO2o,hnew⟩,hbk3 _ (by rw [hsi]; rfl),by simp only; omega⟩ (by simp only [List.length_cons]; omega) ?_
           rw [S5d]
           simp only
           rw [hO2l]
           kernel_rfl
          ·have hsi':sn i=false:=Bool.eq_false_iff.2 hsi
           by_cases hxi:x=i
           ·subst hxi
            simp -dsimp -implicitDefEqProofs (maxSteps:=1000000) (disch:=omega) [ST,S5d,rwS,hxn,rgB_getE,rgB_get,rgB_set,eBo,eIn,hsx',slc_l,drop_map_mid,hLx,hLx',hLn,eUs,hO2m,eIn_len,hpl1]
            refine again (updT sn x true,[],O2,true) ⟨⟨r ++ adj x,hO2o,hnew⟩,hbk3 _ (by simp),by simp only; omega⟩ (by simp only [List.length_cons]; omega) ?_
            rw [S5d]
            simp only
            rw [hO2l]
            kernel_rfl
           ·simp -dsimp -implicitDefEqProofs (maxSteps:=1000000) (disch:=omega) [ST,S5d,rwS,hxn,rgB_getE,rgB_get,rgB_set,eBo,eIn,hsx',hsi',hxi,slc_l,drop_map_mid,hLx,hLx',hLn,eUs,hO2m,eIn_len,hpl1]
            refine again (updT sn x true,[],O2,false) ⟨⟨r ++ adj x,hO2o,hnew⟩,hbk3 _ (by simp [hxi,hsi']),by simp only; omega⟩ (by simp only [List.length_cons]; omega) ?_
            rw [S5d]
            simp only
            rw [hO2l]
            kernel_rfl
      ·obtain rfl:i=n:=by omega
       simp -dsimp -implicitDefEqProofs (maxSteps:=1000000) (disch:=omega) [ST,S5c,rwS,hLn]
 ·have hf':fewB s 700=false:=by unfold fewB; simpa using hk
  rw [hf'] at hf
  simp only [shA_mk,rwS] at hf ⊢
  refine run_wp (by rw [W_T]; exact rfl) ?_
  simp -dsimp -implicitDefEqProofs (maxSteps:=1000000) (disch:=omega) [ST,run_awake,hf]
end Go.Vai
