/-
  What functions of layer 9 and of its reference compute: equations of the abstract run, and plain laws of them.
-/
import Derived.Test.YtljbbcpahapmnaaGreatDoorCKD
set_option linter.unusedVariables false
set_option linter.unusedSimpArgs false
set_option linter.unnecessarySimpa false
set_option linter.unusedSectionVars false
namespace Go.Vai
open Go.Proofs Go.Shelf Go.RowKit Go.Lib Go.Sort
def scR (rows:List (List Value)):List (List FV):=rows.map fun r => r.map .sc
def RowsAt (c:Array Value) (d sz:Nat) (rows:List (List Value)):Prop := ∀ (i:Nat) (r:List Value) (j:Nat) (v:Value),rows[i]? = some r→r[j]? = some v→c[d + (i * sz + j)]? = some v
theorem hk1 {x:Option Blk} {b:Nat} {blk:Blk} (h:hk (numd 0 [x]) b=some blk):b=0∧x=some blk:=by
 simp only [numd,hk] at h
 split at h
 ·rename_i e; exact ⟨e.symm,h⟩
 ·cases h
theorem rf_of_turn {P:Program} {G:Nat→Option (List FV)} {f:FuncId} {sz:Nat} {rows rows':List (List Value)} {ext:List AV} {extv:List Value}
 (hlen:rows'.length=rows.length) (hsz' : ∀ r∈rows',r.length=sz) (hleaf' : ∀ r∈rows',∀ v∈r,leafV v=true)
 (hext : ∀ (σ:Nat→Option Loc) (h:PH) (vs:List Value),ext.length=vs.length→(∀ (i:Nat) (x:AV) (v:Value),ext[i]? = some x→vs[i]? = some v→VR σ h x v)→vs=extv)
 (H0:rows=[]→∀ w A cap,Does P f (Value.slice A 0 cap :: extv).toArray w fun e w' => e=.returned (.tuple #[])∧w'=w)
 (H:rows≠[]→∀ w k d cap c t z,w.heap[k]? = some (.cells c t z)→NoFz c z→RowsAt c d sz rows→rows.length≤cap→d + cap * sz≤c.size→Does P f (Value.slice (some ⟨k,d,none⟩) rows.length cap :: extv).toArray w fun e w' =>
   e=.returned (.tuple #[])∧∃ c',w'.heap[k]? = some (.cells c' t z)∧c'.size=c.size∧RowsAt c' d sz rows'∧w.heap.size≤w'.heap.size∧(∀ i,i < w.heap.size→i≠k→w'.heap[i]? = w.heap[i]?)∧w'.os=w.os∧w'.tape=w.tape∧w'.output=w.output) :
 [some (Blk.arr sz (scR rows))].length≤[some (Blk.arr sz (scR rows'))].length ∧
 ∀ (w:World) (vs:List Value),Told P G (fun _ => False) (.osl 0 sz 0 rows.length :: ext) [some (Blk.arr sz (scR rows))] (.tup []) [some (Blk.arr sz (scR rows'))] w vs (Does P f vs.toArray w):=by
 refine ⟨Nat.le_refl _,fun w vs C σ hG hrc hw hown hfr HR hl hv K hK => ?_⟩
 match vs,hl with
 | u1 :: vr, hl =>
  have hu1:=hv 0 _ u1 rfl rfl
  obtain rfl:=hext σ _ vr (by simpa using hl) (fun i x v e1 e2 => hv (i + 1) x v (by simpa using e1) (by simpa using e2))
  by_cases hne:rows=[]
  ·subst hne
   obtain rfl:rows'=[]:=by simpa using hlen
   have hsl : ∃ A cap,u1=.slice A 0 cap:=by
    generalize hN:([]:List (List Value)).length=N at hu1
    cases hu1 with
    | vir _ _ _ A h => exact ⟨A,0,rfl⟩
    | osl _ _ _ _ k' d' nn a cap h1 h2 h3 h4 => simp at hN; subst hN; exact ⟨some a,cap,rfl⟩
   obtain ⟨A,cap,rfl⟩:=hsl
   refine (H0 rfl w A cap).mono ?_
   rintro ex w' ⟨rfl,rfl⟩
   exact hK (.tuple #[]) σ _ (.tup [] [] rfl fun i x v e => by simp at e) HR (fun _ _ => rfl) hfr
  ·have hpos:0 < rows.length:=List.length_pos_iff.2 hne
   have B:=HR.bk 0 _ rfl
   generalize hE:scR rows=es at B
   cases B with
   | vir sz h => simp [scR] at hE; exact absurd hE hne
   | arr _ _ k d c t z g1 g2 g3 g4 g5 =>
    subst hE
    have hklt:k < w.heap.size:=(Array.getElem?_eq_some_iff.1 g2).1
    generalize hN:rows.length=N at hu1
    cases hu1 with
    | vir _ _ _ A h => rw [g1] at h; cases h
    | osl _ _ _ _ k' d' nn a cap h1 h2 h3 h4 =>
     rw [g1] at h1
     injection h1 with h1
     injection h1 with q1 q2 q3 q4
     subst q1; subst q2; subst q3
     subst hN
     have hcap : ¬ cap=0:=by omega
     have ha:=h3.resolve_left hcap
     simp only [Nat.zero_mul,Nat.add_zero] at ha h4
     subst ha
     have hat:RowsAt c d sz rows:=by
      intro i r j v e1 e2
      obtain ⟨v',p1,p2⟩:=g5 i (r.map .sc) j (.sc v) (by simp [scR,e1]) (by simp [e2])
      have:=VR.sc_inv (σ:=σ) (.fz _ _ p2)
      subst this
      exact p1
     refine (H hne w k d cap c t z g2 g3 hat h2 h4).mono ?_
     rintro ex w' ⟨rfl,c',p1,p2,p3,p4,p5,p6,p7,p8⟩
     refine hK (.tuple #[]) σ _ (.tup [] [] rfl fun i x v e => by simp at e) ?_ (fun _ _ => rfl) hfr
     have hF:=HR.fr
     refine (HR.step (fun i => i=k) (SLe.refl σ) ⟨?_,?_,?_,?_,?_⟩ p4 (fun i hi hne => p5 i hi hne) (fun i hi _ => hi ▸ ⟨0,_,rfl,.at _ _ _ _ _ g1⟩) ?_ ?_ ?_).1
     ·exact Nat.le_trans hF.size p4
     ·intro i hi hno
      have hik:i≠k:=by
       rintro rfl
       rcases (HR.ow 0 i ⟨_,rfl,.at _ _ _ _ _ g1⟩).2.2 with h | h
       ·exact hno h
       ·omega
      rw [p5 i (by have:=hF.size; omega) hik]
      exact hF.keep i hi hno
     ·rw [p6]; exact hF.os
     ·rw [p7]; exact hF.tape
     ·rw [p8]; exact hF.output
     ·rintro b' i ⟨blk,hb1,hb2⟩
      obtain ⟨rfl,hb3⟩:=hk1 hb1
      injection hb3 with hb3
      subst hb3
      cases hb2 with
      | «at» _ _ d2 n2 sz2 h =>
       rw [g1] at h
       injection h with h
       injection h with q1
       subst q1
       exact ⟨by omega,.inl ⟨0,_,rfl,.at _ _ _ _ _ g1⟩⟩
     ·rintro b1 b2 i ⟨blk1,hb1,_⟩ ⟨blk2,hb2,_⟩
      rw [(hk1 hb1).1,(hk1 hb2).1]
     ·intro b' blk hb
      refine .inr fun hle => ?_
      obtain ⟨rfl,hb3⟩:=hk1 hb
      injection hb3 with hb3
      subst hb3
      refine .arr sz _ k d c' t z (by rw [p2]; exact g1) p1 (by rcases g3 with h | h; exact .inl h; exact .inr (by omega)) (fun i cl e => ?_) fun i cl j x e1 e2 => ?_
      ·simp only [scR,List.getElem?_map] at e
       obtain ⟨r,hr,rfl⟩:=Option.map_eq_some_iff.1 e
       simpa using hsz' r (List.mem_of_getElem? hr)
      ·simp only [scR,List.getElem?_map] at e1
       obtain ⟨r,hr,rfl⟩:=Option.map_eq_some_iff.1 e1
       rw [List.getElem?_map] at e2
       obtain ⟨v,hv2,rfl⟩:=Option.map_eq_some_iff.1 e2
       exact ⟨v,p3 i r j v hr hv2,.sc v (hleaf' r (List.mem_of_getElem? hr) v (List.mem_of_getElem? hv2))⟩
theorem insZ_perm (c:Int) : ∀ l,(insZ c l).Perm (c :: l)
 | [] => List.Perm.refl _
 | d :: r => by
  unfold insZ
  split
  ·exact List.Perm.refl _
  ·exact ((insZ_perm c r).cons d).trans (List.Perm.swap _ _ _)
theorem sortZ_perm : ∀ l,(sortZ l).Perm l
 | [] => List.Perm.refl _
 | c :: r => (insZ_perm c _).trans ((sortZ_perm r).cons c)
theorem insZ_sorted (c:Int) : ∀ l,l.Pairwise (·≤·)→(insZ c l).Pairwise (·≤·)
 | [],_ => by simp [insZ]
 | d :: r, h => by
  rw [List.pairwise_cons] at h
  unfold insZ
  split
  ·rename_i hc
   rw [List.pairwise_cons]
   refine ⟨fun x hx => ?_,List.pairwise_cons.2 h⟩
   rcases List.mem_cons.1 hx with rfl | hx
   ·exact hc
   ·have:=h.1 x hx; omega
  ·rw [List.pairwise_cons]
   refine ⟨fun x hx => ?_,insZ_sorted c r h.2⟩
   rcases List.mem_cons.1 ((insZ_perm c r).subset hx) with rfl | hx
   ·omega
   ·exact h.1 x hx
theorem sortZ_sorted : ∀ l,(sortZ l).Pairwise (·≤·)
 | [] => List.Pairwise.nil
 | c :: r => insZ_sorted c _ (sortZ_sorted r)
theorem le_uniq : ∀ {l k:List Int},l.Perm k→l.Pairwise (·≤·)→k.Pairwise (·≤·)→l=k
 | [],k,hp,_,_ => (List.nil_perm.1 hp).symm
 | a :: l,[],hp,_,_ => by have:=hp.length_eq; simp at this
 | a :: l, b :: k, hp, h1, h2 => by
  have ha:a∈b :: k:=hp.subset (by simp)
  have hb:b∈a :: l:=hp.symm.subset (by simp)
  rw [List.pairwise_cons] at h1 h2
  have e:a=b:=by
   rcases List.mem_cons.1 ha with rfl | ha
   ·rfl
   ·rcases List.mem_cons.1 hb with rfl | hb
    ·rfl
    ·have:=h1.1 b hb; have:=h2.1 a ha; omega
  subst e
  rw [le_uniq (List.perm_cons a |>.1 hp) h1.2 h2.2]
theorem sortZ_merge (l:List Int):(l.mergeSort fun x y => decide (x≤y))=sortZ l :=
 le_uniq ((List.mergeSort_perm _ _).trans (sortZ_perm l).symm) ((List.pairwise_mergeSort (le:=fun a b:Int => decide (a≤b)) (fun a b c h1 h2 => by simp at *; omega) (fun a b => by simp; omega) l).imp (by simp)) (sortZ_sorted l)
theorem intsOf_some : ∀ {es:List (List FV)} {l:List Int},intsOf es=some l→es=scR (l.map fun z => [Value.int .i64 z])
 | [],l,h => by simp [intsOf] at h; subst h; rfl
 | e :: r, l, h => by
  unfold intsOf at h
  split at h
  ·rename_i e1; cases e1
  ·rename_i a r' e1
   injection e1 with e1 e2
   subst e1; subst e2
   obtain ⟨ys,h1,rfl⟩:=Option.map_eq_some_iff.1 h
   rw [intsOf_some h1]
   rfl
  ·cases h
theorem enters112 : ∀ args w,(callFunc 89 args).run Tryz.prog w=.ok (.enter 89 args) w:=fun args w => enters_of Tryz.func89 (by kernel_rfl) rfl args w
theorem enters61 : ∀ args w,(callFunc 102 args).run Tryz.prog w=.ok (.enter 102 args) w:=fun args w => enters_of Tryz.func102 (by kernel_rfl) rfl args w
theorem ints_turn {G:Nat→Option (List FV)} (l:List Int) (hl:l.length < 4611686018427387904) :
 [some (Blk.arr 1 (scR (l.map fun z => [Value.int .i64 z])))].length≤[some (Blk.arr 1 (scR ((sortZ l).map fun z => [Value.int .i64 z])))].length ∧
 ∀ (w:World) (vs:List Value),Told Tryz.prog G (fun _ => False) [.osl 0 1 0 l.length] [some (Blk.arr 1 (scR (l.map fun z => [Value.int .i64 z])))] (.tup []) [some (Blk.arr 1 (scR ((sortZ l).map fun z => [Value.int .i64 z])))] w vs (Does Tryz.prog 89 vs.toArray w):=by
 have hll:(sortZ l).length=l.length:=(sortZ_perm l).length_eq
 have := rf_of_turn (P := Tryz.prog) (G := G) (f := 89) (sz := 1) (rows := l.map fun z => [Value.int .i64 z]) (rows' := (sortZ l).map fun z => [Value.int .i64 z]) (ext := []) (extv := [])
  (by simp [hll]) (by intro r hr; obtain ⟨z,_,rfl⟩:=List.mem_map.1 hr; rfl) (by intro r hr v hv; obtain ⟨z,_,rfl⟩:=List.mem_map.1 hr; simp at hv; subst hv; rfl)
  (by intro σ h vs hl _; simpa using hl.symm)
  (fun he w A cap => .inl ⟨enters112 _ _,Tryz.slices_Sort_int_none A cap w⟩)
  (fun hne w k d cap c t z g2 g3 hat hcap hd => by
    have hklt:k < w.heap.size:=(Array.getElem?_eq_some_iff.1 g2).1
    have hcell : ∀ (i:Nat) (x:Int),l[i]? = some x→c[d + i]? = some (.int .i64 x):=by
     intro i x hx
     have:=hat i [.int .i64 x] 0 _ (by simp [hx]) rfl
     simpa using this
    have hH:Holds (Value.int .i64) w k d l.toArray:=by
     intro j hj
     have hj':j < l.length:=by simpa using hj
     have e:=hcell j l[j] (by simp [hj'])
     have hjc:d + j < c.size:=(Array.getElem?_eq_some_iff.1 e).1
     refine ⟨?_,?_⟩
     ·rw [cell_block g2,e,getElem!_pos _ j hj]
      simp
     ·have:=g3.no (d + j) hjc
      simp only [World.frozen?,g2]
      simp; omega
    have hS:=Tryz.slices_Sort_int k d cap l w hH hklt hl
    simp only [List.length_map] at hcap ⊢
    refine .inl ⟨enters112 _ _,hS.mono ?_⟩
    rintro ex w' ⟨rfl,n,os,rfl⟩
    have hg : ∀ i,i < w.heap.size→(grow (putRow (Value.int .i64) (Sort.ahead w n) k d (l.mergeSort fun x y => decide (x≤y)).toArray) os).heap[i]? = (w.heap.modify k (onCells (putCells (Value.int .i64) d (l.mergeSort fun x y => decide (x≤y)).toArray)))[i]? := by
     intro i hi
     show ((w.heap.modify k (onCells (putCells (Value.int .i64) d (l.mergeSort fun x y => decide (x≤y)).toArray))) ++ os)[i]? = _
     rw [Array.getElem?_append_left (by simpa using hi)]
    refine ⟨rfl,putCells (Value.int .i64) d (l.mergeSort fun x y => decide (x≤y)).toArray c,?_,by simp [putCells],?_,?_,fun i hi hne => ?_,rfl,rfl,rfl⟩
    ·rw [hg k hklt,Array.getElem?_modify,if_pos rfl,g2]
     rfl
    ·intro i r j v e1 e2
     rw [List.getElem?_map] at e1
     obtain ⟨x,hx,rfl⟩:=Option.map_eq_some_iff.1 e1
     have hj:j=0:=by
      have:=(List.getElem?_eq_some_iff.1 e2).1
      simpa using this
     subst hj
     simp at e2
     subst e2
     have hil:i < l.length:=by
      have:=(List.getElem?_eq_some_iff.1 hx).1
      omega
     have hci:d + i < c.size:=(Array.getElem?_eq_some_iff.1 (hcell i l[i] (by simp [hil]))).1
     rw [show d + (i * 1 + 0)=d + i by omega,sortZ_merge]
     unfold putCells
     rw [Array.getElem?_mapIdx,Array.getElem?_eq_getElem hci]
     simp only [Option.map_some]
     rw [if_pos (by simp; omega),show d + i - d=i by omega,getElem!_pos _ i (by simp; omega)]
     simp
     have:=(List.getElem?_eq_some_iff.1 hx).2
     rw [this]
    ·show w.heap.size≤((w.heap.modify k _) ++ os).size
     simp
    ·rw [hg i hi,Array.getElem?_modify,if_neg (fun h => hne h.symm)])
 simpa using this
end Go.Vai
namespace Go.Proofs
open Go.Shelf Go.RowKit Go.Lib Go.Sort
theorem Tryz.order63 (a b c d:Int) (h1:1≤a∧a≤99) (h2:1≤b∧b≤26) (h3:1≤c∧c≤99) (h4:1≤d∧d≤26) (W:World):Calls Tryz.prog 50 #[.agg #[.int .i64 a,.int .i64 b],.agg #[.int .i64 c,.int .i64 d]] W fun e w' => e=.returned (.int .i64 (if a=c then b - d else a - c))∧∃ q os',w'=grow (W.drewN q) os':=by
 by_cases h:a=c
 ·rw [if_pos h]
  have hw:IntKind.i64.wrap (b - d)=b - d:=Go.Vai.wrap_i64 (by omega) (by omega)
  go_enter Tryz.func50,Tryz.ntmps50
  go_wp2
  go_ret
  exact ⟨rfl,0,_,by rw [alloc_eq_grow,alloc_eq_grow,grow_grow]; rfl⟩
 ·rw [if_neg h]
  have hw:IntKind.i64.wrap (a - c)=a - c:=Go.Vai.wrap_i64 (by omega) (by omega)
  go_enter Tryz.func50,Tryz.ntmps50
  go_wp2
  go_ret
  exact ⟨rfl,0,_,by rw [alloc_eq_grow,alloc_eq_grow,grow_grow]; rfl⟩
theorem Tryz.grow3 (W:World) (o1 o2:Obj) (q:Nat) (os:Array Obj) : ∃ q' os',grow (((W.alloc o1).alloc o2).drewN q) os=grow (W.drewN q') os' :=
 ⟨q,#[o1] ++ #[o2] ++ os,by rw [alloc_eq_grow,alloc_eq_grow]; show grow (grow (grow (W.drewN q) _) _) os=_; rw [grow_grow,grow_grow,Array.append_assoc]⟩
theorem Tryz.closure62 (a b c d:Int) (s t:ByteArray) (h1:1≤a∧a≤99) (h2:1≤b∧b≤26) (h3:1≤c∧c≤99) (h4:1≤d∧d≤26) (W:World):Calls Tryz.prog 103 #[.agg #[.int .i64 a,.int .i64 b,.string s],.agg #[.int .i64 c,.int .i64 d,.string t]] W fun e w' => e=.returned (.int .i64 (if a=c then b - d else a - c))∧∃ q os',w'=grow (W.drewN q) os':=by
 have key:=fun W => Tryz.order63 a b c d h1 h2 h3 h4 W
 generalize (if a=c then b - d else a - c)=r at key ⊢
 go_enter Tryz.func103,Tryz.ntmps103
 go_wp2_with (go_at_call 50; refine (key _).mono ?_; rintro e w' ⟨rfl,q,os,rfl⟩)
 go_ret
 exact ⟨rfl,Tryz.grow3 _ _ _ _ _⟩
abbrev Tryz.KP:={ p:Int × Int × ByteArray // (1≤p.1∧p.1≤99)∧1≤p.2.1∧p.2.1≤26 }
instance:Inhabited Tryz.KP:=⟨⟨(1,1,⟨#[]⟩),by decide⟩⟩
def Tryz.encP (x:Tryz.KP):List Value:=[.int .i64 x.1.1,.int .i64 x.1.2.1,.string x.1.2.2]
def Tryz.cfP (x y:Tryz.KP):Int:=if x.1.1=y.1.1 then x.1.2.1 - y.1.2.1 else x.1.1 - y.1.1
theorem Tryz.ltP (x y:Tryz.KP):ltOf Tryz.cfP x y=decide (x.1.1 < y.1.1∨x.1.1=y.1.1∧x.1.2.1 < y.1.2.1):=by
 unfold ltOf Tryz.cfP
 rw [decide_eq_decide]
 split <;> omega
theorem Tryz.swoP:SWO (ltOf Tryz.cfP) where
 irrefl x:=by rw [Tryz.ltP]; simp
 trans x y z h1 h2:=by rw [Tryz.ltP] at *; simp only [decide_eq_true_eq] at *; omega
 ntrans x y z h1 h2:=by rw [Tryz.ltP] at *; simp only [decide_eq_false_iff_not] at *; omega
theorem Tryz.cmpLays62 (blk off size:Nat) (w:World):CmpLays Tryz.prog 103 #[] Tryz.encP 3 Tryz.cfP blk off size w:=fun _ _ _ _ x y => Tryz.closure62 _ _ _ _ _ _ x.2.1 x.2.2 y.2.1 y.2.2 _
theorem Tryz.sortP61 (blk off cap:Nat) (d:Array Tryz.KP) (w:World) (hH:HoldsK Tryz.encP 3 w blk off d) (hblk:blk < w.heap.size) (hsz:d.size < 4611686018427387904) :
 Calls Tryz.prog 102 #[.slice (some ⟨blk,off,none⟩) d.size cap,.func (.func 103) #[] #[]] w fun e w' => e=.returned (.tuple #[])∧∃ d' n os,PermIn 0 d.size d d'∧SortedIn (ltOf Tryz.cfP) 0 d.size d'∧w'=sortWorldK Tryz.encP 3 w blk off n d' os:=by
 have eg : ∀ args w,(callFunc 103 args).run Tryz.prog w=.ok (.enter 103 args) w:=enters_of Tryz.func103 (by kernel_rfl) rfl
 exact AnyQ.slices_SortFunc Tryz.sortPr 3 Tryz.isAgg56 Tryz.sizeOf56 Tryz.encP (fun _ => rfl) (fun x v hv => by simp [Tryz.encP] at hv; rcases hv with rfl | rfl | rfl <;> rfl) Tryz.cfP Tryz.swoP 103 #[] blk off cap d w eg (Tryz.cmpLays62 blk off d.size w) hH hblk hsz
theorem Tryz.perm_list {α:Type} [Inhabited α] {d d':Array α} (h:PermIn 0 d.size d d'):d'.toList.Perm d.toList:=by
 obtain ⟨h1,_,h2⟩:=h
 rw [Array.extract_eq_self_of_le (by omega),Array.extract_eq_self_of_le (by omega)] at h2
 exact h2
theorem Tryz.sorted_list {d d':Array Tryz.KP} (hs:d'.size=d.size) (h:SortedIn (ltOf Tryz.cfP) 0 d.size d'):(d'.toList.map (·.1)).Pairwise fun a b => a.1 < b.1∨a.1=b.1∧a.2.1≤b.2.1:=by
 rw [List.pairwise_map,List.pairwise_iff_getElem]
 intro i j hi hj hij
 have:=h i j (Nat.zero_le _) hij (by simpa [hs] using hj)
 rw [Tryz.ltP] at this
 simp at hi hj
 rw [getElem!_pos d' i hi,getElem!_pos d' j hj] at this
 simp only [decide_eq_false_iff_not] at this
 simp only [Array.getElem_toList]
 omega
theorem Tryz.sort_heap {w:World} {k off n:Nat} {d':Array Tryz.KP} {os:Array Obj} {c:Array Value} {e:TypeId} {z:Nat × Nat} (hk:w.heap[k]? = some (.cells c e z)) :
 (sortWorldK Tryz.encP 3 w k off n d' os).heap[k]? = some (.cells (putCells id off (flatK Tryz.encP 3 d') c) e z)∧w.heap.size≤(sortWorldK Tryz.encP 3 w k off n d' os).heap.size∧∀ i,i < w.heap.size→i≠k→(sortWorldK Tryz.encP 3 w k off n d' os).heap[i]? = w.heap[i]? := by
 have hlt:k < w.heap.size:=(Array.getElem?_eq_some_iff.1 hk).1
 have hg : ∀ i,i < w.heap.size→(sortWorldK Tryz.encP 3 w k off n d' os).heap[i]? = (w.heap.modify k (onCells (putCells id off (flatK Tryz.encP 3 d'))))[i]? := by
  intro i hi
  show ((w.heap.modify k (onCells (putCells id off (flatK Tryz.encP 3 d')))) ++ os)[i]? = _
  rw [Array.getElem?_append_left (by simpa using hi)]
 refine ⟨?_,?_,fun i hi hne => ?_⟩
 ·rw [hg k hlt,Array.getElem?_modify,if_pos rfl,hk]
  rfl
 ·show w.heap.size≤((w.heap.modify k _) ++ os).size
  simp
 ·rw [hg i hi,Array.getElem?_modify,if_neg (fun h => hne h.symm)]
end Go.Proofs
namespace Go.Vai
open Go.Proofs Go.Shelf Go.RowKit Go.Lib Go.Sort
def celLt (a b:Cel):Prop:=a.1 < b.1∨a.1=b.1∧a.2.1 < b.2.1
def celL (a b:Cel):Prop:=a.1 < b.1∨a.1=b.1∧a.2.1≤b.2.1
theorem celLe_iff (a b:Cel):celLe a b=true↔celL a b:=by simp [celLe,celL]
theorem insC_perm (c:Cel) : ∀ l,(insC c l).Perm (c :: l)
 | [] => List.Perm.refl _
 | d :: r => by
  unfold insC
  split
  ·exact List.Perm.refl _
  ·exact ((insC_perm c r).cons d).trans (List.Perm.swap _ _ _)
theorem sortC_perm : ∀ l,(sortC l).Perm l
 | [] => List.Perm.refl _
 | c :: r => (insC_perm c _).trans ((sortC_perm r).cons c)
theorem insC_sorted (c:Cel) : ∀ l,l.Pairwise celL→(insC c l).Pairwise celL
 | [],_ => by simp [insC]
 | d :: r, h => by
  rw [List.pairwise_cons] at h
  unfold insC
  split
  ·rename_i hc
   rw [celLe_iff] at hc
   rw [List.pairwise_cons]
   refine ⟨fun x hx => ?_,List.pairwise_cons.2 h⟩
   rcases List.mem_cons.1 hx with rfl | hx
   ·exact hc
   ·have:=h.1 x hx; unfold celL at *; omega
  ·rename_i hc
   rw [celLe_iff] at hc
   rw [List.pairwise_cons]
   refine ⟨fun x hx => ?_,insC_sorted c r h.2⟩
   rcases List.mem_cons.1 ((insC_perm c r).subset hx) with rfl | hx
   ·unfold celL at *; omega
   ·exact h.1 x hx
theorem sortC_sorted : ∀ l,(sortC l).Pairwise celL
 | [] => List.Pairwise.nil
 | c :: r => insC_sorted c _ (sortC_sorted r)
def keyNe (a b:Cel):Prop := ¬ (a.1=b.1∧a.2.1=b.2.1)
theorem celLt_uniq : ∀ {l k:List Cel},l.Perm k→l.Pairwise celLt→k.Pairwise celLt→l=k
 | [],k,hp,_,_ => (List.nil_perm.1 hp).symm
 | a :: l,[],hp,_,_ => by have:=hp.length_eq; simp at this
 | a :: l, b :: k, hp, h1, h2 => by
  have ha:a∈b :: k:=hp.subset (by simp)
  have hb:b∈a :: l:=hp.symm.subset (by simp)
  rw [List.pairwise_cons] at h1 h2
  have e:a=b:=by
   rcases List.mem_cons.1 ha with rfl | ha
   ·rfl
   ·rcases List.mem_cons.1 hb with rfl | hb
    ·rfl
    ·have h3:=h1.1 b hb; have h4:=h2.1 a ha; unfold celLt at *; omega
  subst e
  rw [celLt_uniq (List.perm_cons a |>.1 hp) h1.2 h2.2]
theorem keyNe_symm {a b:Cel} (h:keyNe a b):keyNe b a:=fun e => h ⟨e.1.symm,e.2.symm⟩
theorem celL_lt {l:List Cel} (h:l.Pairwise celL) (hn:l.Pairwise keyNe):l.Pairwise celLt :=
 h.imp₂ (fun a b h1 h2 => by unfold celL keyNe celLt at *; omega) hn
theorem keyNe_perm {l k:List Cel} (hp:l.Perm k) (h:l.Pairwise keyNe):k.Pairwise keyNe :=
 (hp.pairwise_iff fun h => keyNe_symm h).1 h
theorem sortC_uniq {l k:List Cel} (hp:l.Perm k) (hn:k.Pairwise keyNe) (hs:l.Pairwise celL):l=sortC k :=
 celLt_uniq (hp.trans (sortC_perm k).symm) (celL_lt hs (keyNe_perm hp.symm hn)) (celL_lt (sortC_sorted k) (keyNe_perm (sortC_perm k).symm hn))
def celOk (c:Cel):Prop:=(1≤c.1∧c.1≤99)∧1≤c.2.1∧c.2.1≤26
theorem keysOk_iff : ∀ l,keysOk l=true↔l.Pairwise keyNe∧∀ c∈l,celOk c
 | [] => by simp [keysOk]
 | c :: r => by
  have ih:=keysOk_iff r
  simp only [keysOk,Bool.and_eq_true,List.all_eq_true,List.pairwise_cons,List.mem_cons,ih,Bool.not_eq_true',decide_eq_true_eq]
  constructor
  ·rintro ⟨⟨h1,h2⟩,h3,h4⟩
   refine ⟨⟨fun d hd => ?_,h3⟩,fun d hd => ?_⟩
   ·have:=h1 d hd
    unfold keyNe
    rintro ⟨e1,e2⟩
    simp [e1,e2] at this
   ·rcases hd with rfl | hd
    ·unfold celOk; omega
    ·exact h4 d hd
  ·rintro ⟨⟨h1,h2⟩,h3⟩
   refine ⟨⟨fun d hd => ?_,?_⟩,h2,fun d hd => h3 d (.inr hd)⟩
   ·have:=h1 d hd
    unfold keyNe at this
    by_cases e1:d.1=c.1
    ·by_cases e2:d.2.1=c.2.1
     ·exact absurd ⟨e1.symm,e2.symm⟩ this
     ·simp [e2]
    ·simp [e1]
   ·have:=h3 c (.inl rfl)
    unfold celOk at this
    omega
def vCel (c:Cel):List Value:=[.int .i64 c.1,.int .i64 c.2.1,.string (mkB c.2.2)]
theorem scR_cel (l:List Cel):scR (l.map vCel)=l.map eCel:=by simp [scR,vCel,eCel]
def toKP:(l:List Cel)→(∀ c∈l,celOk c)→List Tryz.KP:=fun l h => l.attach.map fun (p:{ x // x∈l }) => (⟨(p.1.1,p.1.2.1,mkB p.1.2.2),h p.1 p.2⟩:Tryz.KP)
def ofKP (x:Tryz.KP):Cel:=(x.1.1,x.1.2.1,x.1.2.2.data.toList)
theorem toKP_val (l:List Cel) (h : ∀ c∈l,celOk c):(toKP l h).map ofKP=l:=by
 unfold toKP
 rw [List.map_map]
 have:(ofKP ∘ fun p:{ x // x∈l } => (⟨(p.1.1,p.1.2.1,mkB p.1.2.2),h p.1 p.2⟩:Tryz.KP))=(fun p => p.1):=by
  funext p
  simp [ofKP]
 rw [this]
 exact List.attach_map_subtype_val l
theorem toKP_len (l:List Cel) (h : ∀ c∈l,celOk c):(toKP l h).length=l.length:=by simp [toKP]
theorem enc_of (x:Tryz.KP):Tryz.encP x=vCel (ofKP x):=by simp [Tryz.encP,vCel,ofKP,mkB_data]
theorem flatP_get (d:Array Tryz.KP) (i j:Nat) (hi:i < d.size) (hj:j < 3):(flatK Tryz.encP 3 d)[i * 3 + j]! = (Tryz.encP d[i]!)[j]! := by
 rw [get_flatK _ _ _ _ (by omega)]
 rw [show (i * 3 + j) / 3=i by omega,show (i * 3 + j) % 3=j by omega]
theorem cells_turn {G:Nat→Option (List FV)} (l:List Cel) (hn:l.Pairwise keyNe) (hok : ∀ c∈l,celOk c) (hl:l.length < 4611686018427387904) :
 [some (Blk.arr 3 (l.map eCel))].length≤[some (Blk.arr 3 ((sortC l).map eCel))].length ∧
 ∀ (w:World) (vs:List Value),Told Tryz.prog G (fun _ => False) [.osl 0 3 0 l.length,.fn 103 []] [some (Blk.arr 3 (l.map eCel))] (.tup []) [some (Blk.arr 3 ((sortC l).map eCel))] w vs (Does Tryz.prog 102 vs.toArray w):=by
 have hll:(sortC l).length=l.length:=(sortC_perm l).length_eq
 have := rf_of_turn (P := Tryz.prog) (G := G) (f := 102) (sz := 3) (rows := l.map vCel) (rows' := (sortC l).map vCel) (ext := [.fn 103 []]) (extv := [.func (.func 103) #[] #[]])
  (by simp [hll]) (by intro r hr; obtain ⟨z,_,rfl⟩:=List.mem_map.1 hr; rfl) (by intro r hr v hv; obtain ⟨z,_,rfl⟩:=List.mem_map.1 hr; simp [vCel] at hv; rcases hv with rfl | rfl | rfl <;> rfl)
  (by
    intro σ h vs hl hx
    match vs,hl with
    | [u], _ =>
     have:=hx 0 _ u rfl rfl
     cases this with
     | fn _ _ vs h1 h2 =>
      have:vs=[]:=by simpa using h1.symm
      subst this; rfl)
  (fun he w A cap => .inl ⟨enters61 _ _,by exact AnyF.slices_SortFunc_none Tryz.sortPr A cap (.func (.func 103) #[] #[]) w⟩)
  (fun hne w k d cap c t z g2 g3 hat hcap hd => by
    have hklt:k < w.heap.size:=(Array.getElem?_eq_some_iff.1 g2).1
    let D:Array Tryz.KP:=(toKP l hok).toArray
    have hDs:D.size=l.length:=by simp [D,toKP_len]
    have hDv:D.toList.map ofKP=l:=toKP_val l hok
    have hDget : ∀ i (hi:i < D.size),l[i]? = some (ofKP D[i]!):=by
     intro i hi
     rw [← hDv,getElem!_pos D i hi]
     simp [hi]
    have hcell : ∀ i j,i < l.length→j < 3→c[d + (i * 3 + j)]? = some (Tryz.encP D[i]!)[j]! := by
     intro i j hi hj
     have hli:=hDget i (by omega)
     refine hat i (Tryz.encP D[i]!) j _ (by rw [List.getElem?_map,hli,enc_of]; rfl) ?_
     rw [List.getElem!_eq_getElem?_getD,List.getElem?_eq_getElem (by simp [Tryz.encP]; omega)]
     rfl
    have hH:HoldsK Tryz.encP 3 w k d D:=by
     intro j hj
     rw [size_flatK] at hj
     have hdv:j=j / 3 * 3 + j % 3:=by omega
     have r1:=hcell (j / 3) (j % 3) (by omega) (by omega)
     rw [← hdv] at r1
     have hjc:d + j < c.size:=(Array.getElem?_eq_some_iff.1 r1).1
     refine ⟨?_,?_⟩
     ·rw [cell_block g2,r1,← flatP_get _ _ _ (by omega) (by omega),← hdv]
      rfl
     ·have:=g3.no (d + j) hjc
      simp only [World.frozen?,g2]
      simp; omega
    have hS:=Tryz.sortP61 k d cap D w hH hklt (by omega)
    rw [hDs] at hS
    simp only [List.length_map] at hcap ⊢
    refine .inl ⟨enters61 _ _,hS.mono ?_⟩
    rintro ex w' ⟨rfl,D',nd,os,p1,p2,rfl⟩
    obtain ⟨s1,s2,s3⟩:=Tryz.sort_heap (k:=k) (off:=d) (n:=nd) (d':=D') (os:=os) g2
    rw [← hDs] at p1 p2
    have hD's:D'.size=l.length:=p1.1.trans hDs
    have hls:D'.toList.map ofKP=sortC l:=by
     refine sortC_uniq ?_ hn ?_
     ·have:=(Tryz.perm_list p1).map ofKP
      rwa [hDv] at this
     ·have:=Tryz.sorted_list p1.1 p2
      rw [List.pairwise_map] at this ⊢
      exact this
    have hD'get : ∀ i,i < l.length→(sortC l)[i]? = some (ofKP D'[i]!):=by
     intro i hi
     rw [← hls,getElem!_pos D' i (by omega)]
     simp [show i < D'.size by omega]
    refine ⟨rfl,putCells id d (flatK Tryz.encP 3 D') c,s1,by simp [putCells],?_,s2,s3,rfl,rfl,rfl⟩
    intro i r j v e1 e2
    rw [List.getElem?_map] at e1
    obtain ⟨x,hx,rfl⟩:=Option.map_eq_some_iff.1 e1
    have hil:i < l.length:=by
     have:=(List.getElem?_eq_some_iff.1 hx).1
     omega
    have hj3:j < 3:=by
     have:=(List.getElem?_eq_some_iff.1 e2).1
     simpa [vCel] using this
    rw [hD'get i hil] at hx
    injection hx with hx
    subst hx
    have hci:d + (i * 3 + j) < c.size:=(Array.getElem?_eq_some_iff.1 (hcell i j hil hj3)).1
    unfold putCells
    rw [Array.getElem?_mapIdx,Array.getElem?_eq_getElem hci]
    simp only [Option.map_some]
    rw [if_pos (by rw [size_flatK]; omega),show d + (i * 3 + j) - d=i * 3 + j by omega,flatP_get _ _ _ (by omega) hj3]
    rw [← enc_of] at e2
    rw [List.getElem!_eq_getElem?_getD,e2]
    rfl)
 simpa [scR_cel] using this
end Go.Vai
namespace Go.Vai
open Go.Proofs
theorem wp_rng {v:Env} {m:Nat} {α:Type} (S:α→St) (I:α→Prop) (μ:α→Nat) (r:Ex × St) {live:List Nat} {nx more it out:Nat} {b k:LCode} {live2:List Nat} {Q:Ex→St→Prop} {w:Wit (LCode.rng live nx more it out b k live2,Q)} (a:α) {st:St} (ha:I a) (hs:norm m live st=S a) (hQ:Q r.1 r.2)
 (h : ∀ a,I a→∃ h,rngHead (S a) it=some h∧(h.left=[]→v.wp m k (rngOver (S a) nx more) (fun e s => (e,norm m live2 s)=r) .mk)∧(∀ p,p∈h.left→v.wp m b (rngTake (S a) nx more h p) (fun e s => e=.nor∧∃ a',I a'∧μ a' < μ a∧norm m live s=S a') .mk)):v.wp m (.rng live nx more it out b k live2) st Q w:=by
 have key : ∀ (n:Nat) (a:α),μ a < n→I a→∀ st,norm m live st=S a→rngR m live nx more it (fun s => v.ex m b s) (fun s => finR m live2 (v.ex m k s)) n st r:=by
  intro n
  induction n with
  | zero => intro a h; omega
  | succ n ih =>
   intro a hn ha st hs
   obtain ⟨hd,h1,h2,h3⟩:=h a ha
   refine ⟨hd,by rw [hs]; exact h1,fun e => ?_,fun p hp => ?_⟩
   ·rw [hs]
    obtain ⟨e1,s1,g1,g2⟩:=h2 e
    simp only at g2 ⊢
    rw [g1]
    simp only [finR]
    rw [g2]
   ·rw [hs]
    obtain ⟨e1,s1,g1,rfl,a',g2,g3,g4⟩:=h3 p hp
    exact ⟨s1,g1,ih a' (by omega) g2 s1 g4⟩
 exact ⟨r.1,r.2,v.ex_rng m (key (μ a + 1) a (by omega) ha st hs),hQ⟩
def T35:FuncId→Option LFunc:=fun f => if f=60 then some L60 else none
def cels:List (List FV)→Option (List Cel)
 | [] => some []
 | [.sc (.int .i64 a),.sc (.int .i64 b),.sc (.string s)] :: r => (cels r).map ((a,b,s.data.toList) :: ·)
 | _ => none
theorem cels_map : ∀ l,cels (l.map eCel)=some l
 | [] => rfl
 | c :: r => by simp [cels,eCel,cels_map r]
theorem cels_some : ∀ {es:List (List FV)} {l:List Cel},cels es=some l→es=l.map eCel
 | [],l,h => by simp [cels] at h; subst h; rfl
 | e :: r, l, h => by
  unfold cels at h
  split at h
  ·rename_i e1; cases e1
  ·rename_i a b s r' e1
   injection e1 with e1 e2
   subst e1; subst e2
   obtain ⟨ys,h1,rfl⟩:=Option.map_eq_some_iff.1 h
   rw [cels_some h1]
   simp [eCel,mkB_data]
  ·cases h
def E61:RF:=fun f xs bl => match f,xs,bl with
 | 102,[.osl 0 3 0 n,.fn 103 []],[some (.arr 3 es)] => (cels es).bind fun l => if keysOk l=true∧n=l.length∧l.length≤100000 then some (.tup [],[some (.arr 3 ((sortC l).map eCel))]) else none
 | _,_,_ => none
theorem E61_run (l:List Cel) (h:keysOk l=true) (hl:l.length≤100000):E61 102 [.osl 0 3 0 l.length,.fn 103 []] [some (.arr 3 (l.map eCel))]=some (.tup [],[some (.arr 3 ((sortC l).map eCel))]):=by
 simp [E61,cels_map,h,hl]
theorem E61_sound (G:Nat→Option (List FV)):RFSound Tryz.prog G E61:=by
 refine fn_sound (fun f xs bl r bl' hf4 e => ?_) (fun f xs bl h => ?_)
 ·clear hf4
  unfold E61 at e
  split at e
  ·rename_i n es
   obtain ⟨l,hl,e⟩:=Option.bind_eq_some_iff.1 e
   split at e
   ·rename_i hc
    injection e with e; injection e with e1 e2; subst e1; subst e2
    rw [cels_some hl,hc.2.1]
    have hk:=(keysOk_iff l).1 hc.1
    exact cells_turn l hk.1 hk.2 (by omega)
   ·cases e
  ·cases e
 ·unfold E61
  split <;> first | rfl | (exfalso; revert h; decide)
def W1 (G:Nat→Option (List FV)):Env:={ G:=G,T:=T35,E:=E61 }
def entC (p:Nat × Cel):Nat × Value × FV:=(p.1,.agg #[.int .i64 p.2.1,.int .i64 p.2.2.1],.sc (.string (mkB p.2.2.2)))
theorem celsOf_some : ∀ {es:List (Nat × Value × FV)} {l:List Cel},celsOf es=some l→∃ ps:List (Nat × Cel),es=ps.map entC∧l=ps.map (·.2)
 | [],l,h => by simp [celsOf] at h; subst h; exact ⟨[],rfl,rfl⟩
 | e :: r, l, h => by
  unfold celsOf at h
  split at h
  ·rename_i e1; cases e1
  ·rename_i n a b s r' e1
   injection e1 with e1 e2
   subst e1; subst e2
   obtain ⟨ys,h1,rfl⟩:=Option.map_eq_some_iff.1 h
   obtain ⟨ps,rfl,rfl⟩:=celsOf_some h1
   exact ⟨(n,a,b,s.data.toList) :: ps,by simp [entC,mkB_data],rfl⟩
  ·cases h
theorem bornOk_spec : ∀ (ps:List (Nat × Cel)) (lo c:Nat),bornOk (ps.map entC) lo c=true→(∀ p∈ps,lo≤p.1∧p.1 < c)∧(ps.map (·.1)).Nodup
 | [],lo,c,_ => ⟨fun p h => by simp at h,by simp⟩
 | p :: r, lo, c, h => by
  simp only [List.map_cons,bornOk,Bool.and_eq_true,decide_eq_true_eq] at h
  obtain ⟨⟨h1,h2⟩,h3⟩:=h
  obtain ⟨h4,h5⟩:=bornOk_spec r _ c h3
  have e:(entC p).1=p.1:=rfl
  rw [e] at h1 h2 h4
  refine ⟨fun q hq => ?_,?_⟩
  ·rcases List.mem_cons.1 hq with rfl | hq
   ·exact ⟨h1,h2⟩
   ·have:=h4 q hq; omega
  ·simp only [List.map_cons,List.nodup_cons]
   refine ⟨fun hm => ?_,h5⟩
   obtain ⟨q,hq,e⟩:=List.mem_map.1 hm
   have:=h4 q hq
   omega
theorem born_inj {ps:List (Nat × Cel)} (h:(ps.map (·.1)).Nodup) {p q:Nat × Cel} (hp:p∈ps) (hq:q∈ps) (e:p.1=q.1):p=q:=by
 induction ps with
 | nil => cases hp
 | cons a r ih =>
  simp only [List.map_cons,List.nodup_cons] at h
  rcases List.mem_cons.1 hp with hp1 | hp1 <;> rcases List.mem_cons.1 hq with hq1 | hq1
  ·rw [hp1,hq1]
  ·exact absurd (List.mem_map.2 ⟨q,hq1,by rw [← e,hp1]⟩) h.1
  ·exact absurd (List.mem_map.2 ⟨p,hp1,by rw [e,hq1]⟩) h.1
  ·exact ih h.2 hp1 hq1
def ents (ps:List (Nat × Cel)):List (Nat × Value × FV):=ps.map entC
theorem ents_find : ∀ {ps:List (Nat × Cel)},(ps.map (·.1)).Nodup→∀ {p:Nat × Cel},p∈ps→(ents ps).find? (fun x => x.1 == p.1)=some (entC p)
 | [],_,p,hp => by cases hp
 | a :: r, h, p, hp => by
  simp only [List.map_cons,List.nodup_cons] at h
  rw [ents,List.map_cons,List.find?_cons]
  have e:(entC a).1=a.1:=rfl
  rw [e]
  rcases List.mem_cons.1 hp with rfl | hp
  ·simp
  ·have:(a.1 == p.1)=false:=by
    rw [beq_eq_false_iff_ne]
    exact fun e => h.1 (List.mem_map.2 ⟨p,hp,e.symm⟩)
   rw [this]
   exact ents_find h.2 hp
theorem ents_born (ps:List (Nat × Cel)):(ents ps).map (·.1)=ps.map (·.1):=by simp [ents,entC,Function.comp_def]
theorem ents_all {ps:List (Nat × Cel)} {c:Nat} (h : ∀ p∈ps,0≤p.1∧p.1 < c):((ents ps).all fun p => decide (p.1 < c))=true:=by
 simp only [ents,List.all_map,List.all_eq_true]
 intro p hp
 simp [entC,(h p hp).2]
theorem ents_all2 {ps:List (Nat × Cel)} {c:Nat} (h : ∀ p∈ps,0≤p.1∧p.1 < c):((ents ps).all fun p => decide (p.1 < c) && keyOk p.2.1)=true:=by
 simp only [ents,List.all_map,List.all_eq_true]
 intro p hp
 simp [entC,(h p hp).2,keyOk]
def S35 (ps:List (Nat × Cel)) (c:Nat) (L:List (Nat × Cel)):St :=
 { sl:=[(3,.osl 1 3 0 L.length),(7,.bp 2 0)],hp:=numd 0 [some (.map (ents ps) c),some (.arr 3 (L.map fun p => eCel p.2)),some (.iter (some 0) c (L.map (·.1)) c)],nx:=3 }
def I35 (ps L:List (Nat × Cel)):Prop:=L.Nodup∧∀ p∈L,p∈ps
theorem run_cells35 {G:Nat→Option (List FV)} (ps:List (Nat × Cel)) (c:Nat) (hk:keysOk (ps.map (·.2))=true) (hb:bornOk (ps.map entC) 0 c=true) (hl:ps.length≤100000) :
 (W1 G).run 60 [.mp 0] [some (.map (ents ps) c)]=some (.osl 1 3 0 ps.length,[some (.map (ents ps) c),some (.arr 3 ((sortC (ps.map (·.2))).map eCel))]):=by
 have hlen2:(sortC (ps.map (·.2))).length=ps.length:=by rw [(sortC_perm _).length_eq]; simp
 have htake:(((sortC (ps.map (·.2))).map eCel).take ps.length)=(sortC (ps.map (·.2))).map eCel:=List.take_of_length_le (by simp [hlen2])
 obtain ⟨b1,b2⟩:=bornOk_spec ps 0 c hb
 have hnd:((ents ps).map (·.1)).Nodup:=by rw [ents_born]; exact b2
 have hall:=ents_all b1
 have hall2:=ents_all2 b1
 refine run_wp (by exact rfl) ?_
 simp -dsimp -implicitDefEqProofs (maxSteps:=1000000) (disch:=omega) [ST,hnd,hall]
 refine wp_rng (S35 ps c) (I35 ps) (fun L => ps.length - L.length)
  (.ret,{ sl:=[(2,.osl 1 3 0 ps.length)],hp:=numd 0 [some (.map (ents ps) c),some (.arr 3 ((sortC (ps.map (·.2))).map eCel))],nx:=2 })
  [] ⟨by simp,by simp⟩ (by simp -dsimp -implicitDefEqProofs (maxSteps:=1000000) (disch:=omega) [ST,S35]) (by simp -dsimp -implicitDefEqProofs (maxSteps:=1000000) (disch:=omega) [ST,hlen2,htake]) ?_
 rintro L ⟨l1,l2⟩
 refine ⟨(⟨2,0,c,L.map (fun p => p.1),ents ps,c⟩:RHead),?_,fun e => ?_,?_⟩
 ·show (if c≤c∧((ents ps).all fun p => decide (p.1 < c) && keyOk p.2.1)=true then some (⟨2,0,c,L.map (fun p => p.1),ents ps,c⟩:RHead) else none)=_
  exact if_pos ⟨Nat.le_refl _,hall2⟩
 ·have hpm:L.Perm ps:=by
   have hsub : ∀ p∈ps,p∈L:=by
    intro p hp
    have h1:entC p ∉ (ents ps).filter fun x => !(L.map (·.1)).contains x.1:=by
     have:(⟨2,0,c,L.map (·.1),ents ps,c⟩:RHead).left=(ents ps).filter fun x => !(L.map (·.1)).contains x.1:=rfl
     rw [← this,e]
     simp
    rw [List.mem_filter] at h1
    have h2:entC p∈ents ps:=List.mem_map.2 ⟨p,hp,rfl⟩
    have h3:p.1∈L.map (·.1):=by
     by_cases h:p.1∈L.map (·.1)
     ·exact h
     ·exact absurd ⟨h2,by simpa [entC] using h⟩ h1
    obtain ⟨q,hq,e2⟩:=List.mem_map.1 h3
    rw [← born_inj b2 (l2 q hq) hp e2]
    exact hq
   have hn2:ps.Nodup:=List.Pairwise.of_map (·.1) (fun a b h e => h (congrArg _ e)) b2
   exact (List.perm_ext_iff_of_nodup l1 hn2).2 fun a => ⟨l2 a,hsub a⟩
  have hlen:L.length=ps.length:=hpm.length_eq
  obtain ⟨k1,k2⟩:=(keysOk_iff _).1 hk
  have hko:keysOk (L.map (·.2))=true:=(keysOk_iff _).2 ⟨keyNe_perm (hpm.map _).symm k1,fun x hx => k2 x ((hpm.map _).subset hx)⟩
  have hs:sortC (L.map (·.2))=sortC (ps.map (·.2)):=sortC_uniq ((sortC_perm _).trans (hpm.map _)) k1 (sortC_sorted _)
  have h61:=E61_run (L.map (·.2)) hko (by simp [hlen,hl])
  rw [hs] at h61
  simp only [List.length_map,List.map_map,hlen] at h61
  have h61':(W1 G).run 102 [.osl 0 3 0 ps.length,.fn 103 []] [some (.arr 3 (L.map (eCel ∘ fun x => x.2)))]=some (.tup [],[some (.arr 3 ((sortC (ps.map (·.2))).map eCel))]):=by
   rw [Env.run_some]
   exact ⟨1,by unfold runN; rw [show (W1 G).T 102=none from rfl]; exact h61⟩
  simp only [Function.comp_def] at h61'
  simp -dsimp -implicitDefEqProofs (maxSteps:=1000000) (disch:=omega) [ST,rngOver,S35,h61',hlen]
 ·rintro x hmem
  simp only [RHead.left,List.mem_filter] at hmem
  obtain ⟨hm1,hm2⟩:=hmem
  obtain ⟨p,hp,rfl⟩:=List.mem_map.1 hm1
  have hfind:=ents_find b2 hp
  have hpL:p ∉ L:=by
   intro h
   have h4:(L.map (fun p => p.1)).contains (entC p).1=true:=List.contains_iff_mem.2 (List.mem_map.2 ⟨p,h,rfl⟩)
   rw [h4] at hm2
   cases hm2
  have hLl:L.length < ps.length:=by
   have:=(List.nodup_cons.2 ⟨hpL,l1⟩).length_le_of_subset (l₂:=ps) (fun i hi => by
    rcases List.mem_cons.1 hi with rfl | hi
    ·exact hp
    ·exact l2 i hi)
   simp at this; omega
  have ea:(entC p).1=p.1:=rfl
  have eb:(entC p).2.1=.agg #[.int .i64 p.2.1,.int .i64 p.2.2.1]:=rfl
  have ec:(entC p).2.2=.sc (.string (mkB p.2.2.2)):=rfl
  simp -dsimp -implicitDefEqProofs (maxSteps:=1000000) (disch:=omega) [ST,rngTake,S35,hfind,ea,eb,ec,keyOk,keyA,outM]
  refine ⟨L ++ [p],⟨?_,?_⟩,by simp; omega,?_⟩
  ·rw [List.nodup_append]
   refine ⟨l1,by simp,fun a ha b hb e => ?_⟩
   rw [List.mem_singleton] at hb
   subst hb; subst e; exact hpL ha
  ·intro i hi
   rcases List.mem_append.1 hi with hi | hi
   ·exact l2 i hi
   ·rw [List.mem_singleton] at hi; subst hi; exact hp
  ·refine ⟨by simp,by simp [eCel],by simp⟩
theorem mixed:Tryz.prog.follows .mixedOrders=true:=by kernel_rfl
theorem tok35:TOk Tryz.prog T35:=by
 intro f L h
 unfold T35 at h
 split at h
 ·rename_i hf
  injection h with h; subst h; subst hf
  exact .inl ⟨Tryz.f60,_,Tryz.func60,by kernel_rfl,comp60⟩
 ·cases h
theorem Ez_sound (m:Int) (e3 e4:Value) (h3:isIf e3) (h4:isIf e4):RFSound Tryz.prog (Gz m e3 e4) Ez:=by
 refine fn_sound (fun f xs bl r bl' hf4 e => ?_) (fun f xs bl h => ?_)
 ·unfold Ez at e
  split at e
  ·rename_i n es
   obtain ⟨l,hl,e⟩:=Option.bind_eq_some_iff.1 e
   split at e
   ·rename_i hc
    injection e with e; injection e with e1 e2; subst e1; subst e2
    rw [intsOf_some hl,hc.1]
    have:=ints_turn (G:=Gz m e3 e4) l hc.2
    simpa [scR,Function.comp_def] using this
   ·cases e
  ·injection e with e; injection e with e1 e2; subst e1; subst e2
   refine rf_of_calls fun C σ w vs hG hl hv => .inl ⟨enters112 _ _,?_⟩
   match vs,hl with
   | [x],_ =>
    obtain rfl:=(hv 0 _ x rfl rfl).sc_inv
    exact (Tryz.slices_Sort_int_none none 0 w).mono fun e w' ⟨he,hw⟩ => ⟨_,he,fun σ h => .tup [] [] rfl fun i x v e => by simp at e,hw ▸ Go.RowKit.Below.refl _ _⟩
  ·rename_i es c
   obtain ⟨l,hl,e⟩:=Option.bind_eq_some_iff.1 e
   split at e
   ·rename_i hc
    injection e with e; injection e with e1 e2; subst e1; subst e2
    obtain ⟨ps,rfl,rfl⟩:=celsOf_some hl
    have:=run_cells35 (G:=Gz m e3 e4) ps c hc.1 hc.2.1 (by simpa using hc.2.2)
    rw [List.length_map]
    exact (env_sound (W1 (Gz m e3 e4)) mixed tok35 (E61_sound _)).fn 60 _ _ _ _ (by decide) this
   ·cases e
  ·exact E0_sound m e3 e4 h3 h4 _ _ _ _ _ hf4 e
 ·unfold Ez
  split <;> first | (exfalso; revert h; decide) | exact E0_hi _ _ _ h
end Go.Vai
