/-
  What functions of layer 9 and of its reference compute: equations of the abstract run, and plain laws of them.
-/
import Derived.Below
import Derived.Test.YtljbbcpahapmnaaGreatDoorCKA
import Derived.Test.YtljbbcpahapmnaaGreatDoorCShS
set_option linter.unusedVariables false
set_option linter.unusedSimpArgs false
set_option linter.unnecessarySimpa false
set_option linter.unusedSectionVars false
namespace Go.Vai
open Go.RowKit
theorem Does.mono {P:Program} {f:FuncId} {args:Array Value} {w:World} {K K':Ending→World→Prop} (h:Does P f args w K) (hk : ∀ e w',K e w'→K' e w'):Does P f args w K':=by
 rcases h with ⟨h1,h2⟩ | ⟨v,w',h1,h2⟩
 ·exact .inl ⟨h1,h2.mono hk⟩
 ·exact .inr ⟨v,w',h1,hk _ _ h2⟩
def Gives0 (r:AV) (w:World) (e:Ending) (w':World):Prop := ∃ u,e=.returned u∧(∀ σ h,VR σ h r u)∧Below w.heap.size w w'
theorem rf_of_calls {P:Program} {G:Nat→Option (List FV)} {f:FuncId} {xs:List AV} {r:AV}
 (H : ∀ (C:Ctx) (σ:Nat→Option Loc) (w:World) (vs:List Value),GR G (frz (hk []) σ C.X w)→xs.length=vs.length→(∀ (i:Nat) (x:AV) (v:Value),xs[i]? = some x→vs[i]? = some v→VR σ (frz (hk []) σ C.X w) x v)→Does P f vs.toArray w (Gives0 r w)) :
 ([]:List (Option Blk)).length≤([]:List (Option Blk)).length ∧
 ∀ (w:World) (vs:List Value),Told P G (fun _ => False) xs [] r [] w vs (Does P f vs.toArray w):=by
 refine ⟨Nat.le_refl _,fun w vs C σ hG hrc hw hown hfr R hl hv K hK => ?_⟩
 have hG':GR G (frz (hk []) σ C.X w):=hG ▸ R.gl
 refine (H C σ w vs hG' hl hv).mono ?_
 rintro e w' ⟨u,rfl,hu,hb⟩
 have hnl : ∀ w b k,¬ Live (hk (numd 0 [])) σ w b k:=by
  rintro w b k ⟨blk,h1,_⟩
  simp [numd,hk] at h1
 have hle:HLe (frz (hk (numd 0 [])) σ C.X w) (frz (hk (numd 0 [])) σ C.X w'):=by
  intro k o h
  rw [frz_some] at h ⊢
  refine ⟨⟨fun ⟨b,hb⟩ => hnl _ b k hb,h.1.2⟩,?_⟩
  have hk:=(Array.getElem?_eq_some_iff.1 h.2).1
  rw [hb.block k hk]; exact h.2
 refine hK u σ w' (hu _ _) ⟨fun b blk h => ?_,fun b b' k h => absurd h (hnl _ _ _),fun b k h => absurd h (hnl _ _ _),⟨?_,fun k h1 h2 => ?_,?_,?_,?_⟩,R.gl.mono hle,R.xl⟩ (fun b hb => by simp at hb) hfr
 ·simp [numd,hk] at h
 ·rw [hw]; exact hb.size
 ·rw [hw] at h1 ⊢; exact hb.block k h1
 ·rw [hw]; exact hb.os
 ·rw [hw]; exact hb.tape
 ·rw [hw]; exact hb.output
theorem GR.tab {G:Nat→Option (List FV)} {σ:Nat→Option Loc} {hp:Nat→Option Blk} {X:Nat→Prop} {w:World} (h:GR G (frz hp σ X w)) {g:Nat} {zs:List Value} (hg:G g=some (zs.map .sc)) : ∃ t z,w.heap[g]? = some (.cells zs.toArray t z):=by
 obtain ⟨⟨us,h1,h2⟩,cs,t,z,h3,h4⟩:=h g _ hg
 have h5:=h3
 rw [frz_some] at h3
 refine ⟨t,z,?_⟩
 rw [h3.2]
 have:cs=zs.toArray:=by
  apply Array.ext
  ·simpa using h4
  ·intro i hi1 hi2
   have hi:i < zs.length:=by simpa using hi2
   have e1:=h1 i (.sc zs[i]) (by simp [hi])
   have e2:=h2 i (.sc zs[i]) (by simp [hi])
   unfold cellAt at e1
   rw [h5] at e1
   simp only at e1
   have e3:us i=zs[i]:=by
    generalize us i=u at e2
    cases e2 with
    | sc _ _ => rfl
   rw [e3,Array.getElem?_eq_getElem hi1] at e1
   injection e1 with e1
 rw [this]
end Go.Vai
namespace Go.Vai
open Go.RowKit Go.Proofs Go.Shelf Go.Sort
theorem replaceK_skip (b:UInt8) (hb : ¬ b=34) (r:List UInt8) : ∀ k,Lib.replaceK [34] [34,34] k (b :: r)=b :: Lib.replaceK [34] [34,34] k r
 | 0 => rfl
 | k + 1 => by
  have hi:Lib.index (b :: r) [34]=if Lib.index r [34] == -1 then -1 else Lib.index r [34] + 1:=by
   rw [Lib.index,if_neg]
   simp [List.isPrefixOf,Ne.symm hb]
  have hge:=Lib.index_ge r [34]
  rw [Lib.replaceK,Lib.replaceK,hi]
  by_cases h:Lib.index r [34] = -1
  ·simp [h]
  ·obtain ⟨i,hi⟩ : ∃ i:Nat,Lib.index r [34]=i:=⟨(Lib.index r [34]).toNat,by omega⟩
   have e2:((i:Int) + 1).toNat=i + 1:=by omega
   have e3 : ¬ ((i:Int) + 1 = -1):=by omega
   have e4 : ¬ ((i:Int) = -1):=by omega
   simp [hi,e2,e3,e4]
theorem replaceK_dbl : ∀ (s:List UInt8) (k:Nat),s.count 34≤k→Lib.replaceK [34] [34,34] k s=dbl s
 | [],0,_ => rfl
 | [],k + 1,_ => by simp [Lib.replaceK,Lib.index,dbl]
 | b :: r, k, h => by
  by_cases hb:b=34
  ·subst hb
   match k with
   | 0 => simp at h
   | k + 1 =>
    have hi:Lib.index (34 :: r) [34]=0:=by rw [Lib.index,if_pos]; simp [List.isPrefixOf]
    simp [Lib.replaceK,hi,dbl]
    exact replaceK_dbl r k (by simp at h; omega)
  ·rw [replaceK_skip b hb,dbl,if_neg hb,replaceK_dbl r k (by simp [List.count_cons,hb] at h; exact h)]
theorem replaceAll_dbl (s:List UInt8):Lib.replaceAll s [34] [34,34]=dbl s:=by
 unfold Lib.replaceAll Lib.replace
 rw [if_neg (by simp),replaceK_dbl _ _ (by simp [Lib.replaceNum,Lib.count_one])]
theorem enters24 : ∀ args w,(callFunc 63 args).run Tryz.prog w=.ok (.enter 63 args) w:=fun args w => enters_of Tryz.func63 (by kernel_rfl) rfl args w
theorem enters26 : ∀ args w,(callFunc 65 args).run Tryz.prog w=.ok (.enter 65 args) w:=fun args w => enters_of Tryz.func65 (by kernel_rfl) rfl args w
theorem enters49 : ∀ args w,(callFunc 87 args).run Tryz.prog w=.ok (.enter 87 args) w:=fun args w => enters_of Tryz.func87 (by kernel_rfl) rfl args w
theorem enters107 : ∀ args w,(callFunc 112 args).run Tryz.prog w=.ok (.enter 112 args) w:=fun args w => enters_of Tryz.func112 (by kernel_rfl) rfl args w
theorem enters119 : ∀ args w,(callFunc 198 args).run Tryz.prog w=.ok (.enter 198 args) w:=fun args w => enters_of Tryz.func198 (by kernel_rfl) rfl args w
theorem enters169 : ∀ args w,(callFunc 237 args).run Tryz.prog w=.ok (.enter 237 args) w:=fun args w => enters_of Tryz.func237 (by kernel_rfl) rfl args w
theorem enters194 : ∀ args w,(callFunc 211 args).run Tryz.prog w=.ok (.enter 211 args) w:=fun args w => enters_of Tryz.func211 (by kernel_rfl) rfl args w
theorem vr_str {σ:Nat→Option Loc} {h:PH} (s:ByteArray):VR σ h (.fz (.sc (.string s))) (.string s):=.fz _ _ (.sc _ rfl)
theorem vr_int {σ:Nat→Option Loc} {h:PH} (k:IntKind) (n:Int):VR σ h (.fz (.sc (.int k n))) (.int k n):=.fz _ _ (.sc _ rfl)
theorem vr_pair {σ:Nat→Option Loc} {h:PH} {x y:AV} {u v:Value} (h1:VR σ h x u) (h2:VR σ h y v):VR σ h (.tup [x,y]) (.tuple #[u,v]) :=
 .tup [x,y] [u,v] rfl fun i a b e1 e2 => match i with
  | 0 => by simp at e1 e2; subst e1; subst e2; exact h1
  | 1 => by simp at e1 e2; subst e1; subst e2; exact h2
  | n + 2 => by simp at e1
theorem below_grow (w:World) (k:Nat) (os:Array Obj):Below w.heap.size w (grow (w.drewN k) os):=by
 refine ⟨rfl,rfl,rfl,by simp [grow,World.drewN],fun i hi => ?_⟩
 simp [grow,World.drewN,Array.getElem?_append,hi]
theorem strs_at {h:PH} {es:List (List FV)} {v:Value} (r:FR h (.sl es) v) : ∀ {xs:List (List UInt8)},strsOf es=some xs→(xs=[]∧∃ A c,v=.slice A 0 c)∨∃ k o sp c,v=.slice (some ⟨k,o,sp⟩) xs.length c∧xs.length≤c∧(xs≠[]→sp=none)∧∀ (j:Nat) x,xs[j]? = some x→cellAt h k (o + j)=some (.string (mkB x)):=by
 have hlen : ∀ (es:List (List FV)) xs,strsOf es=some xs→xs.length=es.length∧∀ (i:Nat) x,xs[i]? = some x→es[i]? = some [.sc (.string (mkB x))]:=by
  intro es
  induction es with
  | nil => intro xs h; simp [strsOf] at h; subst h; simp
  | cons e r ih =>
   intro xs h
   unfold strsOf at h
   split at h
   ·rename_i e1; cases e1
   ·rename_i s r' e1
    injection e1 with e1 e2
    subst e1; subst e2
    obtain ⟨ys,h1,rfl⟩:=Option.map_eq_some_iff.1 h
    obtain ⟨h2,h3⟩:=ih ys h1
    refine ⟨by simp [h2],fun i x hx => ?_⟩
    cases i with
    | zero => simp at hx; subst hx; simp [mkB_data]
    | succ i => simp at hx ⊢; exact h3 i x hx
   ·cases h
 intro xs hx
 obtain ⟨h1,h2⟩:=hlen es xs hx
 cases r with
 | sl0 A cap => exact .inl ⟨by simpa using h1,A,cap,rfl⟩
 | sl _ sz k o sp cap vs hsz hcap hsp hat hr =>
  refine .inr ⟨k,o,sp,cap,by rw [h1],by omega,fun hne => hsp (by rintro rfl; simp at h1; exact hne h1),fun j x hj => ?_⟩
  have e1:=h2 j x hj
  have e2:=hat j _ 0 _ e1 rfl
  have e3:=hr j _ 0 _ e1 rfl
  have hs:sz=1:=(hsz j _ e1).symm
  subst hs
  rw [show o + j=o + (j * 1 + 0) by omega,e2]
  generalize vs j 0=u at e3
  cases e3 with
  | sc _ _ => rfl
theorem E0_sound (m : Int) (e3 e4 : Value) (h3 : isIf e3) (h4 : isIf e4) : FSound Tryz.prog (Gz m e3 e4) E0 := by
 intro f xs bl r bl' hf4 e
 clear hf4
 unfold E0 at e
 split at e
 ·split at e
  ·rename_i s a b
   split at e
   ·rename_i hc
    obtain ⟨ha,hb,hs⟩:=hc
    injection e with e; injection e with e1 e2; subst e1; subst e2
    refine rf_of_calls fun C σ w vs hG hl hv => .inl ⟨enters24 _ _,?_⟩
    match vs,hl with
    | [x, y, z], _ =>
     obtain rfl:=(hv 0 _ x rfl rfl).sc_inv
     obtain rfl:=(hv 1 _ y rfl rfl).sc_inv
     obtain rfl:=(hv 2 _ z rfl rfl).sc_inv
     obtain ⟨t,z,ht⟩:=hG.tab (g:=0) (zs:=[.int .i64 m]) rfl
     have ha1:a.size=1:=by have:=congrArg List.length ha; simpa using this
     have hb1:b.size=2:=by have:=congrArg List.length hb; simpa using this
     have hcnt:Lib.countB s a≤s.size:=by
      unfold Lib.countB
      rw [ha,Lib.count_one]
      exact Nat.le_trans List.count_le_length (by simp)
     have hh:=Tryz.strings_ReplaceAll s a b m w (by omega) (by simp [World.cell?,ht]) (by omega) (by rw [hb1]; omega)
     rw [ha,hb,replaceAll_dbl] at hh
     exact hh.mono fun e w' ⟨he,hw⟩ => ⟨_,he,fun σ h => vr_str _,hw⟩
   ·cases e
  ·rename_i es sep
   obtain ⟨l,hl1,e⟩:=Option.bind_eq_some_iff.1 e
   split at e
   ·rename_i hc
    injection e with e; injection e with e1 e2; subst e1; subst e2
    refine rf_of_calls fun C σ w vs hG hl hv => .inl ⟨enters26 _ _,?_⟩
    match vs,hl with
    | [x, y], _ =>
     have hx:=hv 0 _ x rfl rfl
     obtain rfl:=(hv 1 _ y rfl rfl).sc_inv
     cases hx with
     | fz _ _ hx =>
      rcases strs_at hx hl1 with ⟨rfl,A,c,rfl⟩ | ⟨k,o,sp,c,rfl,hcap,hsp,hat⟩
      ·exact (Tryz.strings_Join_none A c sep w).mono fun e w' ⟨he,hw⟩ => ⟨_,he,fun σ h => vr_str _,hw ▸ Below.refl _ _⟩
      ·by_cases hne:l=[]
       ·subst hne
        exact (Tryz.strings_Join_none _ c sep w).mono fun e w' ⟨he,hw⟩ => ⟨_,he,fun σ h => vr_str _,hw ▸ Below.refl _ _⟩
       ·obtain rfl:=hsp hne
        have hw1 : ∀ (j:Nat) x,(l.map mkB)[j]? = some x→w.cell? ⟨k,o + j,none⟩=some (.string x):=by
         intro j x hj
         rw [List.getElem?_map] at hj
         obtain ⟨y,hy,rfl⟩:=Option.map_eq_some_iff.1 hj
         have:=hat j y hy
         unfold cellAt at this
         split at this
         ·rename_i cs t z hh
          rw [frz_some] at hh
          simp [World.cell?,hh.2,this]
         ·cases this
        have hbk:k < w.heap.size:=by
         obtain ⟨x,hx⟩:=List.exists_mem_of_ne_nil _ hne
         obtain ⟨j,hj,hjx⟩:=List.getElem_of_mem hx
         exact World.block_lt_of_cell? w _ (hw1 j (mkB x) (by simp [hj,hjx]))
        have hmm:(l.map mkB).map (fun x:ByteArray => x.data.toList)=l:=by
         rw [List.map_map]
         conv => rhs; rw [← List.map_id l]
         apply List.map_congr_left
         intro x _
         simp
        have hj:=Tryz.strings_Join k o c (l.map mkB) sep w hw1 hbk (by simpa using hc.2) (by simpa using hcap) (by rw [hmm,← joinC_eq]; exact hc.1)
        rw [hmm,← joinC_eq,List.length_map] at hj
        exact hj.mono fun e w' ⟨he,hw⟩ => ⟨_,he,fun σ h => vr_str _,hw⟩
   ·cases e
  ·rename_i n
   split at e
   ·rename_i hc
    injection e with e; injection e with e1 e2; subst e1; subst e2
    refine rf_of_calls fun C σ w vs hG hl hv => .inl ⟨enters49 _ _,?_⟩
    match vs,hl with
    | [a], _ =>
     obtain rfl:=(hv 0 _ a rfl rfl).sc_inv
     have ht : Lib.TabIs Tryz.prog w "internal/strconv.uint64pow10" .u64 Lib.pow10Tab := by
      obtain ⟨t,z,ht⟩:=hG.tab (g:=5) (zs:=Lib.pow10Tab.map fun z => Value.int .u64 z) (by simp [Gz])
      unfold Lib.TabIs World.var?
      rw [show Tryz.prog.globalNamed "internal/strconv.uint64pow10" = some 5 by kernel_rfl]
      simp only [Option.bind_some,ht]
     rw [itoaC_eq n hc]
     exact (Tryz.strconv_Itoa n hc.1 hc.2 w ht).mono fun e w' ⟨he,k,os,hw⟩ => ⟨_,he,fun σ h => vr_str _,hw ▸ below_grow _ _ _⟩
   ·cases e
  ·rename_i s
   split at e
   ·rename_i hc
    injection e with e; injection e with e1 e2; subst e1; subst e2
    refine rf_of_calls fun C σ w vs hG hl hv => .inl ⟨enters107 _ _,?_⟩
    match vs,hl with
    | [a], _ =>
     obtain rfl:=(hv 0 _ a rfl rfl).sc_inv
     cases hat:Lib.atoiAll s.data.toList with
     | ok v =>
      refine (Tryz.strconv_Atoi_ok s (by omega) v hat w).mono fun e w' ⟨he,hw⟩ => ⟨_,he,fun σ h => vr_pair (vr_int _ _) (.fz _ _ (.sc _ rfl)),?_⟩
      rcases hw with rfl | ⟨t,rfl⟩
      ·exact Below.refl _ _
      ·exact Lib.bytesWorld_below _ _ _
     | range =>
      obtain ⟨t,z,ht⟩:=hG.tab (g:=4) (zs:=[e4]) rfl
      exact (Tryz.strconv_Atoi_range s hc hat e4 w (by simp [World.cell?,ht]) (.inr h4)).mono fun e w' ⟨N,he,_,_,hb⟩ => ⟨_,he,fun σ h => vr_pair (vr_int _ _) (.err _ _),hb⟩
     | _ =>
      obtain ⟨t,z,ht⟩:=hG.tab (g:=3) (zs:=[e3]) rfl
      exact (Tryz.strconv_Atoi_syntax s hc hat e3 w (by simp [World.cell?,ht]) (.inr h3)).mono fun e w' ⟨N,he,_,_,hb⟩ => ⟨_,he,fun σ h => vr_pair (vr_int _ _) (.err _ _),hb⟩
   ·cases e
  ·rename_i s
   split at e
   ·rename_i hc
    injection e with e; injection e with e1 e2; subst e1; subst e2
    refine rf_of_calls fun C σ w vs hG hl hv => .inl ⟨enters119 _ _,?_⟩
    match vs,hl with
    | [a],_ =>
     obtain rfl:=(hv 0 _ a rfl rfl).sc_inv
     refine (Tryz.strings_ToUpper_ascii s w hc.1 (fun j b hb => ?_)).mono fun e w' ⟨he,hw⟩ => ⟨_,he,fun σ h => vr_str _,hw⟩
     have:=List.all_eq_true.1 hc.2 b (List.mem_of_getElem? hb)
     simpa using this
   ·cases e
  ·rename_i s c
   injection e with e; injection e with e1 e2; subst e1; subst e2
   refine rf_of_calls fun C σ w vs hG hl hv => .inl ⟨enters169 _ _,?_⟩
   match vs,hl with
   | [a,b],_ =>
    obtain rfl:=(hv 0 _ a rfl rfl).sc_inv
    obtain rfl:=(hv 1 _ b rfl rfl).sc_inv
    exact (Tryz.stringslite_IndexByte s c w).mono fun e w' ⟨he,hw⟩ => ⟨_,he,fun σ h => vr_int _ _,hw ▸ Below.refl _ _⟩
  ·rename_i a b
   injection e with e; injection e with e1 e2; subst e1; subst e2
   refine rf_of_calls fun C σ w vs hG hl hv => .inl ⟨enters194 _ _,?_⟩
   match vs,hl with
   | [x,y],_ =>
    obtain rfl:=(hv 0 _ x rfl rfl).sc_inv
    obtain rfl:=(hv 1 _ y rfl rfl).sc_inv
    exact (Tryz.strings_Compare a b w).mono fun e w' ⟨he,hw⟩ => ⟨_,he,fun σ h => vr_int _ _,hw ▸ Below.refl _ _⟩
  ·cases e
 ·cases e
theorem E0_hi : ∀ (f:FuncId) (xs:List AV) (bl:List (Option Blk)),@LE.le Nat _ 4096 f→E0 f xs bl=none:=by
 intro f xs bl h
 unfold E0
 split
 ·split <;> first | rfl | (exfalso; revert h; decide)
 ·rfl
end Go.Vai
