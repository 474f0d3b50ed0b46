/-
  A part of the abstract run of Go functions and of the proof that it tells the truth.
-/
import Derived.RangeFuncRecord
import Derived.RangeFuncIn
import Derived.RangeFuncLeaves
import Derived.Test.YtljbbcpahapmnaaGreatDoorVaH
set_option linter.unusedVariables false
set_option linter.unusedSimpArgs false
namespace Go.Vai
variable {P:Program} {C:Ctx} {σ σn:Nat→Option Loc} {w:World}
theorem renL_map (ρ:Nat→Option Nat) : ∀ l:List AV,AV.renL ρ l=l.map (AV.ren ρ)
 | [] => by simp [AV.renL]
 | x :: r => by simp only [AV.renL,List.map_cons,renL_map ρ r]
theorem VR.ren {ρ:Nat→Option Nat} {h:PH} (hρ : ∀ b j,ρ b=some j→σn j=σ b) {x:AV} {v:Value} (r:VR σ h x v):VR σn h (x.ren ρ) v:=by
 induction r with
 | dead v => simp only [AV.ren]; exact .dead v
 | fz x v r => simp only [AV.ren]; exact .fz x v r
 | agg l vs e r ih =>
  simp only [AV.ren,renL_map]
  refine .agg _ vs (by simpa using e) fun i x v h1 h2 => ?_
  rw [List.getElem?_map] at h1
  obtain ⟨y,hy,rfl⟩:=Option.map_eq_some_iff.1 h1
  exact ih i y v hy h2
 | tup l vs e r ih =>
  simp only [AV.ren,renL_map]
  refine .tup _ vs (by simpa using e) fun i x v h1 h2 => ?_
  rw [List.getElem?_map] at h1
  obtain ⟨y,hy,rfl⟩:=Option.map_eq_some_iff.1 h1
  exact ih i y v hy h2
 | vir b sz off A e =>
  simp only [AV.ren]
  split
  ·rename_i c hc; exact .vir c sz off A ((hρ _ _ hc).trans e)
  ·exact .dead _
 | osl b sz off len k d n a cap e e1 e2 e3 =>
  simp only [AV.ren]
  split
  ·rename_i c hc; exact .osl c sz off len k d n a cap ((hρ _ _ hc).trans e) e1 e2 e3
  ·exact .dead _
 | bp b off k n e =>
  simp only [AV.ren]
  split
  ·rename_i c hc; exact .bp c off k n ((hρ _ _ hc).trans e)
  ·exact .dead _
 | ep b i f k d n sz e =>
  simp only [AV.ren]
  split
  ·rename_i c hc; exact .ep c i f k d n sz ((hρ _ _ hc).trans e)
  ·exact .dead _
 | fp c f k o us e r => simp only [AV.ren]; exact .fp c f k o us e r
 | fn f cap vs e r ih =>
  simp only [AV.ren,renL_map]
  refine .fn f _ vs (by simpa using e) fun i x v h1 h2 => ?_
  rw [List.getElem?_map] at h1
  obtain ⟨y,hy,rfl⟩:=Option.map_eq_some_iff.1 h1
  exact ih i y v hy h2
 | emp a => simp only [AV.ren]; exact .emp a
 | err t v => simp only [AV.ren]; exact .err t v
 | mp b k e =>
  simp only [AV.ren]
  split
  ·rename_i c hc; exact .mp c k ((hρ _ _ hc).trans e)
  ·exact .dead _
 | ifc t x v r ih => simp only [AV.ren]; exact .ifc t _ v ih
 | bm f fst vs e r ih =>
  simp only [AV.ren,renL_map]
  refine .bm f _ vs (by simpa using e) fun i x v h1 h2 => ?_
  rw [List.getElem?_map] at h1
  obtain ⟨y,hy,rfl⟩:=Option.map_eq_some_iff.1 h1
  exact ih i y v hy h2
 | yl b l e =>
  simp only [AV.ren]
  split
  ·rename_i c hc; exact .yl c l ((hρ _ _ hc).trans e)
  ·exact .dead _
theorem renLL_map (ρ:Nat→Option Nat) : ∀ l:List (List AV),AV.renLL ρ l=l.map fun c => c.map (AV.ren ρ)
 | [] => by simp [AV.renLL]
 | x :: r => by simp only [AV.renLL,List.map_cons,renLL_map ρ r,renL_map]
theorem ren_own {ρ:Nat→Option Nat} {x:AV} {sz:Nat} {ys:List (List FV)} (h:x.ren ρ=.own sz ys):x=.own sz ys:=by
 cases x <;> simp only [AV.ren] at h <;> first | exact h | (cases h; done) | (split at h <;> cases h)
theorem SubAt.ren {ρ:Nat→Option Nat} {c:Array Value} {d sz:Nat} {es:List (List AV)} {i j q:Nat} (h:SubAt c d sz (AV.renLL ρ es) i j q):SubAt c d sz es i j q:=by
 obtain ⟨cl,s,y,o,sp,n,cap,h1,h2,h3,h4⟩:=h
 rw [renLL_map,List.getElem?_map] at h1
 obtain ⟨cl0,e1,rfl⟩:=Option.map_eq_some_iff.1 h1
 rw [List.getElem?_map] at h2
 obtain ⟨x,e2,e3⟩:=Option.map_eq_some_iff.1 h2
 exact ⟨cl0,s,y,o,sp,n,cap,e1,by rw [e2,ren_own e3],h3,h4⟩
theorem SubAt.ren' {ρ:Nat→Option Nat} {c:Array Value} {d sz:Nat} {es:List (List AV)} {i j q:Nat} (h:SubAt c d sz es i j q):SubAt c d sz (AV.renLL ρ es) i j q:=by
 obtain ⟨cl,s,y,o,sp,n,cap,h1,h2,h3,h4⟩:=h
 refine ⟨cl.map (AV.ren ρ),s,y,o,sp,n,cap,?_,?_,h3,h4⟩
 ·rw [renLL_map,List.getElem?_map,h1]; rfl
 ·rw [List.getElem?_map,h2]; simp [AV.ren]
theorem CR.ren {ρ:Nat→Option Nat} {h:PH} (hρ : ∀ b j,ρ b=some j→σn j=σ b) {x:AV} {v:Value} (r:CR σ h w x v):CR σn h w (x.ren ρ) v:=by
 cases x <;> first | exact CR.of (VR.ren hρ r) | (simp only [AV.ren]; exact r)
theorem Owns.ren {ρ:Nat→Option Nat} {b j:Nat} (hb:σn j=σ b) {blk:Blk} {q:Nat} (h:Owns σn w j (blk.ren ρ) q):Owns σ w b blk q:=by
 generalize hB:blk.ren ρ=B at h
 cases h with
 | «at» _ _ d n sz h => exact .at _ _ d n sz (hb ▸ h)
 | sub sz es k d n c e z i j' _ h1 h2 h3 =>
  cases blk <;> simp only [Blk.ren] at hB <;> try (cases hB; done)
  rename_i sz0 es0
  injection hB with q1 q2
  subst q1; subst q2
  exact .sub _ _ k d n c e z i j' q (hb ▸ h1) h2 h3.ren
 | buf T U l k d n sz c e z q o sp len cap h1 h2 h3 =>
  cases blk <;> simp only [Blk.ren] at hB <;> try (cases hB; done)
  injection hB with q1 q2 q3
  subst q1; subst q2; subst q3
  exact .buf _ _ _ k d n sz c e z _ o sp len cap (hb ▸ h1) h2 h3
theorem Owns.ren' {ρ:Nat→Option Nat} {b j:Nat} (hb:σn j=σ b) {blk:Blk} {q:Nat} (h:Owns σ w b blk q):Owns σn w j (blk.ren ρ) q:=by
 cases h with
 | «at» _ _ d n sz h => exact .at _ _ d n sz (hb.trans h)
 | sub sz es k d n c e z i j' _ h1 h2 h3 => exact .sub sz _ k d n c e z i j' q (hb.trans h1) h2 h3.ren'
 | buf T U l k d n sz c e z _ o sp len cap h1 h2 h3 => exact .buf T U l k d n sz c e z _ o sp len cap (hb.trans h1) h2 h3
theorem BR.ren {rc:RC} {ρ:Nat→Option Nat} {h h':PH} (hρ : ∀ b j,ρ b=some j→σn j=σ b) {b j:Nat} (hb:σn j=σ b) (hl:HLe h h') {blk:Blk} (r:BR rc σ h w b blk):BR rc σn h' w j (blk.ren ρ):=by
 cases r with
 | box cs k c e z h1 h2 h3 h4 h5 =>
  simp only [Blk.ren,renL_map]
  refine .box _ k c e z (by rw [hb,h1]; simp) h2 h3 (by simpa using h4) fun i x v e1 e2 => ?_
  rw [List.getElem?_map] at e1
  obtain ⟨y,hy,rfl⟩:=Option.map_eq_some_iff.1 e1
  exact ((h5 i y v hy e2).mono (SLe.refl _) hl).ren hρ
 | vir sz h1 => exact .vir sz (hb.trans h1)
 | arr sz es k d c e z h1 h2 h3 h4 h5 =>
  refine .arr sz es k d c e z (hb.trans h1) h2 h3 h4 fun i cl j x e1 e2 => ?_
  obtain ⟨v,hv,r⟩:=h5 i cl j x e1 e2
  exact ⟨v,hv,r.mono hl⟩
 | rvir sz h1 => simp only [Blk.ren,AV.renLL]; exact .rvir sz (hb.trans h1)
 | row sz es k d c e z h1 h2 h3 h4 h5 h6 h7 =>
  simp only [Blk.ren]
  refine .row sz _ k d c e z (hb.trans h1) h2 h3 (fun i cl e1 => ?_) (fun i cl j x e1 e2 => ?_) (fun i j i' j' q g1 g2 => h6 _ _ _ _ _ g1.ren g2.ren) fun i j q g => h7 _ _ _ g.ren
  ·rw [renLL_map,List.getElem?_map] at e1
   obtain ⟨cl0,e1',rfl⟩:=Option.map_eq_some_iff.1 e1
   rw [List.length_map]; exact h4 i cl0 e1'
  ·rw [renLL_map,List.getElem?_map] at e1
   obtain ⟨cl0,e1',rfl⟩:=Option.map_eq_some_iff.1 e1
   rw [List.getElem?_map] at e2
   obtain ⟨y,e2',rfl⟩:=Option.map_eq_some_iff.1 e2
   obtain ⟨v,hv,r,hlf⟩:=h5 i cl0 j y e1' e2'
   exact ⟨v,hv,(r.mono (SLe.refl _) hl fun _ _ _ _ _ _ _ _ _ _ => rfl).ren hρ,hlf⟩
 | map es clock k E h1 h2 h3 h4 =>
  exact .map es clock k E (hb.trans h1) h2 h3 fun i p e e1 e2 => let ⟨g1,g2,g3⟩:=h4 i p e e1 e2; ⟨g1,g2,g3.mono hl⟩
 | iter mb since seen last k mk h1 h2 h3 =>
  simp only [Blk.ren]
  refine .iter _ since seen last k mk (hb.trans h1) h2 fun m e => ?_
  cases mb with
  | none => cases e
  | some m0 =>
   obtain ⟨km,g1,g2⟩:=h3 m0 rfl
   exact ⟨km,(hρ m0 m e).trans g1,g2⟩
 | loop pf caps st l N r h1 h2 h3 h4 h5 h6 h7 =>
  simp only [Blk.ren]
  refine .loop pf _ st l N r (hb.trans h1) h2 h3 h4 (fun i t x e => ?_) h6 h7
  rw [List.getElem?_map] at e
  obtain ⟨⟨t0,y⟩,hy,e2⟩:=Option.map_eq_some_iff.1 e
  injection e2 with e2 e3
  subst e2; subst e3
  exact ((h5 i _ y hy).mono (SLe.refl _) hl).ren hρ
 | bld T U l k p v h1 h2 h3 h4 => exact .bld T U l k p v (hb.trans h1) h2 h3 h4
theorem idx_get : ∀ (ns:List Nat) (b j:Nat),idx ns b=some j→ns[j]? = some b
 | [],b,j,e => by simp [idx] at e
 | c :: r, b, j, e => by
  simp only [idx] at e
  split at e
  ·rename_i hc; injection e with e; subst e; simp [hc]
  ·split at e
   ·rename_i i hi; injection e with e; subst e; simpa using idx_get r b i hi
   ·cases e
theorem clos_pre (hp:HW) : ∀ (n:Nat) (l acc:List Nat),∃ r,clos hp n l acc=acc ++ r
 | 0,l,acc => ⟨[],by simp [clos]⟩
 | n + 1,[],acc => ⟨[],by simp [clos]⟩
 | n + 1, b :: r, acc => by
  simp only [clos]
  split
  ·exact clos_pre hp n r acc
  ·split
   ·exact clos_pre hp n r acc
   ·rename_i blk _
    obtain ⟨q,hq⟩:=clos_pre hp n (blk.names ++ r) (acc ++ [b])
    exact ⟨[b] ++ q,by rw [hq,List.append_assoc]⟩
theorem clos_nodup (hp:HW) : ∀ (n:Nat) (l acc:List Nat),acc.Nodup→(clos hp n l acc).Nodup
 | 0,l,acc,h => by simpa [clos] using h
 | n + 1,[],acc,h => by simpa [clos] using h
 | n + 1, b :: r, acc, h => by
  simp only [clos]
  split
  ·exact clos_nodup hp n r acc h
  ·rename_i hc
   split
   ·exact clos_nodup hp n r acc h
   ·refine clos_nodup hp n _ _ (List.nodup_append.2 ⟨h,by simp,fun x hx y hy => ?_⟩)
    rintro rfl
    simp at hy
    subst hy
    simp at hc
    exact hc hx
theorem clos_live (hp:HW) : ∀ (n:Nat) (l acc:List Nat),∀ b∈clos hp n l acc,b∈acc∨∃ blk,hk hp b=some blk
 | 0,l,acc,b,h => by simp only [clos] at h; exact .inl h
 | n + 1,[],acc,b,h => by simp only [clos] at h; exact .inl h
 | n + 1, c :: r, acc, b, h => by
  simp only [clos] at h
  split at h
  ·exact clos_live hp n r acc b h
  ·split at h
   ·exact clos_live hp n r acc b h
   ·rename_i blk hb
    rcases clos_live hp n _ _ b h with h | h
    ·rcases List.mem_append.1 h with h | h
     ·exact .inl h
     ·simp at h; subst h; exact .inr ⟨blk,hb⟩
    ·exact .inr h
theorem blks_get (hp:HW) (ρ:Nat→Option Nat) : ∀ (ns:List Nat) (j:Nat),(blks hp ρ ns)[j]? = (ns[j]?).map fun b => (hk hp b).map (Blk.ren ρ)
 | [],j => by simp [blks]
 | b :: r,0 => by
  simp only [blks,List.getElem?_cons_zero,Option.map_some]
  cases hk hp b <;> rfl
 | b :: r,j + 1 => by simpa [blks] using blks_get hp ρ r j
theorem blks_length (hp:HW) (ρ:Nat→Option Nat) : ∀ (ns:List Nat),(blks hp ρ ns).length=ns.length
 | [] => rfl
 | b :: r => by simp [blks,blks_length hp ρ r]
theorem hk_numd : ∀ (bl:List (Option Blk)) (i j:Nat),hk (numd i bl) j=if i≤j then (bl[j - i]?).join else none
 | [],i,j => by simp [numd,hk]
 | b :: r, i, j => by
  simp only [numd,hk]
  by_cases e:i=j
  ·subst e; simp
  ·rw [if_neg e,hk_numd r (i + 1) j]
   by_cases h:i≤j
   ·rw [if_pos (by omega),if_pos h]
    have:j - i=(j - (i + 1)) + 1:=by omega
    rw [this,List.getElem?_cons_succ]
   ·rw [if_neg (by omega),if_neg h]
theorem hk_numd0 (bl:List (Option Blk)) (j:Nat):hk (numd 0 bl) j=(bl[j]?).join:=by rw [hk_numd]; simp
theorem hk_numd_blks (hp:HW) (ρ:Nat→Option Nat) (ns:List Nat) (j:Nat):hk (numd 0 (blks hp ρ ns)) j=(ns[j]?).bind fun b => (hk hp b).map (Blk.ren ρ):=by
 rw [hk_numd0,blks_get]
 cases ns[j]? <;> rfl
def σr (σ:Nat→Option Loc) (ns:List Nat):Nat→Option Loc:=fun j => (ns[j]?).bind σ
theorem σr_idx {ns:List Nat} {b j:Nat} (h:idx ns b=some j):σr σ ns j=σ b:=by simp [σr,idx_get ns b j h]
theorem σr_get {ns:List Nat} {b j:Nat} (h:ns[j]? = some b):σr σ ns j=σ b:=by simp [σr,h]
theorem live_ren {hp:HW} {ns:List Nat} {j k:Nat} (h:Live (hk (numd 0 (blks hp (idx ns) ns))) (σr σ ns) w j k) : ∃ b,ns[j]? = some b∧Live (hk hp) σ w b k:=by
 obtain ⟨blk,h1,h2⟩:=h
 rw [hk_numd_blks] at h1
 cases hb:ns[j]? with
 | none => rw [hb] at h1; cases h1
 | some b =>
  rw [hb] at h1
  obtain ⟨blk0,h0,rfl⟩:=Option.map_eq_some_iff.1 h1
  exact ⟨b,rfl,blk0,h0,h2.ren (σr_get hb)⟩
theorem live_ren' {hp:HW} {ns:List Nat} {j b k:Nat} (hb:ns[j]? = some b) (h:Live (hk hp) σ w b k):Live (hk (numd 0 (blks hp (idx ns) ns))) (σr σ ns) w j k:=by
 obtain ⟨blk,h1,h2⟩:=h
 refine ⟨blk.ren (idx ns),?_,h2.ren' (σr_get hb)⟩
 rw [hk_numd_blks,hb]; simp [h1]
theorem HRel.norm {hp:HW} (R:HRel C σ (hk hp) w) {ns:List Nat} (hnd:ns.Nodup) :
 HRel C (σr σ ns) (hk (numd 0 (blks hp (idx ns) ns))) w∧HLe (frz (hk hp) σ C.X w) (frz (hk (numd 0 (blks hp (idx ns) ns))) (σr σ ns) C.X w):=by
 have hl:HLe (frz (hk hp) σ C.X w) (frz (hk (numd 0 (blks hp (idx ns) ns))) (σr σ ns) C.X w):=by
  intro k o e
  rw [frz_some] at e ⊢
  exact ⟨⟨fun ⟨j,hj⟩ => let ⟨b,_,hb⟩:=live_ren hj; e.1.1 ⟨b,hb⟩,e.1.2⟩,e.2⟩
 refine ⟨⟨fun j blk e => ?_,fun j j' k h1 h2 => ?_,fun j k h1 => ?_,R.fr,R.gl.mono hl,R.xl⟩,hl⟩
 ·rw [hk_numd_blks] at e
  cases hb:ns[j]? with
  | none => rw [hb] at e; cases e
  | some b =>
   rw [hb] at e
   obtain ⟨blk0,h0,rfl⟩:=Option.map_eq_some_iff.1 e
   exact (R.bk b blk0 h0).ren (fun b j h => σr_idx h) (σr_get hb) hl
 ·obtain ⟨b,hb,g1⟩:=live_ren h1
  obtain ⟨b',hb',g2⟩:=live_ren h2
  have:=R.inj _ _ _ g1 g2
  subst this
  obtain ⟨l1,e1⟩:=List.getElem?_eq_some_iff.1 hb
  obtain ⟨l2,e2⟩:=List.getElem?_eq_some_iff.1 hb'
  exact (List.getElem_inj hnd).1 (e1.trans e2.symm)
 ·obtain ⟨b,hb,g1⟩:=live_ren h1
  exact R.ow _ _ g1
def Does (P:Program) (f:FuncId) (args:Array Value) (w:World) (K:Ending→World→Prop):Prop :=
 ((callFunc f args).run P w=.ok (.enter f args) w∧Calls P f args w K)∨∃ v w',(callFunc f args).run P w=.ok (.value v) w'∧K (.returned v) w'
def Told (P:Program) (G:Nat→Option (List FV)) (Y:Nat→Prop) (xs:List AV) (bl:List (Option Blk)) (r:AV) (bl':List (Option Blk)) (w:World) (vs:List Value) (D:(Ending→World→Prop)→Prop):Prop :=
 ∀ (C : Ctx) (σ : Nat → Option Loc), C.G = G → C.rc = rcOf P → C.w0 = w → (∀ k, Y k → C.X k ∧ C.own0 k) → (∀ b, bl.length ≤ b → σ b = none) → HRel C σ (hk (numd 0 bl)) w →
     xs.length=vs.length→(∀ (i:Nat) (x:AV) (v:Value),xs[i]? = some x→vs[i]? = some v→VR σ (frz (hk (numd 0 bl)) σ C.X w) x v) →
     ∀ K:Ending→World→Prop,
      (∀ u σ' w',VR σ' (frz (hk (numd 0 bl')) σ' C.X w') r u→HRel C σ' (hk (numd 0 bl')) w'→(∀ b,b < bl.length→σ' b=σ b)→(∀ b,bl'.length≤b→σ' b=none)→K (.returned u) w') →
      D K
def FSound (P:Program) (G:Nat→Option (List FV)) (rf:RF):Prop :=
 ∀ f xs bl r bl',f < 4096→rf f xs bl=some (r,bl')→bl.length≤bl'.length ∧
  ∀ (w:World) (vs:List Value),Told P G (fun _ => False) xs bl r bl' w vs (Does P f vs.toArray w)
def yTmps (r:Loop) (us:List Value):Array Value:=(r.params.zip us.toArray).foldl (fun tmps (t,a) => tmps.setIfInBounds t a) r.tmps
def behindR (r:Loop) (ex:Option Ex):Loop:={ r with state:=if ex.isNone then .ready else .done,pending:=ex.bind Ex.jump }
def RoundK (P:Program) (l:Nat) (r:Loop) (us:List Value) (ex:Option Ex) (w:World) (K:Ending→World→Prop):Prop :=
 RoundIn Fence.wide 0 P l r.fn (yTmps r us) r.assign r.body w fun e w'' => ∃ u w',K (.returned u) w'∧w'.heap[l]? = some (.loop { r with state:=.busy })∧e=.returned (.bool ex.isNone)∧w''=w'.putObj l (.loop (behindR r ex))
def capV (r:Loop) (caps:List (Nat × AV)):Value:=.tuple (caps.map fun p => .func (.func p.1) #[r.tmps.getD p.1 undef] #[]).toArray
def YSound (P:Program) (G:Nat→Option (List FV)) (rf:RF):Prop :=
 ∀ pf caps xs bl q bl' N ps as bd, rcOf P pf = some (N, ps, as, bd) → 4096 ≤ pf → rf pf (capE caps :: xs) bl = some (q, bl') → ∃ ex, avEx q = some ex ∧ (∀ e, ex = some e → e.jump.isSome = true) ∧ bl.length ≤ bl'.length ∧ xs.length = ps.size ∧
  ∀ (w:World) (l:Nat) (r:Loop) (us:List Value),w.heap[l]? = some (.loop r)→r.state=.ready→r.pending=none→r.params=ps→r.assign=as→r.body=bd→N≤r.tmps.size→xs.length=us.length →
   Told P G (fun k => k=l) (capE caps :: xs) bl q bl' w (capV r caps :: us) (RoundK P l r us ex w)
structure RFSound (P:Program) (G:Nat→Option (List FV)) (rf:RF):Prop where
 fn:FSound P G rf
 yl:YSound P G rf
theorem backName_lt {ns:List Nat} {base j:Nat} (h:j < ns.length):ns[j]? = some (backName ns base j):=by
 simp only [backName]
 rw [List.getElem?_eq_getElem h]
theorem backName_ge {ns:List Nat} {base j:Nat} (h:ns.length≤j):backName ns base j=base + (j - ns.length):=by
 simp only [backName]
 rw [List.getElem?_eq_none h]
theorem backName_inj {ns:List Nat} {base:Nat} (hnd:ns.Nodup) (hlt : ∀ b∈ns,b < base) {i j:Nat} (e:backName ns base i=backName ns base j):i=j:=by
 rcases Nat.lt_or_ge i ns.length with h1 | h1 <;> rcases Nat.lt_or_ge j ns.length with h2 | h2
 ·have e1:=backName_lt (base:=base) h1
  have e2:=backName_lt (base:=base) h2
  rw [e] at e1
  obtain ⟨_,g1⟩:=List.getElem?_eq_some_iff.1 e1
  obtain ⟨_,g2⟩:=List.getElem?_eq_some_iff.1 e2
  exact (List.getElem_inj hnd).1 (g1.trans g2.symm)
 ·have:=hlt _ (List.mem_of_getElem? (backName_lt (base:=base) h1))
  rw [e,backName_ge h2] at this; omega
 ·have:=hlt _ (List.mem_of_getElem? (backName_lt (base:=base) h2))
  rw [← e,backName_ge h1] at this; omega
 ·rw [backName_ge h1,backName_ge h2] at e; omega
theorem hk_back {ns:List Nat} {base:Nat} {ρ:Nat→Option Nat} {hp:HW} (hinj : ∀ i j,backName ns base i=backName ns base j→i=j) : ∀ (bl:List (Option Blk)) (j i:Nat),j≤i→i < j + bl.length →
 hk (backHp ns base ρ j bl ++ hp) (backName ns base i)=((bl[i - j]?).join).map (Blk.ren ρ)
 | [],j,i,h1,h2 => by simp at h2; omega
 | b :: r, j, i, h1, h2 => by
  simp only [backHp,List.cons_append,hk]
  by_cases e:j=i
  ·subst e
   rw [if_pos rfl]
   cases b <;> simp
  ·rw [if_neg (fun h => e (hinj _ _ h)),hk_back hinj r (j + 1) i (by omega) (by simp at h2; omega)]
   have:i - j=(i - (j + 1)) + 1:=by omega
   rw [this,List.getElem?_cons_succ]
theorem hk_back_ne {ns:List Nat} {base:Nat} {ρ:Nat→Option Nat} {hp:HW} {c:Nat} : ∀ (bl:List (Option Blk)) (j:Nat),(∀ i,j≤i→i < j + bl.length→backName ns base i≠c) →
 hk (backHp ns base ρ j bl ++ hp) c=hk hp c
 | [],j,h => by simp [backHp]
 | b :: r,j,h => by
  simp only [backHp,List.cons_append,hk]
  rw [if_neg (h j (Nat.le_refl _) (by simp)),hk_back_ne r (j + 1) fun i h1 h2 => h i (by omega) (by simp; omega)]
theorem BR.loc {rc:RC} {h:PH} {b:Nat} {blk:Blk} (B:BR rc σ h w b blk):σ b≠none:=by
 cases B with
 | box cs k c e z h1 => rw [h1]; simp
 | vir sz h1 => rw [h1]; simp
 | arr sz es k d c e z h1 => rw [h1]; simp
 | rvir sz h1 => rw [h1]; simp
 | row sz es k d c e z h1 => rw [h1]; simp
 | map es clock k E h1 => rw [h1]; simp
 | iter mb since seen last k mk h1 => rw [h1]; simp
 | loop pf caps st l N r h1 => rw [h1]; simp
 | bld T U l k p v h1 => rw [h1]; simp
theorem call_core {rf:RF} {Y:Nat→Prop} {D:(Ending→World→Prop)→Prop} {f:FuncId} {xs:List AV} {st:St} {v:AV} {ws:HW} {nn:Nat} {vs:List Value} (hrc:C.rc=rcOf P)
 (RS : ∀ r bl ns,ns=clos st.hp 1000 (AV.namesL xs) []→rf f (AV.renL (idx ns) xs) (blks st.hp (idx ns) ns)=some (r,bl)→ns.length≤bl.length∧Told P C.G Y (AV.renL (idx ns) xs) (blks st.hp (idx ns) ns) r bl w vs D)
 (hY : ∀ k,Y k→C.X k∧(C.own0 k∨C.w0.heap.size≤k)) (e:callOp rf f xs st=some (v,ws,nn)) (R:HRel C σ (hk st.hp) w) (hfr : ∀ b,st.nx≤b→σ b=none) (hlen:xs.length=vs.length)
 (hxs : ∀ (i:Nat) (x:AV) (u:Value),xs[i]? = some x→vs[i]? = some u→VR σ (frz (hk st.hp) σ C.X w) x u) {K:Ending→World→Prop}
 (hK : ∀ u σ' w',VR σ' (frz (hk (ws ++ st.hp)) σ' C.X w') v u→HRel C σ' (hk (ws ++ st.hp)) w'→SLe σ σ'→HLe (frz (hk st.hp) σ C.X w) (frz (hk (ws ++ st.hp)) σ' C.X w')→(∀ b,b < st.nx→σ' b=σ b)→(∀ b,st.nx + nn≤b→σ' b=none)→K (.returned u) w') :
 D K:=by
 simp only [callOp] at e
 generalize hns:clos st.hp 1000 (AV.namesL xs) []=ns at e
 have hnd:ns.Nodup:=hns ▸ clos_nodup st.hp 1000 _ [] (by simp)
 have hlv : ∀ b∈ns,∃ blk,hk st.hp b=some blk:=fun b hb => by
  rw [← hns] at hb
  rcases clos_live st.hp 1000 _ [] b hb with h | h
  ·cases h
  ·exact h
 have hlt : ∀ b∈ns,b < st.nx:=fun b hb => by
  obtain ⟨blk,h⟩:=hlv b hb
  have:=(R.bk b blk h).loc
  rcases Nat.lt_or_ge b st.nx with h | h
  ·exact h
  ·exact absurd (hfr b h) this
 split at e
 case h_2 => cases e
 rename_i r bl hrf
 injection e with e; injection e with e1 e2; injection e2 with e2 e3
 subst e1; subst e2; subst e3
 generalize hρ:(fun j => some (backName ns st.nx j))=ρ at hK ⊢
 obtain ⟨hbl,S⟩:=RS _ _ ns hns.symm hrf
 have hinj:=fun i j => backName_inj (i:=i) (j:=j) hnd hlt
 let Xc:Nat→Prop:=fun k => C.X k∨∃ b,b ∉ ns∧Live (hk st.hp) σ w b k
 let hpc:=hk (numd 0 (blks st.hp (idx ns) ns))
 let oc:Nat→Prop:=fun k => ∃ b,Live hpc (σr σ ns) w b k
 let Cc:Ctx:={ G:=C.G,rc:=C.rc,X:=Xc,own0:=fun k => oc k∨Y k,w0:=w,N:=0 }
 have hlvx : ∀ k,((∃ j,Live hpc (σr σ ns) w j k)∨Xc k)↔((∃ b,Live (hk st.hp) σ w b k)∨C.X k):=by
  intro k
  constructor
  ·rintro (⟨j,hj⟩ | h | ⟨b,_,hb⟩)
   ·obtain ⟨b,_,hb⟩:=live_ren hj; exact .inl ⟨b,hb⟩
   ·exact .inr h
   ·exact .inl ⟨b,hb⟩
  ·rintro (⟨b,hb⟩ | h)
   ·by_cases hbn:b∈ns
    ·obtain ⟨j,hj⟩:=List.getElem?_of_mem hbn
     exact .inl ⟨j,live_ren' hj hb⟩
    ·exact .inr (.inr ⟨b,hbn,hb⟩)
   ·exact .inr (.inl h)
 have hfrz:frz hpc (σr σ ns) Xc w=frz (hk st.hp) σ C.X w:=by
  funext k
  unfold frz
  by_cases h:(∃ b,Live (hk st.hp) σ w b k)∨C.X k
  ·rw [if_pos h,if_pos ((hlvx k).2 h)]
  ·rw [if_neg h,if_neg (fun h' => h ((hlvx k).1 h'))]
 have hocl : ∀ k,oc k→∃ b,b∈ns∧Live (hk st.hp) σ w b k:=fun k ⟨j,hj⟩ => let ⟨b,hb,h⟩:=live_ren hj; ⟨b,List.mem_of_getElem? hb,h⟩
 have hXo : ∀ k,Xc k→¬ oc k:=by
  intro k hx ho
  obtain ⟨b,hb,hlb⟩:=hocl k ho
  rcases hx with hx | ⟨b',hb',hlb'⟩
  ·exact (R.ow _ _ hlb).1 hx
  ·have:=R.inj _ _ _ hlb hlb'
   subst this; exact hb' hb
 have RC:HRel Cc (σr σ ns) hpc w:=by
  refine ⟨fun j blk hj => ?_,fun j j' k h1 h2 => ?_,fun j k h1 => ?_,Frame0.refl _ _,by show GR C.G (frz hpc (σr σ ns) Xc w); rw [hfrz]; exact R.gl,fun k hx => ?_⟩
  ·show BR C.rc (σr σ ns) (frz hpc (σr σ ns) Xc w) w j blk
   rw [hfrz]
   have hj':hk (numd 0 (blks st.hp (idx ns) ns)) j=some blk:=hj
   rw [hk_numd_blks] at hj'
   cases hb:ns[j]? with
   | none => rw [hb] at hj'; cases hj'
   | some b =>
    rw [hb] at hj'
    obtain ⟨blk0,h0,rfl⟩:=Option.map_eq_some_iff.1 hj'
    exact (R.bk b blk0 h0).ren (fun b j h => σr_idx h) (σr_get hb) (HLe.refl _)
  ·exact (R.norm hnd).1.inj _ _ _ h1 h2
  ·exact ⟨fun hx => hXo k hx ⟨j,h1⟩,((R.norm hnd).1.ow _ _ h1).2.1,.inl (.inl ⟨j,h1⟩)⟩
  ·rcases hx with hx | ⟨b,_,hb⟩
   ·have:=R.xl k hx; have:=R.fr.size; show k < w.heap.size; omega
   ·exact (R.ow _ _ hb).2.1
 refine S Cc (σr σ ns) rfl hrc rfl (fun k hk => ⟨.inl (hY k hk).1,.inr hk⟩) (fun b hb => ?_) RC (by rw [renL_map]; simpa using hlen) (fun i x u h1 h2 => ?_) K fun u σ' w' hv R' hold hnew => ?_
 ·rw [blks_length] at hb
  simp [σr,List.getElem?_eq_none hb]
 ·show VR (σr σ ns) (frz hpc (σr σ ns) Xc w) x u
  rw [hfrz]
  rw [renL_map,List.getElem?_map] at h1
  obtain ⟨y,hy,rfl⟩:=Option.map_eq_some_iff.1 h1
  exact (hxs i y u hy h2).ren fun b j h => σr_idx h
 rw [blks_length] at hold
 let σb:Nat→Option Loc:=fun b => if b < st.nx then σ b else σ' (ns.length + (b - st.nx))
 have hσb : ∀ j,σb (backName ns st.nx j)=σ' j:=by
  intro j
  rcases Nat.lt_or_ge j ns.length with h | h
  ·have hg:=backName_lt (base:=st.nx) h
   have:=hlt _ (List.mem_of_getElem? hg)
   show (if backName ns st.nx j < st.nx then σ (backName ns st.nx j) else _)=_
   rw [if_pos this,hold j h,σr_get hg]
  ·show (if backName ns st.nx j < st.nx then _ else σ' (ns.length + (backName ns st.nx j - st.nx)))=_
   rw [backName_ge h,if_neg (by omega)]
   congr 1; omega
 have hρb : ∀ j c,ρ j=some c→σb c=σ' j:=by
  intro j c h
  rw [← hρ] at h
  injection h with h; subst h
  exact hσb j
 have hback : ∀ b blk,hk (backHp ns st.nx ρ 0 bl ++ st.hp) b=some blk→(∃ j blk0,b=backName ns st.nx j∧hk (numd 0 bl) j=some blk0∧blk=blk0.ren ρ)∨(b ∉ ns∧b < st.nx∧hk st.hp b=some blk):=by
  intro b blk h
  by_cases hex : ∃ j,j < bl.length∧backName ns st.nx j=b
  ·obtain ⟨j,hj,rfl⟩:=hex
   rw [hk_back hinj bl 0 j (by omega) (by omega)] at h
   obtain ⟨blk0,h0,rfl⟩:=Option.map_eq_some_iff.1 h
   exact .inl ⟨j,blk0,rfl,by rw [hk_numd0]; simpa using h0,rfl⟩
  ·rw [hk_back_ne bl 0 fun i _ h2 e => hex ⟨i,by omega,e⟩] at h
   refine .inr ⟨fun hb => ?_,?_,h⟩
   ·obtain ⟨j,hj⟩:=List.getElem?_of_mem hb
    have hjl:=(List.getElem?_eq_some_iff.1 hj).1
    have:=backName_lt (base:=st.nx) hjl
    rw [hj] at this
    injection this with this
    exact hex ⟨j,by omega,this.symm⟩
   ·have:=(R.bk b blk h).loc
    rcases Nat.lt_or_ge b st.nx with h | h
    ·exact h
    ·exact absurd (hfr b h) this
 have hback1 : ∀ j blk0,hk (numd 0 bl) j=some blk0→hk (backHp ns st.nx ρ 0 bl ++ st.hp) (backName ns st.nx j)=some (blk0.ren ρ):=by
  intro j blk0 h
  have hj:j < bl.length:=by
   rw [hk_numd0] at h
   rcases Nat.lt_or_ge j bl.length with hh | hh
   ·exact hh
   ·rw [List.getElem?_eq_none hh] at h; cases h
  rw [hk_back hinj bl 0 j (by omega) (by omega)]
  rw [hk_numd0] at h
  simp [h]
 have hback2 : ∀ b,b ∉ ns→b < st.nx→hk (backHp ns st.nx ρ 0 bl ++ st.hp) b=hk st.hp b:=by
  intro b hb hb2
  refine hk_back_ne bl 0 fun i _ h2 e => ?_
  rcases Nat.lt_or_ge i ns.length with h | h
  ·exact hb (e ▸ List.mem_of_getElem? (backName_lt (base:=st.nx) h))
  ·rw [backName_ge h] at e; omega
 have hkeep0 : ∀ k,k < w.heap.size→¬ (oc k∨Y k)→w'.heap[k]? = w.heap[k]? := R'.fr.keep
 have hkeep : ∀ k,k < w.heap.size→¬ oc k→¬ C.X k→w'.heap[k]? = w.heap[k]? := fun k h1 h2 h3 => hkeep0 k h1 (fun h => h.elim h2 fun h => h3 (hY k h).1)
 have hkb : ∀ b blk,b ∉ ns→hk st.hp b=some blk→∀ k d n sz,σ b=some (.here k d n sz)→w'.heap[k]? = w.heap[k]? := by
  intro b blk hb h1 k d n sz hσ
  have hlb:Live (hk st.hp) σ w b k:=⟨blk,h1,.at _ _ _ _ _ hσ⟩
  exact hkeep k (R.ow _ _ hlb).2.1 (hXo k (.inr ⟨b,hb,hlb⟩)) (R.ow _ _ hlb).1
 have hlvB : ∀ b k,Live (hk (backHp ns st.nx ρ 0 bl ++ st.hp)) σb w' b k→(∃ j,b=backName ns st.nx j∧Live (hk (numd 0 bl)) σ' w' j k)∨(b ∉ ns∧b < st.nx∧Live (hk st.hp) σ w b k):=by
  rintro b k ⟨blk,h1,h2⟩
  rcases hback b blk h1 with ⟨j,blk0,rfl,h0,rfl⟩ | ⟨g1,g2,g3⟩
  ·exact .inl ⟨j,rfl,blk0,h0,h2.ren (hσb j)⟩
  ·have:σb b=σ b:=if_pos g2
   exact .inr ⟨g1,g2,blk,g3,h2.keep this (hkb b blk g1 g3)⟩
 have hlvC : ∀ j k,Live (hk (numd 0 bl)) σ' w' j k→Live (hk (backHp ns st.nx ρ 0 bl ++ st.hp)) σb w' (backName ns st.nx j) k:=by
  rintro j k ⟨blk,h1,h2⟩
  exact ⟨blk.ren ρ,hback1 j blk h1,h2.ren' (hσb j)⟩
 have hlvD : ∀ b k,b ∉ ns→Live (hk st.hp) σ w b k→b < st.nx∧Live (hk (backHp ns st.nx ρ 0 bl ++ st.hp)) σb w' b k:=by
  rintro b k hb ⟨blk,h1,h2⟩
  have hb2:b < st.nx:=by
   rcases Nat.lt_or_ge b st.nx with h | h
   ·exact h
   ·obtain ⟨_,_,_,_,h2⟩:=h2.loc
    rw [hfr b h] at h2; cases h2
  have:σb b=σ b:=if_pos hb2
  exact ⟨hb2,blk,by rw [hback2 b hb hb2]; exact h1,h2.keep this.symm fun k d n sz hσ => (hkb b blk hb h1 k d n sz (this ▸ hσ)).symm⟩
 have hfrz':frz (hk (backHp ns st.nx ρ 0 bl ++ st.hp)) σb C.X w'=frz (hk (numd 0 bl)) σ' Xc w':=by
  have : ∀ k,((∃ b,Live (hk (backHp ns st.nx ρ 0 bl ++ st.hp)) σb w' b k)∨C.X k)↔((∃ j,Live (hk (numd 0 bl)) σ' w' j k)∨Xc k):=by
   intro k
   constructor
   ·rintro (⟨b,hb⟩ | h)
    ·rcases hlvB b k hb with ⟨j,_,hj⟩ | ⟨g1,g2,g3⟩
     ·exact .inl ⟨j,hj⟩
     ·exact .inr (.inr ⟨b,g1,g3⟩)
    ·exact .inr (.inl h)
   ·rintro (⟨j,hj⟩ | h | ⟨b,hb,hlb⟩)
    ·exact .inl ⟨_,hlvC j k hj⟩
    ·exact .inr h
    ·exact .inl ⟨b,(hlvD b k hb hlb).2⟩
  funext k
  unfold frz
  by_cases h:(∃ b,Live (hk (backHp ns st.nx ρ 0 bl ++ st.hp)) σb w' b k)∨C.X k
  ·rw [if_pos h,if_pos ((this k).1 h)]
  ·rw [if_neg h,if_neg (fun h' => h ((this k).2 h'))]
 have hs:SLe σ σb:=by
  intro b l h
  have:b < st.nx:=by
   rcases Nat.lt_or_ge b st.nx with hh | hh
   ·exact hh
   ·rw [hfr b hh] at h; cases h
  show (if b < st.nx then σ b else _)=_
  rw [if_pos this]; exact h
 have hsz:w.heap.size≤w'.heap.size:=R'.fr.size
 have hl:HLe (frz (hk st.hp) σ C.X w) (frz (hk (backHp ns st.nx ρ 0 bl ++ st.hp)) σb C.X w'):=by
  intro k o h
  have hsome:=h
  rw [← hfrz,frz_some] at h
  rw [hfrz',frz_some]
  have hk:k < w.heap.size:=(Array.getElem?_eq_some_iff.1 h.2).1
  have hno : ¬ oc k:=fun ho => h.1.1 ho
  refine ⟨⟨fun ⟨j,hj⟩ => ?_,h.1.2⟩,by rw [hkeep k hk hno fun hx => h.1.2 (.inl hx)]; exact h.2⟩
  have:=(R'.ow j k hj).2.2
  rcases this with (g | g) | g
  ·exact hno g
  ·exact h.1.2 (.inl (hY k g).1)
  ·have g':w.heap.size≤k:=g
   omega
 refine hK u σb w' ?_ ⟨fun b blk h => ?_,fun b b' k h1 h2 => ?_,fun b k h1 => ?_,⟨by have:=R.fr.size; omega,fun k h1 h2 => ?_,R'.fr.os.trans R.fr.os,R'.fr.tape.trans R.fr.tape,R'.fr.output.trans R.fr.output⟩,R.gl.mono hl,R.xl⟩ hs hl (fun b h => if_pos h) fun b h => ?_
 ·rw [hfrz']; exact VR.ren hρb hv
 ·rcases hback b blk h with ⟨j,blk0,rfl,h0,rfl⟩ | ⟨g1,g2,g3⟩
  ·rw [hfrz']; exact (R'.bk j blk0 h0).ren hρb (hσb j) (HLe.refl _)
  ·refine (R.bk b blk g3).mono hs hl fun k hσ => ?_
   have hlb:Live (hk st.hp) σ w b k:=⟨blk,g3,hσ⟩
   exact hkeep k (R.ow _ _ hlb).2.1 (hXo k (.inr ⟨b,g1,hlb⟩)) (R.ow _ _ hlb).1
 ·rcases hlvB b k h1 with ⟨j,rfl,hj⟩ | ⟨g1,g2,g3⟩ <;> rcases hlvB b' k h2 with ⟨j',rfl,hj'⟩ | ⟨g1',g2',g3'⟩
  ·rw [R'.inj _ _ _ hj hj']
  ·exact absurd (.inr ⟨b',g1',g3'⟩) (R'.ow j k hj).1
  ·exact absurd (.inr ⟨b,g1,g3⟩) (R'.ow j' k hj').1
  ·exact R.inj _ _ _ g3 g3'
 ·rcases hlvB b k h1 with ⟨j,rfl,hj⟩ | ⟨g1,g2,g3⟩
  ·obtain ⟨q1,q2,q3⟩:=R'.ow j k hj
   refine ⟨fun hx => q1 (.inl hx),q2,?_⟩
   rcases q3 with (q3 | q3) | q3
   ·obtain ⟨b',_,hb'⟩:=hocl k q3
    exact (R.ow _ _ hb').2.2
   ·exact (hY k q3).2
   ·have:w.heap.size≤k:=q3
    have:=R.fr.size
    exact .inr (by omega)
  ·obtain ⟨q1,q2,q3⟩:=R.ow _ _ g3
   exact ⟨q1,by omega,q3⟩
 ·have hno : ¬ oc k:=by
   intro ho
   obtain ⟨b',_,hb'⟩:=hocl k ho
   rcases (R.ow _ _ hb').2.2 with q | q
   ·exact h2 q
   ·omega
  rw [hkeep0 k (by have:=R.fr.size; omega) (fun h => h.elim hno fun hy => (hY k hy).2.elim h2 fun h3 => by omega)]
  exact R.fr.keep k h1 h2
 ·show (if b < st.nx then _ else σ' (ns.length + (b - st.nx)))=_
  rw [if_neg (by omega)]
  exact hnew _ (by omega)
theorem call_sound {rf:RF} (RS:FSound P C.G rf) (hrc:C.rc=rcOf P) {f:FuncId} (hf:f < 4096) {xs:List AV} {st:St} {v:AV} {ws:HW} {nn:Nat} (e:callOp rf f xs st=some (v,ws,nn)) (R:HRel C σ (hk st.hp) w) (hfr : ∀ b,st.nx≤b→σ b=none) {vs:List Value} (hlen:xs.length=vs.length)
 (hxs : ∀ (i:Nat) (x:AV) (u:Value),xs[i]? = some x→vs[i]? = some u→VR σ (frz (hk st.hp) σ C.X w) x u) {K:Ending→World→Prop}
 (hK : ∀ u σ' w',VR σ' (frz (hk (ws ++ st.hp)) σ' C.X w') v u→HRel C σ' (hk (ws ++ st.hp)) w'→SLe σ σ'→HLe (frz (hk st.hp) σ C.X w) (frz (hk (ws ++ st.hp)) σ' C.X w')→(∀ b,b < st.nx→σ' b=σ b)→(∀ b,st.nx + nn≤b→σ' b=none)→K (.returned u) w') :
 Does P f vs.toArray w K :=
 call_core (D:=Does P f vs.toArray w) (Y:=fun _ => False) hrc (fun r bl ns _ h => by
  have:=RS _ _ _ _ _ hf h
  rw [blks_length] at this
  exact ⟨this.1,this.2 w vs⟩) (fun k h => h.elim) e R hfr hlen hxs hK
end Go.Vai
namespace Go.Vai
variable {P:Program} {C:Ctx} {σ:Nat→Option Loc} {w:World}
theorem live_nil {σ:Nat→Option Loc} {b k:Nat} : ¬ Live (hk []) σ w b k:=by
 rintro ⟨blk,h,_⟩
 cases h
theorem frz_nil {X:Nat→Prop} {k:Nat} {o:Obj}:frz (hk []) σ X w k=some o↔¬ X k∧w.heap[k]? = some o:=by
 rw [frz_some]
 exact ⟨fun h => ⟨h.1.2,h.2⟩,fun h => ⟨⟨fun ⟨b,hb⟩ => live_nil hb,h.1⟩,h.2⟩⟩
theorem frz_nil_eq {σ σ':Nat→Option Loc} {X:Nat→Prop}:frz (hk []) σ X w=frz (hk []) σ' X w:=by
 funext k
 unfold frz
 by_cases h:X k
 ·rw [if_pos (.inr h),if_pos (.inr h)]
 ·rw [if_neg (fun h' => h'.elim (fun ⟨b,hb⟩ => live_nil hb) h),if_neg (fun h' => h'.elim (fun ⟨b,hb⟩ => live_nil hb) h)]
theorem nil_sub {hp:HW} : ∀ b blk,hk [] b=some blk→hk hp b=some blk:=fun b blk h => by cases h
theorem cellAt_nil {X:Nat→Prop} {k i:Nat} {c:Array Value} {e:TypeId} {z:Nat × Nat} (hx : ¬ X k) (hm:w.heap[k]? = some (.cells c e z)):cellAt (frz (hk []) σ X w) k i=c[i]? := by
 have:frz (hk []) σ X w k=some (.cells c e z):=frz_nil.2 ⟨hx,hm⟩
 unfold cellAt
 rw [this]
theorem getD_of {c:Array Value} {p:Nat} {v:Value} (h:c[p]? = some v):c.getD p undef=v:=by
 have hlt:=(Array.getElem?_eq_some_iff.1 h).1
 rw [Array.getD,dif_pos hlt]
 exact (Array.getElem?_eq_some_iff.1 h).2
theorem own_fr {hp:HW} (R:HRel C σ (hk hp) w) {sz:Nat} {es:List (List FV)} {v:Value} (h:OwnAt (frz (hk hp) σ C.X w) w sz es v) (hx : ∀ k o sp n cap,v=.slice (some ⟨k,o,sp⟩) n cap→0 < cap→¬ C.X k):FR (frz (hk []) σ C.X w) (.sl es) v:=by
 obtain ⟨A,cap,rfl,h1,h2,h3⟩:=h
 have hl:=frz_shrink (σ:=σ) (w:=w) (nil_sub (hp:=hp)) C.X
 by_cases hc:cap=0
 ·have:es=[]:=List.eq_nil_of_length_eq_zero (by omega)
  subst this
  exact .sl0 _ _
 ·obtain ⟨k,o,c,e,z,rfl,m1,m2,m3,m4⟩:=h3.resolve_left hc
  have hk:=hx k o none es.length cap rfl (by omega)
  refine .sl es sz k o none cap (fun i j => c.getD (o + (i * sz + j)) undef) h2 h1 (fun _ => rfl) (fun i cl j x e1 e2 => ?_) fun i cl j x e1 e2 => ?_
  ·obtain ⟨v,q1,q2⟩:=m4 i cl j x e1 e2
   rw [cellAt_nil hk m1,getD_of q1]; exact q1
  ·obtain ⟨v,q1,q2⟩:=m4 i cl j x e1 e2
   rw [getD_of q1]; exact q2.mono hl
theorem cellF_sound {hp:HW} (R:HRel C σ (hk hp) w) {x:AV} {y:FV} {v:Value} (h:cellF x=some y) (r:CR σ (frz (hk hp) σ C.X w) w x v) (hx : ∀ sz es,x=.own sz es→∀ k o sp n cap,v=.slice (some ⟨k,o,sp⟩) n cap→0 < cap→¬ C.X k):FR (frz (hk []) σ C.X w) y v:=by
 have hl:=frz_shrink (σ:=σ) (w:=w) (nil_sub (hp:=hp)) C.X
 cases x <;> simp only [cellF] at h <;> try (cases h; done)
 ·injection h with h; subst h
  cases r with
  | fz _ _ r => exact r.mono hl
 ·injection h with h; subst h
  obtain ⟨A,rfl⟩:=VR.emp_inv r
  exact .sl0 _ _
 ·injection h with h; subst h
  exact own_fr R r (hx _ _ rfl)
theorem cellsF_get : ∀ {c:List AV} {l:List FV},cellsF c=some l→l.length=c.length∧∀ (j:Nat) (y:FV),l[j]? = some y→∃ x,c[j]? = some x∧cellF x=some y
 | [],l,h => by simp only [cellsF] at h; injection h with h; subst h; exact ⟨rfl,fun j y e => by simp at e⟩
 | x :: r, l, h => by
  simp only [cellsF] at h
  split at h
  ·rename_i y l' h1 h2
   injection h with h; subst h
   obtain ⟨g1,g2⟩:=cellsF_get h2
   refine ⟨by simp [g1],fun j z e => ?_⟩
   cases j with
   | zero => simp at e; subst e; exact ⟨x,rfl,h1⟩
   | succ j => simpa using g2 j z (by simpa using e)
  ·cases h
theorem rowF_get : ∀ {es:List (List AV)} {l:List (List FV)},rowF es=some l→l.length=es.length∧∀ (i:Nat) (cl:List FV),l[i]? = some cl→∃ c,es[i]? = some c∧cellsF c=some cl
 | [],l,h => by simp only [rowF] at h; injection h with h; subst h; exact ⟨rfl,fun j y e => by simp at e⟩
 | x :: r, l, h => by
  simp only [rowF] at h
  split at h
  ·rename_i y l' h1 h2
   injection h with h; subst h
   obtain ⟨g1,g2⟩:=rowF_get h2
   refine ⟨by simp [g1],fun j z e => ?_⟩
   cases j with
   | zero => simp at e; subst e; exact ⟨x,rfl,h1⟩
   | succ j => simpa using g2 j z (by simpa using e)
  ·cases h
theorem row_fr {hp:HW} (R:HRel C σ (hk hp) w) {b sz:Nat} {es:List (List AV)} {l:List (List FV)} {v:Value} (hb:hk hp b=some (.row sz es)) (hl:rowF es=some l) (hv:VR σ (frz (hk hp) σ C.X w) (.osl b sz 0 es.length) v):FR (frz (hk []) σ C.X w) (.sl l) v:=by
 obtain ⟨l1,l2⟩:=rowF_get hl
 rcases hv.osl_inv with ⟨_,h1,A,rfl⟩ | ⟨k,d,n,a,cap,hσ,h1,h2,h3,rfl⟩
 ·have:l=[]:=List.eq_nil_of_length_eq_zero (by omega)
  subst this
  exact .sl0 _ _
 ·by_cases h0:l=[]
  ·subst h0
   have:es.length=0:=by simpa using l1.symm
   rw [this]
   exact .sl0 _ _
  ·have hpos:0 < l.length:=List.length_pos_iff.2 h0
   have ha:=h2.resolve_left (by omega)
   simp only [Nat.zero_mul,Nat.add_zero] at ha
   subst ha
   obtain ⟨_,c,e,z,rfl,r⟩:=row_at R hb hσ
   have hX : ¬ C.X k:=(R.ow _ _ ⟨_,hb,.at _ _ _ _ _ hσ⟩).1
   have key : ∀ i cl j x,l[i]? = some cl→cl[j]? = some x→∃ v,c[d + (i * sz + j)]? = some v∧FR (frz (hk []) σ C.X w) x v:=by
    intro i cl j x e1 e2
    obtain ⟨c0,q1,q2⟩:=l2 i cl e1
    obtain ⟨y,q3,q4⟩:=(cellsF_get q2).2 j x e2
    obtain ⟨v,p1,p2,_⟩:=r.cell i c0 j y q1 q3
    refine ⟨v,p1,cellF_sound R q4 p2 fun s y2 ex k2 o sp n2 cap2 ev hc => ?_⟩
    exact (R.ow b k2 ⟨_,hb,r.owns ⟨c0,s,y2,o,sp,n2,cap2,q1,ex ▸ q3,ev ▸ p1,hc⟩⟩).1
   rw [← l1]
   refine .sl l sz k d none cap (fun i j => c.getD (d + (i * sz + j)) undef) (fun i cl e1 => ?_) (by omega) (fun _ => rfl) (fun i cl j x e1 e2 => ?_) fun i cl j x e1 e2 => ?_
   ·obtain ⟨c0,q1,q2⟩:=l2 i cl e1
    rw [(cellsF_get q2).1]; exact r.len i c0 q1
   ·obtain ⟨v,q1,q2⟩:=key i cl j x e1 e2
    rw [cellAt_nil hX r.mem,getD_of q1]; exact q1
   ·obtain ⟨v,q1,q2⟩:=key i cl j x e1 e2
    rw [getD_of q1]; exact q2
theorem lendC_sound {hp:HW} (R:HRel C σ (hk hp) w) {x y:AV} {v:Value} (h:lendC hp x=some y) (r:VR σ (frz (hk hp) σ C.X w) x v) {σ':Nat→Option Loc}:VR σ' (frz (hk []) σ' C.X w) y v:=by
 have hl:=frz_shrink (σ:=σ) (w:=w) (nil_sub (hp:=hp)) C.X
 rw [frz_nil_eq (σ':=σ)]
 cases x <;> simp only [lendC] at h <;> try (cases h; done)
 ·injection h with h; subst h
  cases r with
  | fz _ _ r => exact .fz _ _ (r.mono hl)
 ·rename_i b sz off len
  split at h
  ·rename_i sz2 es hb
   split at h
   ·rename_i hc
    obtain ⟨rfl,rfl,rfl⟩:=hc
    obtain ⟨l,hl',rfl⟩:=Option.map_eq_some_iff.1 h
    exact .fz _ _ (row_fr R hb hl' r)
   ·cases h
  ·obtain ⟨l,hl',rfl⟩:=Option.map_eq_some_iff.1 h
   have e:toFV hp (.osl b sz off len)=some (.sl l,[(b,none)]):=by simp only [toFV,hl']
   obtain ⟨h1,h2,_⟩:=toFV_sound R e r
   exact .fz _ _ (h2.mono (frz_shrink (σ:=σ) (w:=w) (nil_sub (hp:=[(b,none)] ++ hp)) C.X))
 ·rename_i f cap
  cases cap with
  | nil =>
   simp only [lendC] at h
   injection h with h; subst h
   obtain ⟨vs,rfl,e,_⟩:=r.fn_inv
   exact .fn f [] vs e fun i x u e => by simp at e
  | cons => simp [lendC] at h
 ·injection h with h; subst h
  obtain ⟨A,rfl⟩:=r.emp_inv
  exact .fz _ _ (.sl0 _ _)
theorem lendCs_sound {hp:HW} (R:HRel C σ (hk hp) w) {σ':Nat→Option Loc} : ∀ {l ys:List AV},lendCs hp l=some ys→ys.length=l.length∧∀ (i:Nat) (y:AV),ys[i]? = some y→∃ x,l[i]? = some x∧lendC hp x=some y
 | [],ys,h => by simp only [lendCs] at h; injection h with h; subst h; exact ⟨rfl,fun i y e => by simp at e⟩
 | x :: r, ys, h => by
  simp only [lendCs] at h
  split at h
  ·rename_i y l h1 h2
   injection h with h; subst h
   obtain ⟨g1,g2⟩:=lendCs_sound R (σ':=σ') h2
   refine ⟨by simp [g1],fun i z e => ?_⟩
   cases i with
   | zero => simp at e; subst e; exact ⟨x,rfl,h1⟩
   | succ i => simpa using g2 i z (by simpa using e)
  ·cases h
theorem lendA_sound {hp:HW} (R:HRel C σ (hk hp) w) {x y:AV} {v:Value} (h:lendA hp x=some y) (r:VR σ (frz (hk hp) σ C.X w) x v) {σ':Nat→Option Loc}:VR σ' (frz (hk []) σ' C.X w) y v:=by
 cases x with
 | agg l =>
  simp only [lendA] at h
  obtain ⟨ys,hys,rfl⟩:=Option.map_eq_some_iff.1 h
  obtain ⟨vs,rfl,e1,e2⟩:=r.agg_inv
  obtain ⟨g1,g2⟩:=lendCs_sound R (σ':=σ') hys
  refine .agg ys vs (by omega) fun i y v q1 q2 => ?_
  obtain ⟨x,p1,p2⟩:=g2 i y q1
  exact lendC_sound R p2 (e2 i x v p1 q2)
 | _ => simp only [lendA] at h; exact lendC_sound R h r
theorem lendAs_sound {hp:HW} : ∀ {l ys:List AV},lendAs hp l=some ys→ys.length=l.length∧∀ (i:Nat) (y:AV),ys[i]? = some y→∃ x,l[i]? = some x∧lendA hp x=some y
 | [],ys,h => by simp only [lendAs] at h; injection h with h; subst h; exact ⟨rfl,fun i y e => by simp at e⟩
 | x :: r, ys, h => by
  simp only [lendAs] at h
  split at h
  ·rename_i y l h1 h2
   injection h with h; subst h
   obtain ⟨g1,g2⟩:=lendAs_sound h2
   refine ⟨by simp [g1],fun i z e => ?_⟩
   cases i with
   | zero => simp at e; subst e; exact ⟨x,rfl,h1⟩
   | succ i => simpa using g2 i z (by simpa using e)
  ·cases h
theorem plainC_vr {σ σ':Nat→Option Loc} {h h':PH} {x:AV} {v:Value} (hp:plainC x=true) (r:VR σ h x v):VR σ' h' x v:=by
 cases x <;> simp only [plainC] at hp <;> try (cases hp; done)
 ·rename_i y
  cases y with
  | sc u => cases r with
   | fz _ _ r => cases r with
    | sc _ hl => exact .fz _ _ (.sc _ hl)
  | sl es =>
   simp only [plainC,List.isEmpty_iff] at hp
   subst hp
   cases r with
   | fz _ _ r =>
    cases r with
    | sl0 A cap => exact .fz _ _ (.sl0 A cap)
    | sl _ sz k o sp cap vs => exact .fz _ _ (.sl0 _ _)
 ·obtain ⟨A,rfl⟩:=r.emp_inv
  exact .emp A
 ·cases r with
  | err t v => exact .err t v
theorem plainA_vr {σ σ':Nat→Option Loc} {h h':PH} {x:AV} {v:Value} (hp:plainA x=true) (r:VR σ h x v):VR σ' h' x v:=by
 cases x with
 | agg l =>
  simp only [plainA] at hp
  obtain ⟨vs,rfl,e1,e2⟩:=r.agg_inv
  exact .agg l vs e1 fun i y u q1 q2 => plainC_vr (List.all_eq_true.1 hp _ (List.mem_of_getElem? q1)) (e2 i y u q1 q2)
 | _ => exact plainC_vr hp r
theorem plainR_vr {σ σ':Nat→Option Loc} {h h':PH} {x:AV} {v:Value} (hp:plainR x=true) (r:VR σ h x v):VR σ' h' x v:=by
 cases x with
 | tup l =>
  simp only [plainR] at hp
  obtain ⟨vs,rfl,e1,e2⟩:=r.tup_inv
  exact .tup l vs e1 fun i y u q1 q2 => plainA_vr (List.all_eq_true.1 hp _ (List.mem_of_getElem? q1)) (e2 i y u q1 q2)
 | _ => exact plainA_vr hp r
theorem lcall_sound {rf:RF} (RS:FSound P C.G rf) (hrc:C.rc=rcOf P) {g:FuncId} (hg:g < 4096) {xs ys:List AV} {hp:HW} {r:AV} (hy:lendAs hp xs=some ys) (e:rf g ys []=some (r,[])) (hpl:plainR r=true) (R:HRel C σ (hk hp) w) {vs:List Value} (hlen:xs.length=vs.length)
 (hxs : ∀ (i:Nat) (x:AV) (u:Value),xs[i]? = some x→vs[i]? = some u→VR σ (frz (hk hp) σ C.X w) x u) {K:Ending→World→Prop}
 (hK : ∀ u w',VR σ (frz (hk hp) σ C.X w') r u→HRel C σ (hk hp) w'→HLe (frz (hk hp) σ C.X w) (frz (hk hp) σ C.X w')→K (.returned u) w'):Does P g vs.toArray w K:=by
 obtain ⟨_,S⟩:=RS _ _ _ _ _ hg e
 obtain ⟨y1,y2⟩:=lendAs_sound hy
 have R0:=R.shrink (nil_sub (hp:=hp))
 let Cc:Ctx:={ G:=C.G,rc:=C.rc,X:=C.X,own0:=fun k => ∃ b,Live (hk (numd 0 ([]:List (Option Blk)))) (fun _ => none) w b k,w0:=w,N:=0 }
 have hno : ∀ (σ:Nat→Option Loc) (w:World) b k,¬ Live (hk (numd 0 ([]:List (Option Blk)))) σ w b k:=fun _ _ _ _ => live_nil
 refine S w vs Cc (fun _ => none) rfl hrc rfl (fun k h => h.elim) (fun _ _ => rfl) ⟨fun b blk h => (by cases h),fun b b' k h => absurd h (hno _ _ _ _),fun b k h => absurd h (hno _ _ _ _),Frame0.refl _ _,?_,fun k h => by have:=R.xl k h; have:=R.fr.size; show k < w.heap.size; omega⟩ (by omega) (fun i y u h1 h2 => ?_) K fun u σ' w' h1 h2 _ _ => ?_
 ·show GR C.G (frz (hk []) _ C.X w)
  rw [frz_nil_eq (σ':=σ)]; exact R0.gl
 ·obtain ⟨x,p1,p2⟩:=y2 i y h1
  exact lendA_sound R p2 (hxs i x u p1 h2)
 ·have hkeep : ∀ k,k < w.heap.size→w'.heap[k]? = w.heap[k]? := fun k hk => h2.fr.keep k hk fun ⟨b,hb⟩ => hno _ _ _ _ hb
  have hsz:w.heap.size≤w'.heap.size:=h2.fr.size
  have hkl : ∀ b blk,hk hp b=some blk→∀ k d n sz,σ b=some (.here k d n sz)→w'.heap[k]? = w.heap[k]? := fun b blk hb k d n sz hσ => hkeep k (R.ow b k ⟨blk,hb,.at _ _ _ _ _ hσ⟩).2.1
  have hlv : ∀ b k,Live (hk hp) σ w' b k→Live (hk hp) σ w b k:=fun b k ⟨blk,q1,q2⟩ => ⟨blk,q1,q2.keep rfl (hkl b blk q1)⟩
  have hl:HLe (frz (hk hp) σ C.X w) (frz (hk hp) σ C.X w'):=by
   intro k o h
   rw [frz_some] at h ⊢
   have hk:=(Array.getElem?_eq_some_iff.1 h.2).1
   exact ⟨⟨fun ⟨b,hb⟩ => h.1.1 ⟨b,hlv b k hb⟩,h.1.2⟩,by rw [hkeep k hk]; exact h.2⟩
  refine hK u w' (plainR_vr hpl h1) ⟨fun b blk h => (R.bk b blk h).mono (SLe.refl _) hl fun k hk => hkeep k (R.ow b k ⟨blk,h,hk⟩).2.1,fun b b' k q1 q2 => R.inj _ _ _ (hlv _ _ q1) (hlv _ _ q2),fun b k h => ?_,⟨by have:=R.fr.size; omega,fun k q1 q2 => ?_,h2.fr.os.trans R.fr.os,h2.fr.tape.trans R.fr.tape,h2.fr.output.trans R.fr.output⟩,R.gl.mono hl,R.xl⟩ hl
  ·have:=R.ow b k (hlv _ _ h)
   exact ⟨this.1,by omega,this.2.2⟩
  ·rw [hkeep k (by have:=R.fr.size; omega)]
   exact R.fr.keep k q1 q2
end Go.Vai
