/-
  What functions of layer 9 and of its reference compute: equations of the abstract run, and plain laws of them.
-/
import Derived.Test.YtljbbcpahapmnaaGreatDoorCP1
set_option linter.unusedVariables false
set_option linter.unusedSimpArgs false
set_option linter.unnecessarySimpa false
set_option linter.unusedSectionVars false
namespace Go.Vai
section
variable {adj:Nat→List Nat} {N:Nat}
inductive Rch (adj:Nat→List Nat):Nat→Nat→Prop where
 | refl (x:Nat):Rch adj x x
 | step {x y z:Nat}:y∈adj x→Rch adj y z→Rch adj x z
theorem Rch.trans {x y z:Nat} (h:Rch adj x y) (g:Rch adj y z):Rch adj x z:=by
 induction h with
 | refl => exact g
 | step e _ ih => exact .step e (ih g)
theorem Rch.one {x y:Nat} (h:y∈adj x):Rch adj x y:=.step h (.refl _)
def Cyc (adj:Nat→List Nat) (x:Nat):Prop := ∃ y∈adj x,Rch adj y x
structure TS where
 num:Nat→Nat
 low:Nat→Nat
 stk:List Nat
 cnt:Nat
 rnd:Nat→Bool
def updT {α:Type} (f:Nat→α) (i:Nat) (v:α):Nat→α:=fun j => if j=i then v else f j
theorem updT_same {α:Type} (f:Nat→α) (i:Nat) (v:α):updT f i v i=v:=by simp [updT]
theorem updT_ne {α:Type} (f:Nat→α) {i j:Nat} (v:α) (h:j≠i):updT f i v j=f j:=by simp [updT,h]
def enterT (i:Nat) (s:TS):TS:={ s with num:=updT s.num i (s.cnt + 1),low:=updT s.low i (s.cnt + 1),stk:=i :: s.stk,cnt:=s.cnt + 1 }
def compT (i:Nat) (s:TS):List Nat:=s.stk.takeWhile (fun x => decide (x≠i)) ++ [i]
def popT (i:Nat) (s:TS):TS:={ s with stk:=(s.stk.dropWhile fun x => decide (x≠i)).tail,rnd:=fun k => if k∈compT i s then s.rnd k || decide (1 < (compT i s).length) else s.rnd k }
def leaveT (i:Nat) (s:TS):TS:=if s.low i=s.num i then popT i s else s
def markT (i k:Nat) (s:TS):TS:=if k=i then { s with rnd:=updT s.rnd i true } else s
def lowT (i v:Nat) (s:TS):TS:={ s with low:=updT s.low i (min (s.low i) v) }
def stepT (v:Nat→TS→TS) (i k:Nat) (t:TS):TS :=
 if (markT i k t).num k=0 then lowT i ((v k (markT i k t)).low k) (v k (markT i k t))
 else if k∈(markT i k t).stk then lowT i ((markT i k t).num k) (markT i k t) else markT i k t
def visitT (adj:Nat→List Nat):Nat→Nat→TS→TS
 | 0,_,s => s
 | f + 1,i,s => leaveT i ((adj i).foldl (fun t k => stepT (visitT adj f) i k t) (enterT i s))
structure InvT (adj:Nat→List Nat) (N:Nat) (s:TS) (G:List Nat):Prop where
 bd : ∀ x,s.num x≤s.cnt
 rg : ∀ x,s.num x≠0→x < N
 srt:s.stk.Pairwise fun a b => s.num b < s.num a
 sv : ∀ x∈s.stk,s.num x≠0
 gs : ∀ x∈G,x∈s.stk
 bc : ∀ x,s.num x≠0→x ∉ G→∀ y∈adj x,s.num y≠0
 pc : ∀ x,s.num x≠0→x ∉ s.stk→∀ y∈adj x,s.num y≠0∧y ∉ s.stk
 rr : ∀ x∈s.stk,∀ y∈s.stk,s.num x≤s.num y→Rch adj x y
 wg : ∀ y∈s.stk,∃ g∈G,s.num g≤s.num y∧Rch adj y g
 r0 : ∀ x,s.num x=0→s.rnd x=false
 rp : ∀ x,s.num x≠0→x ∉ s.stk→(s.rnd x=true↔Cyc adj x)
 rs : ∀ x∈s.stk,s.rnd x=true→x∈adj x
 rb : ∀ x∈s.stk,x ∉ G→x∈adj x→s.rnd x=true
structure PostT (adj:Nat→List Nat) (s s':TS) (i:Nat) (l:List Nat):Prop where
 st:s'.stk=l ++ s.stk
 nw : ∀ x∈l,s.num x=0
 nm : ∀ x,s.num x≠0→s'.num x=s.num x∧s'.low x=s.low x∧s'.rnd x=s.rnd x
 cn:s.cnt≤s'.cnt
 ni:s.cnt < s'.num i
 la:i∈l→∃ y∈s.stk,s.num y=s'.low i∧Rch adj i y
 lb:i ∉ l→s'.low i=s'.num i
 lc : ∀ x∈l,∀ y∈s.stk,y∈adj x→s'.low i≤s.num y
structure LpT (adj:Nat→List Nat) (N:Nat) (s t:TS) (G:List Nat) (i:Nat) (l P:List Nat):Prop where
 inv:InvT adj N t (i :: G)
 st:t.stk=l ++ i :: s.stk
 nw : ∀ x∈l,s.num x=0
 nm : ∀ x,s.num x≠0→t.num x=s.num x∧t.low x=s.low x∧t.rnd x=s.rnd x
 ti:t.num i=s.cnt + 1
 cn:s.cnt + 1≤t.cnt
 ly : ∃ y∈t.stk,t.num y=t.low i∧Rch adj i y
 ln:t.low i≤t.num i
 lc : ∀ x∈l,∀ y∈s.stk,y∈adj x→t.low i≤s.num y
 lp : ∀ k∈P,t.num k≠0∧(k∈s.stk→t.low i≤s.num k)
 ri:t.rnd i=true↔i∈P
theorem not_old {s:TS} {G:List Nat} (h:InvT adj N s G) {i:Nat} (hi:s.num i=0):i ∉ s.stk:=fun hm => h.sv i hm hi
theorem enter_lp {s:TS} {G:List Nat} (h:InvT adj N s G) {i:Nat} (hi:s.num i=0) (hN:i < N) (hg : ∀ g∈G,Rch adj g i):LpT adj N s (enterT i s) G i [] []:=by
 have hno:=not_old h hi
 have hne : ∀ x∈s.stk,x≠i:=fun x hx e => hno (e ▸ hx)
 have hnum : ∀ x,x≠i→(enterT i s).num x=s.num x:=fun x hx => updT_ne _ _ hx
 have hnumi:(enterT i s).num i=s.cnt + 1:=updT_same _ _ _
 have hge : ∀ x,s.num x≠0→x≠i:=fun x hx e => hx (e ▸ hi)
 have hst:(enterT i s).stk=i :: s.stk:=rfl
 have hvis : ∀ x,s.num x≠0→(enterT i s).num x≠0:=fun x hx => by rw [hnum x (hge x hx)]; exact hx
 have hri : ∀ x∈s.stk,Rch adj x i:=fun x hx => by
  obtain ⟨g,hgG,_,hr⟩:=h.wg x hx
  exact hr.trans (hg g hgG)
 refine ⟨⟨?_,?_,?_,?_,?_,?_,?_,?_,?_,?_,?_,?_,?_⟩,rfl,(fun x hx => by cases hx),?_,hnumi,Nat.le_refl _,⟨i,by rw [hst]; simp,by rw [hnumi]; exact (updT_same _ _ _).symm,.refl i⟩,?_,(fun x hx => by cases hx),(fun x hx => by cases hx),?_⟩
 ·intro x
  show _≤s.cnt + 1
  by_cases hx:x=i
  ·subst hx; rw [hnumi]; exact Nat.le_refl _
  ·rw [hnum x hx]; have:=h.bd x; omega
 ·intro x hx
  by_cases hxi:x=i
  ·subst hxi; exact hN
  ·rw [hnum x hxi] at hx; exact h.rg x hx
 ·rw [hst,List.pairwise_cons]
  refine ⟨fun x hx => ?_,h.srt.imp_of_mem fun {a b} ha hb hab => ?_⟩
  ·rw [hnumi,hnum x (hne x hx)]; have:=h.bd x; omega
  ·rw [hnum a (hne a ha),hnum b (hne b hb)]; exact hab
 ·intro x hx
  rw [hst] at hx
  rcases List.mem_cons.1 hx with rfl | hx
  ·rw [hnumi]; omega
  ·exact hvis x (h.sv x hx)
 ·intro x hx
  rw [hst]
  rcases List.mem_cons.1 hx with rfl | hx
  ·simp
  ·exact List.mem_cons_of_mem _ (h.gs x hx)
 ·intro x hx hxG y hy
  have hxi:x≠i:=fun e => hxG (by simp [e])
  rw [hnum x hxi] at hx
  exact hvis y (h.bc x hx (fun hm => hxG (by simp [hm])) y hy)
 ·intro x hx hxs y hy
  rw [hst] at hxs
  have hxi:x≠i:=fun e => hxs (by simp [e])
  rw [hnum x hxi] at hx
  obtain ⟨h1,h2⟩:=h.pc x hx (fun hm => hxs (by simp [hm])) y hy
  refine ⟨hvis y h1,?_⟩
  rw [hst]
  intro hm
  rcases List.mem_cons.1 hm with rfl | hm
  ·exact h1 hi
  ·exact h2 hm
 ·intro x hx y hy hxy
  rw [hst] at hx hy
  rcases List.mem_cons.1 hx with rfl | hx
  ·rcases List.mem_cons.1 hy with rfl | hy
   ·exact .refl _
   ·rw [hnumi,hnum y (hne y hy)] at hxy
    have:=h.bd y
    omega
  ·rcases List.mem_cons.1 hy with e | hy
   ·rw [e]; exact hri x hx
   ·rw [hnum x (hne x hx),hnum y (hne y hy)] at hxy
    exact h.rr x hx y hy hxy
 ·intro y hy
  rw [hst] at hy
  rcases List.mem_cons.1 hy with rfl | hy
  ·exact ⟨y,by simp,Nat.le_refl _,.refl _⟩
  ·obtain ⟨g,hgG,hle,hr⟩:=h.wg y hy
   exact ⟨g,by simp [hgG],by rw [hnum g (hne g (h.gs g hgG)),hnum y (hne y hy)]; exact hle,hr⟩
 ·intro x hx
  have hxi:x≠i:=fun e => by rw [e,hnumi] at hx; omega
  rw [hnum x hxi] at hx
  exact h.r0 x hx
 ·intro x hx hxs
  rw [hst] at hxs
  have hxi:x≠i:=fun e => hxs (by simp [e])
  rw [hnum x hxi] at hx
  exact h.rp x hx fun hm => hxs (by simp [hm])
 ·intro x hx hr
  rw [hst] at hx
  rcases List.mem_cons.1 hx with rfl | hx
  ·have:s.rnd x=true:=hr
   rw [h.r0 x hi] at this
   cases this
  ·exact h.rs x hx hr
 ·intro x hx hxG hxa
  rw [hst] at hx
  rcases List.mem_cons.1 hx with rfl | hx
  ·exact absurd (by simp) hxG
  ·exact h.rb x hx (fun hm => hxG (by simp [hm])) hxa
 ·intro x hx
  exact ⟨hnum x (hge x hx),updT_ne _ _ (hge x hx),rfl⟩
 ·show updT s.low i (s.cnt + 1) i≤_
  rw [updT_same,hnumi]
  exact Nat.le_refl _
 ·show s.rnd i=true↔_
  rw [h.r0 i hi]
  simp
theorem inv_low {s:TS} {G:List Nat} (h:InvT adj N s G) (i v:Nat):InvT adj N (lowT i v s) G :=
 ⟨h.bd,h.rg,h.srt,h.sv,h.gs,h.bc,h.pc,h.rr,h.wg,h.r0,h.rp,h.rs,h.rb⟩
theorem inv_mark {s:TS} {G:List Nat} {i k:Nat} (h:InvT adj N s (i :: G)) (hk:k∈adj i):InvT adj N (markT i k s) (i :: G):=by
 unfold markT
 split
 ·rename_i e
  subst e
  have his:k∈s.stk:=h.gs k (by simp)
  refine ⟨h.bd,h.rg,h.srt,h.sv,h.gs,h.bc,h.pc,h.rr,h.wg,fun x hx => ?_,fun x hx hxs => ?_,fun x hx hr => ?_,fun x hx hxG ha => ?_⟩
  ·have hne:x≠k:=fun e => h.sv k his (e ▸ hx)
   show updT s.rnd k true x=false
   rw [updT_ne _ _ hne]; exact h.r0 x hx
  ·have hne:x≠k:=fun e => hxs (e ▸ his)
   show updT s.rnd k true x=true↔_
   rw [updT_ne _ _ hne]; exact h.rp x hx hxs
  ·by_cases e:x=k
   ·rw [e]; exact hk
   ·have hr:updT s.rnd k true x=true:=hr
    rw [updT_ne _ _ e] at hr
    exact h.rs x hx hr
  ·have hne:x≠k:=fun e => hxG (by simp [e])
   show updT s.rnd k true x=true
   rw [updT_ne _ _ hne]; exact h.rb x hx hxG ha
 ·exact h
def GdT (adj:Nat→List Nat) (N:Nat) (v:Nat→TS→TS) (W:TS→Prop):Prop :=
 ∀ (s:TS) (G:List Nat) (k:Nat),InvT adj N s G→s.num k=0→k < N→(∀ g∈G,Rch adj g k)→W s→∃ l,InvT adj N (v k s) G∧PostT adj s (v k s) k l
theorem mark_num (i k:Nat) (t:TS):(markT i k t).num=t.num∧(markT i k t).low=t.low∧(markT i k t).stk=t.stk∧(markT i k t).cnt=t.cnt:=by
 unfold markT; split <;> exact ⟨rfl,rfl,rfl,rfl⟩
theorem step_lp {v:Nat→TS→TS} {W:TS→Prop} (hv:GdT adj N v W) (hN : ∀ x,x < N→∀ y∈adj x,y < N) {s t:TS} {G:List Nat} {i k:Nat} {l P:List Nat} (hs:InvT adj N s G) (hi:s.num i=0) (hiN:i < N) (hg : ∀ g∈G,Rch adj g i)
 (h:LpT adj N s t G i l P) (hk:k∈adj i) (hW:W (markT i k t)):(∃ l',LpT adj N s (stepT v i k t) G i l' (k :: P))∧∀ x,t.num x≠0→(stepT v i k t).num x≠0:=by
 obtain ⟨m1,m2,m3,m4⟩:=mark_num i k t
 have hm:=inv_mark h.inv hk
 have hge : ∀ x,s.num x≠0→x≠i:=fun x hx e => hx (e ▸ hi)
 have hmr : ∀ x,x≠i→(markT i k t).rnd x=t.rnd x:=by
  intro x hx
  unfold markT
  split
  ·exact updT_ne _ _ hx
  ·rfl
 have hmi:(markT i k t).rnd i=true↔i∈k :: P:=by
  unfold markT
  split
  ·rename_i e
   subst e
   show updT t.rnd k true k=true↔_
   rw [updT_same]; simp
  ·rename_i e
   rw [h.ri]
   simp only [List.mem_cons]
   exact ⟨fun h => .inr h,fun h => by rcases h with h | h; exact absurd h.symm e; exact h⟩
 unfold stepT
 generalize hM:markT i k t=u at *
 split
 ·rename_i hk0
  have hki:k≠i:=fun e => by rw [e,m1,h.ti] at hk0; omega
  obtain ⟨l2,q1,q2⟩:=hv u (i :: G) k hm hk0 (hN i hiN k hk) (fun g hgm => by
   rcases List.mem_cons.1 hgm with rfl | hgm
   ·exact .one hk
   ·exact (hg g hgm).trans (.one hk)) hW
  generalize v k u=w at *
  have hui:u.num i≠0:=by rw [m1,h.ti]; omega
  obtain ⟨n1,n2,n3⟩:=q2.nm i hui
  have hwst:w.stk=l2 ++ (l ++ i :: s.stk):=by rw [q2.st,m3,h.st]
  have hlo:(lowT i (w.low k) w).low i=min (t.low i) (w.low k):=by
   show updT w.low i _ i=_
   rw [updT_same,n2,m2]
  have hold : ∀ x,s.num x≠0→w.num x=s.num x∧w.low x=s.low x∧w.rnd x=s.rnd x:=fun x hx => by
   obtain ⟨a1,a2,a3⟩:=h.nm x hx
   have hu:u.num x≠0:=by rw [m1,a1]; exact hx
   obtain ⟨b1,b2,b3⟩:=q2.nm x hu
   rw [b1,b2,b3,m1,m2,hmr x (hge x hx)]
   exact ⟨a1,a2,a3⟩
  refine ⟨⟨l2 ++ l,inv_low q1 _ _,?_,?_,?_,?_,?_,?_,?_,?_,?_,?_⟩,fun x hx => by
   show w.num x≠0
   have hu:u.num x≠0:=by rw [m1]; exact hx
   rw [(q2.nm x hu).1]; exact hu⟩
  ·show w.stk=_
   rw [hwst,List.append_assoc]
  ·intro x hx
   rcases List.mem_append.1 hx with hx | hx
   ·have:=q2.nw x hx
    rw [m1] at this
    by_cases e:s.num x=0
    ·exact e
    ·rw [(h.nm x e).1] at this; exact absurd this e
   ·exact h.nw x hx
  ·intro x hx
   obtain ⟨a1,a2,a3⟩:=hold x hx
   exact ⟨a1,(updT_ne _ _ (hge x hx)).trans a2,a3⟩
  ·show w.num i=_
   rw [n1,m1,h.ti]
  ·show _≤w.cnt
   have:=q2.cn
   rw [m4] at this
   have:=h.cn
   omega
  ·rw [hlo]
   rcases Nat.lt_or_ge (w.low k) (t.low i) with hlt | hge2
   ·rw [Nat.min_eq_right (Nat.le_of_lt hlt)]
    have hkl:k∈l2:=by
     by_cases hkl:k∈l2
     ·exact hkl
     ·have h1:=q2.lb hkl
      have h2:=q2.ni
      rw [m4] at h2
      have h3:=h.ln
      have h4:=h.inv.bd i
      omega
    obtain ⟨y,hy,e,hr⟩:=q2.la hkl
    have hyu:u.num y≠0:=hm.sv y hy
    refine ⟨y,?_,?_,.step hk hr⟩
    ·show y∈w.stk
     rw [q2.st]; exact List.mem_append_right _ hy
    ·show w.num y=_
     rw [(q2.nm y hyu).1]; exact e
   ·rw [Nat.min_eq_left hge2]
    obtain ⟨y,hy,e,hr⟩:=h.ly
    have hyu:u.num y≠0:=by rw [m1]; exact h.inv.sv y hy
    refine ⟨y,?_,?_,hr⟩
    ·show y∈w.stk
     rw [q2.st,m3]; exact List.mem_append_right _ hy
    ·show w.num y=_
     rw [(q2.nm y hyu).1,m1]; exact e
  ·rw [hlo]
   show _≤w.num i
   rw [n1,m1]
   have:=h.ln
   omega
  ·intro x hx y hy hxy
   rw [hlo]
   rcases List.mem_append.1 hx with hx | hx
   ·have hyt:y∈u.stk:=by rw [m3,h.st]; simp [hy]
    have h1:=q2.lc x hx y hyt hxy
    have hys:s.num y≠0:=hs.sv y hy
    rw [m1,(h.nm y hys).1] at h1
    omega
   ·have:=h.lc x hx y hy hxy
    omega
  ·intro x hx
   rw [hlo]
   show w.num x≠0∧_
   rcases List.mem_cons.1 hx with rfl | hx
   ·have:=q2.ni
    refine ⟨by omega,fun hxs => ?_⟩
    have:=h.inv.sv x (by rw [h.st]; simp [hxs])
    rw [m1] at hk0
    exact absurd hk0 this
   ·obtain ⟨a1,a2⟩:=h.lp x hx
    have hu:u.num x≠0:=by rw [m1]; exact a1
    refine ⟨by rw [(q2.nm x hu).1]; exact hu,fun hxs => ?_⟩
    have:=a2 hxs
    omega
  ·show w.rnd i=true↔_
   rw [n3]
   exact hmi
 ·rename_i hk0
  have hkt:t.num k≠0:=by rw [← m1]; exact hk0
  have hold : ∀ x,s.num x≠0→u.num x=s.num x∧u.low x=s.low x∧u.rnd x=s.rnd x:=fun x hx => by
   obtain ⟨a1,a2,a3⟩:=h.nm x hx
   rw [m1,m2,hmr x (hge x hx)]
   exact ⟨a1,a2,a3⟩
  split
  ·rename_i hks
   rw [m3] at hks
   have hlo:(lowT i (u.num k) u).low i=min (t.low i) (t.num k):=by
    show updT u.low i _ i=_
    rw [updT_same,m2,m1]
   refine ⟨⟨l,inv_low hm _ _,?_,h.nw,?_,?_,?_,?_,?_,?_,?_,hmi⟩,fun x hx => by
    show u.num x≠0
    rw [m1]; exact hx⟩
   ·show u.stk=_
    rw [m3,h.st]
   ·intro x hx
    obtain ⟨a1,a2,a3⟩:=hold x hx
    exact ⟨a1,(updT_ne _ _ (hge x hx)).trans a2,a3⟩
   ·show u.num i=_
    rw [m1,h.ti]
   ·show _≤u.cnt
    rw [m4]; exact h.cn
   ·rw [hlo]
    show ∃ y∈u.stk,u.num y=_∧_
    rw [m3,m1]
    rcases Nat.lt_or_ge (t.num k) (t.low i) with hlt | hge2
    ·rw [Nat.min_eq_right (Nat.le_of_lt hlt)]
     exact ⟨k,hks,rfl,.one hk⟩
    ·rw [Nat.min_eq_left hge2]
     exact h.ly
   ·rw [hlo]
    show _≤u.num i
    rw [m1]
    have:=h.ln
    omega
   ·intro x hx y hy hxy
    rw [hlo]
    have:=h.lc x hx y hy hxy
    omega
   ·intro x hx
    rw [hlo]
    show u.num x≠0∧_
    rw [m1]
    rcases List.mem_cons.1 hx with rfl | hx
    ·refine ⟨hkt,fun hxs => ?_⟩
     rw [(h.nm x (hs.sv x hxs)).1]
     omega
    ·obtain ⟨a1,a2⟩:=h.lp x hx
     exact ⟨a1,fun hxs => by have:=a2 hxs; omega⟩
  ·rename_i hks
   rw [m3] at hks
   refine ⟨⟨l,hm,?_,h.nw,hold,?_,?_,?_,?_,?_,?_,hmi⟩,fun x hx => by rw [m1]; exact hx⟩
   ·rw [m3,h.st]
   ·rw [m1,h.ti]
   ·rw [m4]; exact h.cn
   ·rw [m3,m1,m2]; exact h.ly
   ·rw [m1,m2]; exact h.ln
   ·rw [m2]; exact h.lc
   ·intro x hx
    rw [m1,m2]
    rcases List.mem_cons.1 hx with rfl | hx
    ·refine ⟨hkt,fun hxs => absurd ?_ hks⟩
     rw [h.st]
     simp [hxs]
    ·exact h.lp x hx
def whT (N:Nat) (s:TS):Nat:=((List.range N).filter fun x => decide (s.num x=0)).length
theorem wh_le {s t:TS} (h : ∀ x,s.num x≠0→t.num x≠0):whT N t≤whT N s:=by
 unfold whT
 rw [← List.countP_eq_length_filter,← List.countP_eq_length_filter]
 refine List.countP_mono_left fun x _ hx => ?_
 simp only [decide_eq_true_eq] at hx ⊢
 by_cases e:s.num x=0
 ·exact e
 ·exact absurd hx (h x e)
theorem wh_enter {s:TS} {i:Nat} (hi:s.num i=0) (hN:i < N):whT N (enterT i s) < whT N s:=by
 unfold whT
 have key : ∀ L:List Nat,(L.filter fun x => decide ((enterT i s).num x=0)).length + (if i∈L then 1 else 0)≤(L.filter fun x => decide (s.num x=0)).length:=by
  intro L
  induction L with
  | nil => simp
  | cons x r ih =>
   by_cases e:x=i
   ·subst e
    have h1:(enterT x s).num x=s.cnt + 1:=updT_same _ _ _
    rw [List.filter_cons_of_neg (by simp [h1]),List.filter_cons_of_pos (by simp [hi])]
    simp only [List.mem_cons,true_or,if_true,List.length_cons]
    split at ih <;> omega
   ·have h1:(enterT i s).num x=s.num x:=updT_ne _ _ e
    have e' : ¬ i=x:=fun h => e h.symm
    simp only [List.mem_cons,e',false_or]
    by_cases h2:s.num x=0
    ·rw [List.filter_cons_of_pos (by simp [h1,h2]),List.filter_cons_of_pos (by simp [h2])]
     simp only [List.length_cons]
     omega
    ·rw [List.filter_cons_of_neg (by simp [h1,h2]),List.filter_cons_of_neg (by simp [h2])]
     exact ih
 have:=key (List.range N)
 rw [if_pos (List.mem_range.2 hN)] at this
 omega
theorem fold_lp {v:Nat→TS→TS} {n:Nat} (hv:GdT adj N v fun s => whT N s≤n) (hN : ∀ x,x < N→∀ y∈adj x,y < N) {s:TS} {G:List Nat} {i:Nat} (hs:InvT adj N s G) (hi:s.num i=0) (hiN:i < N) (hg : ∀ g∈G,Rch adj g i) :
 ∀ (K:List Nat) (t:TS) (l P:List Nat),(∀ k∈K,k∈adj i)→LpT adj N s t G i l P→whT N t≤n→∃ l' P',LpT adj N s (K.foldl (fun t k => stepT v i k t) t) G i l' P'∧(∀ k∈P,k∈P')∧(∀ k∈K,k∈P')  ∧ ∀ k∈P',k∈P∨k∈K
 | [],t,l,P,_,h,_ => ⟨l,P,h,fun k hk => hk,(fun k hk => by cases hk),fun k hk => .inl hk⟩
 | k :: K, t, l, P, hK, h, hW => by
  have hk:=hK k (by simp)
  have hWm:whT N (markT i k t)≤n:=by
   have:whT N (markT i k t)=whT N t:=by unfold whT; rw [(mark_num i k t).1]
   omega
  obtain ⟨⟨l1,h1⟩,hkeep⟩:=step_lp hv hN hs hi hiN hg h hk hWm
  have hmono:whT N (stepT v i k t)≤n:=Nat.le_trans (wh_le hkeep) hW
  obtain ⟨l2,P2,h2,a1,a2,a3⟩:=fold_lp hv hN hs hi hiN hg K (stepT v i k t) l1 (k :: P) (fun x hx => hK x (by simp [hx])) h1 hmono
  refine ⟨l2,P2,h2,fun x hx => a1 x (by simp [hx]),fun x hx => ?_,fun x hx => ?_⟩
  ·rcases List.mem_cons.1 hx with rfl | hx
   ·exact a1 x (by simp)
   ·exact a2 x hx
  ·rcases a3 x hx with hx | hx
   ·rcases List.mem_cons.1 hx with rfl | hx
    ·exact .inr (by simp)
    ·exact .inl hx
   ·exact .inr (by simp [hx])
theorem take_drop_i (l r:List Nat) (i:Nat) (h : ∀ x∈l,x≠i):(l ++ i :: r).takeWhile (fun x => decide (x≠i))=l∧(l ++ i :: r).dropWhile (fun x => decide (x≠i))=i :: r:=by
 induction l with
 | nil => simp
 | cons x t ih =>
  have hx:=h x (by simp)
  obtain ⟨h1,h2⟩:=ih fun y hy => h y (by simp [hy])
  simp only [List.cons_append]
  rw [List.takeWhile_cons_of_pos (by simpa using hx),List.dropWhile_cons_of_pos (by simpa using hx),h1,h2]
  exact ⟨rfl,rfl⟩
theorem leave_post {s t:TS} {G:List Nat} {i:Nat} {l P:List Nat} (hs:InvT adj N s G) (hi:s.num i=0) (h:LpT adj N s t G i l P) (hP : ∀ k∈adj i,k∈P) (hP2 : ∀ k∈P,k∈adj i) : ∃ l',InvT adj N (leaveT i t) G∧PostT adj s (leaveT i t) i l':=by
 have hge : ∀ x,s.num x≠0→x≠i:=fun x hx e => hx (e ▸ hi)
 have hsrt:=h.inv.srt
 rw [h.st] at hsrt
 obtain ⟨p1,p2,p3⟩:=List.pairwise_append.1 hsrt
 rw [List.pairwise_cons] at p2
 have hlb : ∀ x∈l,t.num i < t.num x:=fun x hx => p3 x hx i (by simp)
 have hli : ∀ x∈l,x≠i:=fun x hx e => by have:=hlb x hx; rw [e] at this; omega
 have hsb : ∀ y∈s.stk,t.num y < t.num i:=fun y hy => p2.1 y hy
 have his:i∈t.stk:=by rw [h.st]; simp
 have hic : ∀ y∈adj i,t.num y≠0:=fun y hy => (h.lp y (hP y hy)).1
 have hvn : ∀ x,x∈l→t.num x≠0:=fun x hx => h.inv.sv x (by rw [h.st]; simp [hx])
 have hno:i ∉ s.stk:=not_old hs hi
 unfold leaveT
 split
 ·rename_i hlow
  obtain ⟨c1,c2⟩:=take_drop_i l s.stk i hli
  have hcomp:compT i t=l ++ [i]:=by unfold compT; rw [h.st,c1]
  have hstk:(popT i t).stk=s.stk:=by
   show (t.stk.dropWhile fun x => decide (x≠i)).tail=_
   rw [h.st,c2]; rfl
  have hcm : ∀ x,x∈compT i t↔x∈l∨x=i:=fun x => by rw [hcomp]; simp
  have hct : ∀ x,x∈compT i t→x∈t.stk:=fun x hx => by
   rw [h.st]
   rcases (hcm x).1 hx with hx | hx
   ·simp [hx]
   ·simp [hx]
  have hcs : ∀ x,x∈compT i t→x ∉ s.stk:=fun x hx hxs => by
   have h1:=hsb x hxs
   rcases (hcm x).1 hx with hx | hx
   ·have:=hlb x hx; omega
   ·exact hno (hx ▸ hxs)
  have hts : ∀ x,x∈t.stk→x∈compT i t∨x∈s.stk:=fun x hx => by
   rw [h.st] at hx
   rw [hcm]
   simp only [List.mem_append,List.mem_cons] at hx
   rcases hx with hx | hx | hx
   ·exact .inl (.inl hx)
   ·exact .inl (.inr hx)
   ·exact .inr hx
  have hout : ∀ x∈compT i t,∀ y∈adj x,y∈compT i t∨(t.num y≠0∧y ∉ t.stk):=by
   intro x hx y hy
   have hvy:t.num y≠0:=by
    rcases (hcm x).1 hx with hxl | rfl
    ·refine h.inv.bc x (hvn x hxl) (fun hm => ?_) y hy
     rcases List.mem_cons.1 hm with e | hm
     ·exact hli x hxl e
     ·exact hcs x hx (hs.gs x hm)
    ·exact hic y hy
   by_cases hys:y∈t.stk
   ·rcases hts y hys with hyc | hyo
    ·exact .inl hyc
    ·exfalso
     have hyn:=(h.nm y (hs.sv y hyo)).1
     have hb:=hsb y hyo
     have hle:t.low i≤s.num y:=by
      rcases (hcm x).1 hx with hxl | rfl
      ·exact h.lc x hxl y hyo hy
      ·exact (h.lp y (hP y hy)).2 hyo
     omega
   ·exact .inr ⟨hvy,hys⟩
  have hpop : ∀ x z,Rch adj x z→t.num x≠0→x ∉ t.stk→t.num z≠0∧z ∉ t.stk:=by
   intro x z hr
   induction hr with
   | refl => exact fun a b => ⟨a,b⟩
   | step e _ ih =>
    intro a b
    obtain ⟨q1,q2⟩:=h.inv.pc _ a b _ e
    exact ih q1 q2
  have hesc : ∀ x z,Rch adj x z→x∈compT i t→z∈compT i t∨(t.num z≠0∧z ∉ t.stk):=by
   intro x z hr
   induction hr with
   | refl => exact fun a => .inl a
   | step e hr ih =>
    intro a
    rcases hout _ a _ e with hy | ⟨hy1,hy2⟩
    ·exact ih hy
    ·exact .inr (hpop _ _ hr hy1 hy2)
  have hnumc : ∀ x∈compT i t,t.num i≤t.num x:=fun x hx => by
   rcases (hcm x).1 hx with hx | rfl
   ·exact Nat.le_of_lt (hlb x hx)
   ·exact Nat.le_refl _
  have hir : ∀ x∈compT i t,Rch adj i x:=fun x hx => h.inv.rr i his x (hct x hx) (hnumc x hx)
  have hri : ∀ x∈compT i t,Rch adj x i:=fun x hx => by
   obtain ⟨g,hg,_,hr⟩:=h.inv.wg x (hct x hx)
   rcases List.mem_cons.1 hg with rfl | hg
   ·exact hr
   ·exfalso
    have hgs:=hs.gs g hg
    rcases hesc x g hr hx with hc | ⟨_,hc⟩
    ·exact hcs g hc hgs
    ·exact hc (by rw [h.st]; simp [hgs])
  have hcyc : ∀ x∈compT i t,((popT i t).rnd x=true↔Cyc adj x):=by
   intro x hx
   have hrx:(popT i t).rnd x=(t.rnd x || decide (1 < (compT i t).length)):=if_pos hx
   rw [hrx,hcomp]
   by_cases hll:l=[]
   ·subst hll
    obtain rfl:x=i:=by rcases (hcm x).1 hx with h0 | h0; cases h0; exact h0
    simp only [List.nil_append,List.length_cons,List.length_nil,Nat.lt_irrefl,decide_false,Bool.or_false]
    rw [h.ri]
    refine ⟨fun hp => ⟨x,hP2 x hp,.refl x⟩,fun ⟨y,hy,hr⟩ => ?_⟩
    rcases hout x hx y hy with hyc | ⟨hy1,hy2⟩
    ·rcases (hcm y).1 hyc with h0 | h0
     ·cases h0
     ·rw [h0] at hy; exact hP x hy
    ·exact absurd his (hpop y x hr hy1 hy2).2
   ·have hlen:decide (1 < (l ++ [i]).length)=true:=by
     have:=List.length_pos_iff.2 hll
     simp; omega
    rw [hlen,Bool.or_true]
    refine ⟨fun _ => ?_,fun _ => rfl⟩
    obtain ⟨y,hy,hyx⟩ : ∃ y∈compT i t,y≠x:=by
     obtain ⟨a,ha⟩:=List.exists_mem_of_ne_nil l hll
     by_cases e:a=x
     ·exact ⟨i,(hcm i).2 (.inr rfl),fun e2 => hli a ha (by rw [e,← e2])⟩
     ·exact ⟨a,(hcm a).2 (.inl ha),e⟩
    have hxy:Rch adj x y:=(hri x hx).trans (hir y hy)
    have hyx2:Rch adj y x:=(hri y hy).trans (hir x hx)
    cases hxy with
    | refl => exact absurd rfl hyx
    | step e hr => exact ⟨_,e,hr.trans hyx2⟩
  have hro : ∀ x,x ∉ compT i t→(popT i t).rnd x=t.rnd x:=fun x hx => if_neg hx
  have hinv:InvT adj N (popT i t) G:=by
   refine ⟨h.inv.bd,h.inv.rg,?_,?_,?_,?_,?_,?_,?_,?_,?_,?_,?_⟩
   ·rw [hstk]; exact p2.2
   ·intro x hx
    rw [hstk] at hx
    exact h.inv.sv x (by rw [h.st]; simp [hx])
   ·intro x hx
    rw [hstk]; exact hs.gs x hx
   ·intro x hx hxG y hy
    show t.num y≠0
    by_cases e:x=i
    ·subst e; exact hic y hy
    ·exact h.inv.bc x hx (fun hm => by
      rcases List.mem_cons.1 hm with h0 | h0
      ·exact e h0
      ·exact hxG h0) y hy
   ·intro x hx hxs y hy
    rw [hstk] at hxs
    rw [hstk]
    show t.num y≠0∧_
    by_cases hxt:x∈t.stk
    ·have hxc:=(hts x hxt).resolve_right hxs
     rcases hout x hxc y hy with hyc | ⟨hy1,hy2⟩
     ·exact ⟨h.inv.sv y (hct y hyc),hcs y hyc⟩
     ·exact ⟨hy1,fun hm => hy2 (by rw [h.st]; simp [hm])⟩
    ·obtain ⟨q1,q2⟩:=h.inv.pc x hx hxt y hy
     exact ⟨q1,fun hm => q2 (by rw [h.st]; simp [hm])⟩
   ·intro x hx y hy hxy
    rw [hstk] at hx hy
    exact h.inv.rr x (by rw [h.st]; simp [hx]) y (by rw [h.st]; simp [hy]) hxy
   ·intro y hy
    rw [hstk] at hy
    obtain ⟨g,hg,hle,hr⟩:=h.inv.wg y (by rw [h.st]; simp [hy])
    rcases List.mem_cons.1 hg with rfl | hg
    ·have:=hsb y hy; omega
    ·exact ⟨g,hg,hle,hr⟩
   ·intro x hx
    have hxc:x ∉ compT i t:=fun hm => h.inv.sv x (hct x hm) hx
    rw [hro x hxc]
    exact h.inv.r0 x hx
   ·intro x hx hxs
    rw [hstk] at hxs
    by_cases hxc:x∈compT i t
    ·exact hcyc x hxc
    ·rw [hro x hxc]
     exact h.inv.rp x hx fun hm => (hts x hm).elim hxc hxs
   ·intro x hx hr
    rw [hstk] at hx
    have hxc:x ∉ compT i t:=fun hm => hcs x hm hx
    rw [hro x hxc] at hr
    exact h.inv.rs x (by rw [h.st]; simp [hx]) hr
   ·intro x hx hxG hxa
    rw [hstk] at hx
    have hxc:x ∉ compT i t:=fun hm => hcs x hm hx
    rw [hro x hxc]
    refine h.inv.rb x (by rw [h.st]; simp [hx]) (fun hm => ?_) hxa
    rcases List.mem_cons.1 hm with h0 | h0
    ·exact hno (h0 ▸ hx)
    ·exact hxG h0
  refine ⟨[],hinv,?_⟩
  refine ⟨by rw [hstk]; rfl,(fun x hx => by cases hx),fun x hx => ?_,?_,?_,(fun hx => by cases hx),fun _ => hlow,(fun x hx => by cases hx)⟩
  ·obtain ⟨a1,a2,a3⟩:=h.nm x hx
   refine ⟨a1,a2,?_⟩
   by_cases hxc:x∈compT i t
   ·exfalso
    rcases (hcm x).1 hxc with hxl | e
    ·exact hx (h.nw x hxl)
    ·exact hge x hx e
   ·rw [hro x hxc]; exact a3
  ·show s.cnt≤t.cnt
   have:=h.cn; omega
  ·show s.cnt < t.num i
   rw [h.ti]; omega
 ·rename_i hlow
  have hlt:t.low i < t.num i:=by have:=h.ln; omega
  obtain ⟨y,hy,hyn,hyr⟩:=h.ly
  have hys:y∈s.stk:=by
   rw [h.st] at hy
   simp only [List.mem_append,List.mem_cons] at hy
   rcases hy with hy | rfl | hy
   ·have:=hlb y hy; omega
   ·omega
   ·exact hy
  have hinv:InvT adj N t G:=by
   refine ⟨h.inv.bd,h.inv.rg,h.inv.srt,h.inv.sv,?_,?_,h.inv.pc,h.inv.rr,?_,h.inv.r0,h.inv.rp,h.inv.rs,?_⟩
   ·intro x hx
    exact h.inv.gs x (by simp [hx])
   ·intro x hx hxG z hz
    by_cases e:x=i
    ·subst e; exact hic z hz
    ·exact h.inv.bc x hx (fun hm => by
      rcases List.mem_cons.1 hm with h0 | h0
      ·exact e h0
      ·exact hxG h0) z hz
   ·intro z hz
    obtain ⟨g,hg,hle,hr⟩:=h.inv.wg z hz
    rcases List.mem_cons.1 hg with rfl | hg
    ·obtain ⟨g2,hg2,hle2,hr2⟩:=h.inv.wg y hy
     rcases List.mem_cons.1 hg2 with rfl | hg2
     ·omega
     ·exact ⟨g2,hg2,by omega,hr.trans (hyr.trans hr2)⟩
    ·exact ⟨g,hg,hle,hr⟩
   ·intro x hx hxG hxa
    by_cases e:x=i
    ·subst e; exact h.ri.2 (hP x hxa)
    ·exact h.inv.rb x hx (fun hm => by
      rcases List.mem_cons.1 hm with h0 | h0
      ·exact e h0
      ·exact hxG h0) hxa
  refine ⟨l ++ [i],hinv,?_⟩
  refine ⟨by rw [h.st]; simp,fun x hx => ?_,h.nm,?_,?_,fun _ => ⟨y,hys,?_,hyr⟩,fun hx => absurd (by simp) hx,fun x hx z hz hxz => ?_⟩
  ·rcases List.mem_append.1 hx with hx | hx
   ·exact h.nw x hx
   ·simp at hx; rw [hx]; exact hi
  ·have:=h.cn; omega
  ·rw [h.ti]; omega
  ·rw [← (h.nm y (hs.sv y hys)).1]; exact hyn
  ·rcases List.mem_append.1 hx with hx | hx
   ·exact h.lc x hx z hz hxz
   ·simp at hx
    subst hx
    exact (h.lp z (hP z hxz)).2 hz
theorem visit_good (hN : ∀ x,x < N→∀ y∈adj x,y < N) : ∀ n:Nat,GdT adj N (visitT adj n) fun s => whT N s≤n
 | 0 => fun s G k h hk hkN _ hW => by
  have:=wh_enter (N:=N) hk hkN
  omega
 | n + 1 => fun s G i h hi hiN hg hW => by
  have he:=enter_lp h hi hiN hg
  have hw:=wh_enter (N:=N) hi hiN
  obtain ⟨l,P,h1,_,h2,h3⟩:=fold_lp (visit_good hN n) hN h hi hiN hg (adj i) (enterT i s) [] [] (fun k hk => hk) he (by omega)
  unfold visitT
  exact leave_post h hi h1 h2 fun k hk => by
   rcases h3 k hk with h3 | h3
   ·cases h3
   ·exact h3
def s0T:TS:=⟨fun _ => 0,fun _ => 0,[],0,fun _ => false⟩
def allT (adj:Nat→List Nat) (n:Nat) (s:TS) (L:List Nat):TS:=L.foldl (fun t i => if t.num i=0 then visitT adj n i t else t) s
theorem all_inv (hN : ∀ x,x < N→∀ y∈adj x,y < N) : ∀ (L:List Nat) (s:TS),(∀ x∈L,x < N)→InvT adj N s []→InvT adj N (allT adj N s L) []∧(∀ x,s.num x≠0→(allT adj N s L).num x≠0)∧∀ x∈L,(allT adj N s L).num x≠0
 | [],s,_,h => ⟨h,fun x hx => hx,fun x hx => by cases hx⟩
 | i :: L, s, hL, h => by
  have hwN:whT N s≤N:=by
   unfold whT
   have:=List.length_filter_le (fun x => decide (s.num x=0)) (List.range N)
   rw [List.length_range] at this
   exact this
  by_cases hi:s.num i=0
  ·obtain ⟨l,h1,h2⟩:=visit_good hN N s [] i h hi (hL i (by simp)) (fun g hg => by cases hg) hwN
   obtain ⟨a1,a2,a3⟩:=all_inv hN L (visitT adj N i s) (fun x hx => hL x (by simp [hx])) h1
   have e:allT adj N s (i :: L)=allT adj N (visitT adj N i s) L:=by
    show L.foldl _ (if s.num i=0 then visitT adj N i s else s)=_
    rw [if_pos hi]; rfl
   rw [e]
   have hni:(visitT adj N i s).num i≠0:=by have:=h2.ni; omega
   refine ⟨a1,fun x hx => a2 x (by rw [(h2.nm x hx).1]; exact hx),fun x hx => ?_⟩
   rcases List.mem_cons.1 hx with rfl | hx
   ·exact a2 x hni
   ·exact a3 x hx
  ·obtain ⟨a1,a2,a3⟩:=all_inv hN L s (fun x hx => hL x (by simp [hx])) h
   have e:allT adj N s (i :: L)=allT adj N s L:=by
    show L.foldl _ (if s.num i=0 then visitT adj N i s else s)=_
    rw [if_neg hi]; rfl
   rw [e]
   refine ⟨a1,a2,fun x hx => ?_⟩
   rcases List.mem_cons.1 hx with rfl | hx
   ·exact a2 x hi
   ·exact a3 x hx
theorem marks (hN : ∀ x,x < N→∀ y∈adj x,y < N) : ∀ x,x < N→((allT adj N s0T (List.range N)).rnd x=true↔Cyc adj x):=by
 have h0:InvT adj N s0T []:=⟨fun x => Nat.zero_le _,fun x hx => absurd rfl hx,List.Pairwise.nil,(fun x hx => by cases hx),(fun x hx => by cases hx),fun x hx => absurd rfl hx,fun x hx => absurd rfl hx,(fun x hx => by cases hx),(fun x hx => by cases hx),fun _ _ => rfl,fun x hx => absurd rfl hx,(fun x hx => by cases hx),fun x hx => by cases hx⟩
 obtain ⟨h1,_,h3⟩:=all_inv hN (List.range N) s0T (fun x hx => List.mem_range.1 hx) h0
 intro x hx
 refine h1.rp x (h3 x (List.mem_range.2 hx)) fun hm => ?_
 obtain ⟨g,hg,_⟩:=h1.wg x hm
 cases hg
end
end Go.Vai
namespace Go.Vai
variable {m:Int} {e3 e4:Value}
def rgN (N:Nat) (f:Nat→Nat):List Int:=(List.range N).map fun i => (f i:Int)
def rgB (N:Nat) (f:Nat→Bool):List Bool:=(List.range N).map f
theorem rgN_len (N:Nat) (f:Nat→Nat):(rgN N f).length=N:=by simp [rgN]
theorem rgB_len (N:Nat) (f:Nat→Bool):(rgB N f).length=N:=by simp [rgB]
theorem rgN_get (N:Nat) (f:Nat→Nat) (i:Nat) (h:i < (rgN N f).length):(rgN N f)[i]=(f i:Int):=by simp [rgN]
theorem rgB_get (N:Nat) (f:Nat→Bool) (i:Nat) (h:i < (rgB N f).length):(rgB N f)[i]=f i:=by simp [rgB]
theorem range_set {α:Type} (N:Nat) (f g:Nat→α) (k:Nat) (v:α) (h1:g k=v) (h2 : ∀ i,i≠k→g i=f i):((List.range N).map f).set k v=(List.range N).map g:=by
 refine List.ext_getElem? fun i => ?_
 rw [List.getElem?_set]
 by_cases hk:k=i
 ·subst hk
  simp only [if_true,List.length_map,List.length_range,List.getElem?_map]
  split
  ·rename_i h; rw [List.getElem?_range h]; simp [h1]
  ·rename_i h; rw [List.getElem?_eq_none (by simpa using h)]; rfl
 ·rw [if_neg hk,List.getElem?_map,List.getElem?_map]
  by_cases h:i < N
  ·rw [List.getElem?_range h]; simp [h2 i fun e => hk e.symm]
  ·rw [List.getElem?_eq_none (by simpa using h)]; rfl
theorem rgN_set (N:Nat) (f:Nat→Nat) (k v:Nat):((rgN N f).map eIn).set k [.sc (.int .i64 (v:Int))]=(rgN N (updT f k v)).map eIn:=by
 have:(rgN N f).set k (v:Int)=rgN N (updT f k v):=range_set N _ _ k _ (by simp [updT]) (fun i hi => by simp [updT,hi])
 rw [← this,List.map_set]; rfl
theorem rgB_set (N:Nat) (f:Nat→Bool) (k:Nat) (v:Bool):((rgB N f).map eBo).set k [.sc (.bool v)]=(rgB N (updT f k v)).map eBo:=by
 have:(rgB N f).set k v=rgB N (updT f k v):=range_set N _ _ k _ (by simp [updT]) (fun i hi => by simp [updT,hi])
 rw [← this,List.map_set]; rfl
theorem rgN_getE (N:Nat) (f:Nat→Nat) (i:Nat) (h:i < N):(rgN N f)[i]? = some (f i:Int):=by simp [rgN,h]
theorem rgB_getE (N:Nat) (f:Nat→Bool) (i:Nat) (h:i < N):(rgB N f)[i]? = some (f i):=by simp [rgB,h]
theorem rgN_set1 (N:Nat) (f:Nat→Nat) (k v:Nat):((rgN N f).map eIn).set k [.sc (.int .i64 ((v:Int) + 1))]=(rgN N (updT f k (v + 1))).map eIn:=rgN_set N f k (v + 1)
theorem rgN_setm (N:Nat) (f:Nat→Nat) (k a b:Nat):((rgN N f).map eIn).set k [.sc (.int .i64 (min (a:Int) (b:Int)))]=(rgN N (updT f k (min a b))).map eIn:=by
 rw [show min (a:Int) (b:Int)=((min a b:Nat):Int) by omega]; exact rgN_set N f k _
def rowS (l:List Nat):List Int:=l.reverse.map fun (n:Nat) => (n:Int)
def onS (N:Nat) (l:List Nat):List Bool:=rgB N fun j => decide (j∈l)
theorem rowS_len (l:List Nat):(rowS l).length=l.length:=by simp [rowS]
theorem row_snoc (l:List Nat) (i:Nat):(rowS l).map eIn ++ [[.sc (.int .i64 (i:Int))]]=(rowS (i :: l)).map eIn:=by simp [rowS,eIn]
theorem onS_len (N:Nat) (l:List Nat):(onS N l).length=N:=rgB_len N _
theorem onS_getE (N:Nat) (l:List Nat) (i:Nat) (h:i < N):(onS N l)[i]? = some (decide (i∈l)):=rgB_getE N _ i h
theorem onS_get (N:Nat) (l:List Nat) (i:Nat) (h:i < (onS N l).length):(onS N l)[i]=decide (i∈l):=rgB_get N _ i h
theorem onS_set (N:Nat) (l:List Nat) (i:Nat):((onS N l).map eBo).set i [.sc (.bool true)]=(onS N (i :: l)).map eBo:=by
 unfold onS
 rw [rgB_set]
 congr 2
 funext j
 by_cases h:j=i <;> simp [updT,h]
structure CY where
 n:Nat
 cnt:Int
 low:List Int
 num:List Int
 k:Nat
 row:List Int
 on:List Bool
 rd:List Bool
def wBn (o:Nat) (x:WS) (n:Nat) (rd:List Bool):List (Option Blk):=[some (.box [rwS (x.cells.map eCel),.mp (o + 1),.osl (o + 2) 8 0 x.nodes.length,.osl (o + 3) 1 0 x.fm.length,.osl (o + 4) 1 0 n,.osl (o + 5) 3 0 x.vals.length,.osl (o + 6) 1 0 x.kn.length,i64 x.left,bo x.short]),
 some (.map ((atL x.cells).map eAt) x.cells.length),some (.arr 8 (x.nodes.map eNd)),some (.arr 1 (x.fm.map eBo)),some (.arr 1 (rd.map eBo)),some (.arr 3 (x.vals.map eCel)),some (.arr 1 (x.kn.map eBo))]
def setR (x:WS) (rd:List Bool):WS:={ x with rd:=rd }
def cyB (f:Bool) (x:WS) (c:CY):List (Option Blk) :=
 [some (.box [i64 c.cnt]), some (.box [.osl 2 1 0 c.n]), some (.arr 1 (c.low.map eIn)), some (.box [.osl 4 1 0 c.n]), some (.arr 1 (c.num.map eIn)),
  some (.box [.osl (if f then 18 else 6) 1 0 c.k]),(if f then none else some (.arr 1 (c.row.map eIn))),some (.box [.osl 8 1 0 c.n]),some (.arr 1 (c.on.map eBo)),some (.box [.bp 10 0])] ++ wBn 10 x c.n c.rd ++
 (some (.box [.fn 67 [.bp 0 0,.bp 1 0,.bp 3 0,.bp 5 0,.bp 7 0,.bp 9 0,.bp 17 0]]) :: if f then [some (.arr 1 (c.row.map eIn))] else [])
def cyT (N:Nat) (t:TS) (row:List Int):CY:=⟨N,t.cnt,rgN N t.low,rgN N t.num,t.stk.length,row,onS N t.stk,rgB N t.rnd⟩
def visA (i:Nat):List AV:=[i64 i,.bp 0 0,.bp 1 0,.bp 3 0,.bp 5 0,.bp 7 0,.bp 9 0,.bp 17 0]
def adjW (x:WS) (i:Nat):List Nat:=(usesL x i).map Int.toNat
def RowOk (l:List Nat) (row:List Int):Prop := ∃ J,row=rowS l ++ J
theorem RowOk.take {l:List Nat} {row:List Int} (h:RowOk l row):(row.map eIn).take l.length=(rowS l).map eIn:=by
 obtain ⟨J,rfl⟩:=h
 rw [List.map_append,List.take_left' (by simp [rowS_len])]
theorem RowOk.len {l:List Nat} {row:List Int} (h:RowOk l row):l.length≤row.length:=by
 obtain ⟨J,rfl⟩:=h
 simp [rowS_len]
def S67u (x:WS) (N i:Nat) (U:List Int) (a:TS × List Int × Nat):St:={ sl:=[(0,i64 i),(2,.bp 1 0),(3,.bp 3 0),(4,.bp 5 0),(5,.bp 7 0),(6,.bp 9 0),(7,.bp 17 0),(33,rwS (U.map eIn)),(34,i64 U.length),(35,i64 a.2.2)],hp:=numd 0 (cyB true x (cyT N a.1 a.2.1)),nx:=19 }
theorem fld_lt (C:List Cel) : ∀ (P:List (Int × Int)) (O:List Int),(∀ z∈O,∃ j:Nat,j < C.length∧z=j)→∀ z∈fldL C O P,∃ j:Nat,j < C.length∧z=j
 | [],O,h => h
 | p :: P, O, h => by
  refine fld_lt C P _ fun z hz => ?_
  simp only at hz
  cases hi:ixF p.1 p.2 C with
  | none => rw [hi] at hz; exact h z hz
  | some j =>
   rw [hi] at hz
   rcases List.mem_append.1 hz with hz | hz
   ·exact h z hz
   ·simp at hz
    obtain ⟨c,hc,_⟩:=ixF_some hi
    exact ⟨j,(List.getElem?_eq_some_iff.1 hc).1,hz⟩
theorem uses_lt (x:WS) (i:Nat) : ∀ z∈usesL x i,∃ j:Nat,j < x.cells.length∧z=j:=by
 intro z hz
 unfold usesL at hz
 split at hz
 ·exact fld_lt x.cells _ [] (fun z h => by cases h) z (mem_sortZ.1 (mem_cmp.1 hz))
 ·cases hz
theorem adj_lt (x:WS) {i j:Nat} (h:j∈adjW x i):j < x.cells.length:=by
 obtain ⟨z,hz,rfl⟩:=List.mem_map.1 h
 obtain ⟨k,hk,rfl⟩:=uses_lt x i z hz
 simpa using hk
theorem uses_cast (x:WS) (i:Nat):usesL x i=(adjW x i).map fun (n:Nat) => (n:Int):=by
 unfold adjW
 rw [List.map_map]
 refine (List.map_id _).symm.trans (List.map_congr_left fun z hz => ?_)
 obtain ⟨k,_,rfl⟩:=uses_lt x i z hz
 simp
theorem uses_len (x:WS) (i:Nat) (hx:WOk x):(usesL x i).length≤100000000:=by
 unfold usesL
 split
 ·refine Nat.le_trans (cmp_len _) ?_
  rw [sortZ_len]
  refine Nat.le_trans (fld_len _ _ _) ?_
  rw [List.length_nil,Nat.zero_add]
  cases h:x.nodes[i]? with
  | none => simp [zNd,namP,namL]
  | some nd => exact (hx.g nd (List.mem_of_getElem? h)).2
 ·simp
def S68 (n:Nat) (E:List (List FV)) (v:Nat) (j:Nat):St:={ sl:=[(0,.osl 0 1 0 n),(1,i64 v),(7,i64 n),(8,i64 j)],hp:=[(0,some (.arr 1 E))],nx:=1 }
theorem run_index (A:List Int) (v:Nat) (B:List Int) (n:Nat) (row:List Int) (hr:row=A ++ (v:Int) :: B) (hv:(v:Int) ∉ A) (hn:A.length < n) (hn2:n≤row.length) (hb:row.length≤1000000000):(W m e3 e4).run 68 [.osl 0 1 0 n,i64 v] [some (.arr 1 (row.map eIn))]=some (i64 A.length,[some (.arr 1 (row.map eIn))]):=by
 refine run_wp (by rw [W_T]; exact rfl) ?_
 simp -dsimp -implicitDefEqProofs (maxSteps:=1000000) (disch:=omega) [ST]
 refine wp_inv (S68 n (row.map eIn) v) (fun j => j≤A.length) (fun j => n - j) 0 (by omega) (by simp -dsimp -implicitDefEqProofs (maxSteps:=1000000) (disch:=omega) [ST,S68]) ?_
 intro j hj
 by_cases h:j=A.length
 ·have hg:row[j]? = some (v:Int):=by rw [hr,h,List.getElem?_append_right (Nat.le_refl _)]; simp
  have hg' : ∀ h:j < row.length,row[j]=v:=fun h => (List.getElem?_eq_some_iff.1 hg).2
  simp -dsimp -implicitDefEqProofs (maxSteps:=1000000) (disch:=omega) [ST,S68,hg,hg',eIn,show j < n by omega]
  exact h
 ·obtain ⟨z,hz⟩ : ∃ z,row[j]? = some z:=⟨_,List.getElem?_eq_getElem (by omega)⟩
  have hz' : ∀ h:j < row.length,row[j]=z:=fun h => (List.getElem?_eq_some_iff.1 hz).2
  have hne : ¬ (v:Int)=z:=by
   intro e
   rw [hr,List.getElem?_append_left (by omega)] at hz
   exact hv (e ▸ List.mem_of_getElem? hz)
  simp -dsimp -implicitDefEqProofs (maxSteps:=1000000) (disch:=omega) [ST,S68,hz,hz',eIn,hne,show j < n by omega]
  refine again (j + 1) (by omega) (by omega) (by simp -dsimp -implicitDefEqProofs (maxSteps:=1000000) (disch:=omega) [ST,S68])
end Go.Vai
namespace Go.Vai
variable {m:Int} {e3 e4:Value}
def cwT (N:Nat) (s:TS):Prop:=s.cnt + whT N s≤N
theorem cw_mark {N:Nat} {s:TS} (i k:Nat) (h:cwT N s):cwT N (markT i k s):=by
 obtain ⟨h1,_,_,h4⟩:=mark_num i k s
 unfold cwT whT at *
 rw [h1,h4]; exact h
theorem cw_visit {adj:Nat→List Nat} {N:Nat} (hN : ∀ x,x < N→∀ y∈adj x,y < N) : ∀ (f i:Nat) (s:TS),i < N→s.num i=0→cwT N s→cwT N (visitT adj f i s)
 | 0,i,s,_,_,h => h
 | f + 1, i, s, hi, h0, h => by
  have he:cwT N (enterT i s):=by
   have h1:=wh_enter (N:=N) h0 hi
   have h2:(enterT i s).cnt=s.cnt + 1:=rfl
   unfold cwT at h ⊢
   omega
  have hstep : ∀ (t:TS) (k:Nat),k∈adj i→cwT N t→cwT N (stepT (visitT adj f) i k t):=by
   intro t k hk ht
   have hm:=cw_mark i k ht
   unfold stepT
   split
   ·rename_i hz
    have:=cw_visit hN f k _ (hN i hi k hk) hz hm
    exact this
   ·split
    ·exact hm
    ·exact hm
  have hf : ∀ (K:List Nat) (t:TS),(∀ k∈K,k∈adj i)→cwT N t→cwT N (K.foldl (fun t k => stepT (visitT adj f) i k t) t):=by
   intro K
   induction K with
   | nil => exact fun t _ h => h
   | cons k K ih => exact fun t hK ht => ih _ (fun z hz => hK z (by simp [hz])) (hstep t k (hK k (by simp)) ht)
  have:=hf (adj i) _ (fun k hk => hk) he
  unfold visitT leaveT
  split
  ·exact this
  ·exact this
theorem fold_false (cl:List Nat) (f:Nat→Bool) (x:Nat):(cl.foldl (fun f c => updT f c false) f) x=if x∈cl then false else f x:=by
 induction cl generalizing f with
 | nil => simp
 | cons c r ih =>
  rw [List.foldl_cons,ih]
  by_cases h:x∈r
  ·simp [h]
  ·by_cases e:x=c <;> simp [h,e,updT]
theorem fold_or (cl:List Nat) (f:Nat→Bool) (b:Bool) (x:Nat):(cl.foldl (fun f c => updT f c (f c || b)) f) x=if x∈cl then f x || b else f x:=by
 induction cl generalizing f with
 | nil => simp
 | cons c r ih =>
  rw [List.foldl_cons,ih]
  by_cases h:x∈r
  ·by_cases e:x=c <;> simp [h,e,updT]
  ·by_cases e:x=c <;> simp [h,e,updT]
def IH67 (m:Int) (e3 e4:Value) (x:WS) (N f:Nat):Prop := ∀ (i:Nat) (s:TS) (row:List Int) (G:List Nat),InvT (adjW x) N s G→s.num i=0→i < N→(∀ g∈G,Rch (adjW x) g i)→whT N s≤f→cwT N s→RowOk s.stk row→row.length≤1000000 →
 ∃ row',(RowOk (visitT (adjW x) f i s).stk row'∧row'.length≤1000000)∧(W m e3 e4).run 67 (visA i) (cyB false x (cyT N s row))=some (.tup [],cyB true x (cyT N (visitT (adjW x) f i s) row'))
def S67p (x:WS) (N:Nat) (t:TS) (R0:List Int) (fr len:Nat) (a:(Nat→Bool) × (Nat→Bool) × Nat):St:={ sl:=[(4,.bp 5 0),(5,.bp 7 0),(6,.bp 9 0),(11,i64 fr),(99,.osl 18 1 fr len),(100,i64 len),(101,i64 a.2.2)],hp:=numd 0 (cyB true x ⟨N,t.cnt,rgN N t.low,rgN N t.num,t.stk.length,R0,rgB N a.1,rgB N a.2.1⟩),nx:=19 }
theorem rowS_app (l r:List Nat) (i:Nat):rowS (l ++ i :: r)=rowS r ++ (i:Int) :: rowS l:=by simp [rowS]
theorem rowS_get (l:List Nat) (j:Nat):(rowS l)[j]? = (l.reverse[j]?).map fun (n:Nat) => (n:Int):=by rw [rowS,List.getElem?_map]
theorem stk_nodup {adj:Nat→List Nat} {N:Nat} {s:TS} {G:List Nat} (h:InvT adj N s G):s.stk.Nodup:=h.srt.imp fun {a b} hab e => by rw [e] at hab; omega
theorem stk_len {adj:Nat→List Nat} {N:Nat} {s:TS} {G:List Nat} (h:InvT adj N s G):s.stk.length≤N :=
 nodup_lt N s.stk (h.srt.imp fun {a b} hab e => by rw [e] at hab; omega) fun x hx => h.rg x (h.sv x hx)
set_option maxHeartbeats 8000000 in
theorem visit_step (x : WS) (N f : Nat) (hx : WOk x) (hN : x.cells.length = N) (ih : IH67 m e3 e4 x N f) : IH67 m e3 e4 x N (f + 1) := by
 intro i s row G hinv h0 hiN hg hwh hcw hrow hrl
 have hN5:N≤100000:=by rw [← hN]; exact hx.l
 have hcn:s.cnt≤N:=by unfold cwT at hcw; omega
 have hsl:=stk_len hinv
 have htk:=hrow.take
 have hrk:=hrow.len
 have hadj : ∀ x1,x1 < N→∀ y∈adjW x x1,y < N:=fun x1 _ y hy => by rw [← hN]; exact adj_lt x hy
 have hu:=run_uses (m:=m) (e3:=e3) (e4:=e4) (setR x (rgB N s.rnd)) i ⟨hx.n,hx.f,(by rw [show (setR x (rgB N s.rnd)).rd=rgB N s.rnd from rfl,rgB_len]; exact hN.symm),hx.v,hx.k,hx.l,hx.g⟩ (by show i < x.cells.length; omega)
 rw [show usesL (setR x (rgB N s.rnd)) i=usesL x i from rfl,uses_cast] at hu
 generalize hA:adjW x i=A at hu
 have hAN : ∀ k∈A,k < N:=fun k hk => hadj i hiN k (hA ▸ hk)
 have hAd : ∀ k∈A,k∈adjW x i:=fun k hk => hA ▸ hk
 obtain ⟨U,hU⟩ : ∃ U:List Int,(A.map fun (n:Nat) => (n:Int))=U:=⟨_,rfl⟩
 rw [hU] at hu
 have hUl:U.length=A.length:=by rw [← hU,List.length_map]
 have hUm:U.length≤100000000:=by
  have:=uses_len x i hx
  rw [uses_cast,List.length_map,hA] at this
  omega
 have he:=enter_lp hinv h0 hiN hg
 have hwe:=wh_enter (N:=N) h0 hiN
 have hcwe:cwT N (enterT i s):=by
  have h2:(enterT i s).cnt=s.cnt + 1:=rfl
  unfold cwT at hcw ⊢
  omega
 have htk2:((rowS s.stk).map eIn).take s.stk.length=(rowS s.stk).map eIn:=List.take_of_length_le (by simp [rowS_len])
 have htk3:((rowS (i :: s.stk)).map eIn).take (s.stk.length + 1)=(rowS (i :: s.stk)).map eIn:=List.take_of_length_le (by simp [rowS_len])
 obtain ⟨P0,hP0,hP1⟩ : ∃ P0:AV × List (Option Blk)→Prop,(∀ row',RowOk (visitT (adjW x) (f + 1) i s).stk row'→row'.length≤1000000→P0 (AV.tup [],cyB true x (cyT N (visitT (adjW x) (f + 1) i s) row')))∧∀ R,P0 R→∃ row',(RowOk (visitT (adjW x) (f + 1) i s).stk row'∧row'.length≤1000000)∧R=(AV.tup [],cyB true x (cyT N (visitT (adjW x) (f + 1) i s) row')) :=
  ⟨fun R => ∃ row',(RowOk (visitT (adjW x) (f + 1) i s).stk row'∧row'.length≤1000000)∧R=(AV.tup [],cyB true x (cyT N (visitT (adjW x) (f + 1) i s) row')),fun row' h1 h2 => ⟨row',⟨h1,h2⟩,rfl⟩,fun R h => h⟩
 suffices hsuf : ∃ R,P0 R∧(W m e3 e4).run 67 (visA i) (cyB false x (cyT N s row))=some R by
  obtain ⟨R,h1,h2⟩:=hsuf
  obtain ⟨row',h3,rfl⟩:=hP1 R h1
  exact ⟨row',h3,h2⟩
 clear hP1
 simp only [wBb,setR,rwS,rgB_len,Nat.reduceAdd] at hu
 refine run_wpE (by rw [W_T]; exact rfl) ?_
 simp -dsimp -implicitDefEqProofs (maxSteps:=1000000) (disch:=omega) [ST,visA,cyB,cyT,wBn,rwS,rgN_len,rgB_len,onS_len,rgN_get,rgB_get,onS_get,rgN_set,rgN_set1,rgB_set,onS_set,rgN_getE,rgB_getE,onS_getE,eIn,eBo,hiN,htk,htk2,hrk,row_snoc,rowS_len,-callV]
 refine opt_callf (by decide) (ns:=[10,11,12,13,14,15,16]) (by kernel_rfl) (by kernel_rfl) (by kernel_rfl) hu ?_
 simp -dsimp -implicitDefEqProofs (maxSteps:=1000000) (disch:=omega) [ST,htk3,rowS_len]
 refine wp_inv (S67u x N i U) (fun a => a.2.2≤A.length∧a.1=(A.take a.2.2).foldl (fun t k => stepT (visitT (adjW x) f) i k t) (enterT i s)∧RowOk a.1.stk a.2.1∧a.2.1.length≤1000000∧cwT N a.1∧whT N a.1≤f∧∃ l P,LpT (adjW x) N s a.1 G i l P) (fun a => A.length - a.2.2) (enterT i s,rowS (i :: s.stk),0) ⟨by simp,by simp,⟨[],by simp [enterT]⟩,?_,hcwe,?_,[],[],he⟩ ?_ ?_
 ·simp only [rowS_len,List.length_cons]; omega
 ·simp only; omega
 ·kernel_rfl
 ·rintro ⟨t,R0,j⟩ ⟨g1,g2,g3,g4,g5,g6,l,P,g7⟩
  simp only at g1 g2 g3 g4 g5 g6 g7
  have hit:i∈t.stk:=by rw [g7.st]; simp
  have hni : ¬ t.num i=0:=by rw [g7.ti]; omega
  have htl:=stk_len g7.inv
  have htc:t.cnt≤N:=by unfold cwT at g5; omega
  by_cases h:j < A.length
  ·obtain ⟨k,hk⟩ : ∃ k,A[j]? = some k:=⟨_,List.getElem?_eq_getElem h⟩
   have hkA:=hAd k (List.mem_of_getElem? hk)
   have hkN:=hAN k (List.mem_of_getElem? hk)
   have hUj:U[j]? = some (k:Int):=by rw [← hU,List.getElem?_map,hk]; rfl
   have hUj' : ∀ h:j < U.length,U[j]=(k:Int):=fun h => (List.getElem?_eq_some_iff.1 hUj).2
   have hjU:j < U.length:=by omega
   have hnx:(A.take (j + 1)).foldl (fun t k => stepT (visitT (adjW x) f) i k t) (enterT i s)=stepT (visitT (adjW x) f) i k t:=by
    rw [List.take_add_one,hk,List.foldl_append,← g2]; rfl
   have hwm:whT N (markT i k t)≤f:=by
    have:whT N (markT i k t)=whT N t:=by unfold whT; rw [(mark_num i k t).1]
    omega
   obtain ⟨⟨l1,hlp⟩,hkeep⟩:=step_lp (visit_good hadj f) hadj hinv h0 hiN hg g7 hkA hwm
   have hw1:whT N (stepT (visitT (adjW x) f) i k t)≤f:=Nat.le_trans (wh_le hkeep) g6
   have hcw1:cwT N (stepT (visitT (adjW x) f) i k t):=by
    have hm:=cw_mark i k g5
    unfold stepT
    split
    ·rename_i hz
     exact cw_visit hadj f k _ hkN hz hm
    ·split
     ·exact hm
     ·exact hm
   by_cases hki:k=i
   ·subst hki
    obtain ⟨tA,htA⟩ : ∃ tA:TS,(⟨t.num,updT t.low k (min (t.low k) (t.num k)),t.stk,t.cnt,updT t.rnd k true⟩:TS)=tA:=⟨_,rfl⟩
    have hst:stepT (visitT (adjW x) f) k k t=tA:=by
     rw [← htA]
     simp [stepT,markT,hni,hit,lowT]
    rw [hst] at hnx hlp hw1 hcw1
    simp -dsimp -implicitDefEqProofs (maxSteps:=1000000) (disch:=omega) [ST,S67u,cyB,cyT,wBn,rwS,rgN_getE,rgB_getE,onS_getE,rgN_get,rgB_get,onS_get,rgN_setm,rgB_set,eIn,eBo,hUj,hUj',hjU,hkN,hni,hit]
    refine again (tA,R0,j + 1) ⟨by simp only; omega,hnx.symm,by simp only; rw [← htA]; exact g3,g4,hcw1,hw1,l1,k :: P,hlp⟩ (by simp only; omega) ?_
    subst htA
    kernel_rfl
   ·by_cases hnk:t.num k=0
    ·have hmk:markT i k t=t:=by unfold markT; rw [if_neg hki]
     have hrch : ∀ g∈i :: G,Rch (adjW x) g k:=by
      intro g hgm
      rcases List.mem_cons.1 hgm with rfl | hgm
      ·exact .one hkA
      ·exact (hg g hgm).trans (.one hkA)
     obtain ⟨row1,⟨q1,q2⟩,q3⟩:=ih k t R0 (i :: G) g7.inv hnk hkN hrch g6 g5 g3 g4
     have hst:stepT (visitT (adjW x) f) i k t=lowT i ((visitT (adjW x) f k t).low k) (visitT (adjW x) f k t):=by
      unfold stepT
      rw [hmk,if_pos hnk]
     rw [hst] at hnx hlp hw1 hcw1
     have hvl:=stk_len hlp.inv
     have hvs:(lowT i ((visitT (adjW x) f k t).low k) (visitT (adjW x) f k t)).stk=(visitT (adjW x) f k t).stk:=rfl
     rw [hvs] at hvl
     generalize visitT (adjW x) f k t=v at *
     simp -dsimp -implicitDefEqProofs (maxSteps:=1000000) (disch:=omega) [ST,S67u,cyB,cyT,wBn,rwS,rgN_getE,rgB_getE,onS_getE,rgN_get,rgB_get,onS_get,rgN_setm,rgB_set,eIn,eBo,hUj,hUj',hjU,hkN,hki,hnk,-callV]
     refine opt_callf (by decide) (ns:=[0,1,2,3,4,5,18,7,8,9,10,11,12,13,14,15,16,17]) (by kernel_rfl) (by kernel_rfl) (by kernel_rfl) q3 ?_
     simp -dsimp -implicitDefEqProofs (maxSteps:=1000000) (disch:=omega) [ST,cyB,cyT,wBn,rwS,rgN_getE,rgB_getE,onS_getE,rgN_get,rgB_get,onS_get,rgN_setm,rgB_set,eIn,eBo,hiN,hkN]
     refine again (lowT i (v.low k) v,row1,j + 1) ⟨by simp only; omega,hnx.symm,q1,q2,hcw1,hw1,l1,k :: P,hlp⟩ (by simp only; omega) ?_
     kernel_rfl
    ·have hmk:markT i k t=t:=by unfold markT; rw [if_neg hki]
     by_cases hks:k∈t.stk
     ·have hst:stepT (visitT (adjW x) f) i k t=lowT i (t.num k) t:=by
       unfold stepT
       rw [hmk,if_neg hnk,if_pos hks]
      rw [hst] at hnx hlp hw1 hcw1
      simp -dsimp -implicitDefEqProofs (maxSteps:=1000000) (disch:=omega) [ST,S67u,cyB,cyT,wBn,rwS,rgN_getE,rgB_getE,onS_getE,rgN_get,rgB_get,onS_get,rgN_setm,rgB_set,eIn,eBo,hUj,hUj',hjU,hkN,hiN,hki,hnk,hks]
      refine again (lowT i (t.num k) t,R0,j + 1) ⟨by simp only; omega,hnx.symm,g3,g4,hcw1,hw1,l1,k :: P,hlp⟩ (by simp only; omega) ?_
      kernel_rfl
     ·have hst:stepT (visitT (adjW x) f) i k t=t:=by
       unfold stepT
       rw [hmk,if_neg hnk,if_neg hks]
      rw [hst] at hnx hlp hw1 hcw1
      simp -dsimp -implicitDefEqProofs (maxSteps:=1000000) (disch:=omega) [ST,S67u,cyB,cyT,wBn,rwS,rgN_getE,rgB_getE,onS_getE,rgN_get,rgB_get,onS_get,rgN_setm,rgB_set,eIn,eBo,hUj,hUj',hjU,hkN,hiN,hki,hnk,hks]
      refine again (t,R0,j + 1) ⟨by simp only; omega,hnx.symm,g3,g4,hcw1,hw1,l1,k :: P,hlp⟩ (by simp only; omega) ?_
      kernel_rfl
  ·obtain rfl:j=A.length:=by omega
   rw [List.take_length] at g2
   have hvt:visitT (adjW x) (f + 1) i s=leaveT i t:=by rw [visitT,hA,← g2]
   rw [hvt] at hP0
   have hjU : ¬ A.length < U.length:=by omega
   by_cases hln:t.low i=t.num i
   ·have hil : ∀ y∈l,y≠i:=by
     intro y hy e
     exact g7.nw y hy |> fun h => by
      have:=hinv; subst e
      have hnd:=(stk_nodup g7.inv)
      rw [g7.st] at hnd
      exact (List.nodup_append.1 hnd).2.2 y hy y (by simp) rfl
    obtain ⟨c1,c2⟩:=take_drop_i l s.stk i hil
    rw [← g7.st] at c1 c2
    have his:i ∉ s.stk:=not_old hinv h0
    have hcm:compT i t=l ++ [i]:=by unfold compT; rw [c1]
    obtain ⟨tP,htP⟩ : ∃ tP,popT i t=tP:=⟨_,rfl⟩
    have hlv:leaveT i t=tP:=by unfold leaveT; rw [if_pos hln,htP]
    have hps:tP.stk=s.stk:=by rw [← htP]; show (t.stk.dropWhile _).tail=_; rw [c2]; rfl
    have hpc:tP.cnt=t.cnt∧tP.low=t.low∧tP.num=t.num:=by rw [← htP]; exact ⟨rfl,rfl,rfl⟩
    have hpr : ∀ z,tP.rnd z=if z∈i :: l.reverse then t.rnd z || decide (1 < (i :: l.reverse).length) else t.rnd z:=by
     intro z
     rw [← htP]
     show (if z∈compT i t then t.rnd z || decide (1 < (compT i t).length) else t.rnd z)=_
     rw [hcm]
     have e1:(l ++ [i]).length=(i :: l.reverse).length:=by simp
     rw [e1]
     have e2:(z∈l ++ [i])↔(z∈i :: l.reverse):=by simp [or_comm]
     by_cases hz:z∈l ++ [i]
     ·rw [if_pos hz,if_pos (e2.1 hz)]
     ·rw [if_neg hz,if_neg fun h => hz (e2.2 h)]
    rw [hlv] at hP0
    obtain ⟨J,hJ⟩:=g3
    have hrow0:R0=rowS s.stk ++ (i:Int) :: (rowS l ++ J):=by rw [hJ,g7.st,rowS_app]; simp
    have hki:t.stk.length=s.stk.length + (l.length + 1):=by rw [g7.st]; simp; omega
    have hil2:(i:Int) ∉ rowS s.stk:=by
     unfold rowS
     intro hm
     obtain ⟨z,hz,e⟩:=List.mem_map.1 hm
     have:z=i:=by omega
     subst this
     exact his (by simpa using hz)
    have hJl:t.stk.length≤R0.length:=by rw [hJ,List.length_append,rowS_len]; omega
    have hix:=run_index (m:=m) (e3:=e3) (e4:=e4) (rowS s.stk) i (rowS l ++ J) t.stk.length R0 hrow0 hil2 (by rw [rowS_len]; omega) hJl (by omega)
    rw [rowS_len] at hix
    simp -dsimp -implicitDefEqProofs (maxSteps:=1000000) (disch:=omega) [ST,S67u,cyB,cyT,wBn,rwS,rgN_getE,rgB_getE,onS_getE,rgN_get,rgB_get,onS_get,eIn,eBo,hjU,hiN,hln,hix,slc_l]
    obtain ⟨cl,hcl⟩ : ∃ cl,i :: l.reverse=cl:=⟨_,rfl⟩
    rw [hcl] at hpr
    have hclen:cl.length=l.length + 1:=by rw [← hcl]; simp
    have hclN : ∀ c∈cl,c < N:=by
     intro c hc
     refine g7.inv.rg c (g7.inv.sv c ?_)
     rw [g7.st]
     rw [← hcl] at hc
     simp at hc
     rcases hc with hc | hc <;> simp [hc]
    obtain ⟨ln,hln2⟩ : ∃ ln,t.stk.length - s.stk.length=ln:=⟨_,rfl⟩
    have hlnl:ln=cl.length:=by omega
    have hR0 : ∀ (q c:Nat),cl[q]? = some c→R0[s.stk.length + q]? = some (c:Int):=by
     intro q c hq
     have hql:q < cl.length:=(List.getElem?_eq_some_iff.1 hq).1
     rw [hrow0,List.getElem?_append_right (by rw [rowS_len]; omega),rowS_len,Nat.add_sub_cancel_left]
     rw [← hcl] at hq
     cases q with
     | zero => simp at hq; simp [hq]
     | succ q =>
      simp only [List.getElem?_cons_succ] at hq ⊢
      rw [List.getElem?_append_left (by rw [rowS_len]; omega),rowS_get,hq]; rfl
    rw [hln2]
    refine wp_inv (S67p x N t R0 s.stk.length ln) (fun a => a.2.2≤cl.length∧a.1=(cl.take a.2.2).foldl (fun f c => updT f c false) (fun j => decide (j∈t.stk))∧a.2.1=(cl.take a.2.2).foldl (fun f c => updT f c (f c || decide (1 < cl.length))) t.rnd) (fun a => cl.length - a.2.2) (fun j => decide (j∈t.stk),t.rnd,0) ⟨by simp,by simp,by simp⟩ (by kernel_rfl) ?_
    rintro ⟨on,rn,q⟩ ⟨w1,w2,w3⟩
    simp only at w1 w2 w3
    by_cases hq:q < cl.length
    ·obtain ⟨c,hc⟩ : ∃ c,cl[q]? = some c:=⟨_,List.getElem?_eq_getElem hq⟩
     have hcN:=hclN c (List.mem_of_getElem? hc)
     have hRq:=hR0 q c hc
     have hRq' : ∀ h:s.stk.length + q < R0.length,R0[s.stk.length + q]=(c:Int):=fun h => (List.getElem?_eq_some_iff.1 hRq).2
     have hqn:q < ln:=by omega
     have n2:(cl.take (q + 1)).foldl (fun f c => updT f c false) (fun j => decide (j∈t.stk))=updT on c false:=by rw [List.take_add_one,hc,List.foldl_append,← w2]; rfl
     have n3:(cl.take (q + 1)).foldl (fun f c => updT f c (f c || decide (1 < cl.length))) t.rnd=updT rn c (rn c || decide (1 < cl.length)):=by rw [List.take_add_one,hc,List.foldl_append,← w3]; rfl
     by_cases hb:rn c=true
     ·rw [hb,Bool.true_or] at n3
      simp -dsimp -implicitDefEqProofs (maxSteps:=1000000) (disch:=omega) [ST,S67p,cyB,wBn,rwS,rgB_getE,rgB_get,rgB_set,eIn,eBo,hqn,hRq,hRq',hcN,hb]
      refine again (updT on c false,updT rn c true,q + 1) ⟨by simp only; omega,n2.symm,n3.symm⟩ (by simp only; omega) ?_
      kernel_rfl
     ·rw [Bool.eq_false_iff.2 hb,Bool.false_or] at n3
      have hbl:decide ((1:Int) < (t.stk.length:Int) - (s.stk.length:Int))=decide (1 < cl.length):=by
       apply decide_eq_decide.2
       omega
      simp -dsimp -implicitDefEqProofs (maxSteps:=1000000) (disch:=omega) [ST,S67p,cyB,wBn,rwS,rgB_getE,rgB_get,rgB_set,eIn,eBo,hqn,hRq,hRq',hcN,hb,hbl]
      refine again (updT on c false,updT rn c (decide (1 < cl.length)),q + 1) ⟨by simp only; omega,n2.symm,n3.symm⟩ (by simp only; omega) ?_
      kernel_rfl
    ·obtain rfl:q=cl.length:=by omega
     rw [List.take_length] at w2 w3
     have f1:rgB N on=onS N tP.stk:=by
      rw [hps,w2]
      unfold onS rgB
      refine List.map_congr_left fun z _ => ?_
      rw [fold_false]
      have hnd:=stk_nodup g7.inv
      rw [g7.st,List.nodup_append] at hnd
      have e3:z∈t.stk↔z∈l∨z=i∨z∈s.stk:=by rw [g7.st]; simp
      by_cases hz:z∈cl
      ·rw [if_pos hz]
       have : ¬ z∈s.stk:=by
        rw [← hcl] at hz
        simp at hz
        rcases hz with rfl | hz
        ·exact his
        ·intro h; exact hnd.2.2 z hz z (by simp [h]) rfl
       simp [this]
      ·rw [if_neg hz]
       rw [← hcl] at hz
       simp at hz
       simp [e3,hz]
     have f2:rgB N rn=rgB N tP.rnd:=by
      unfold rgB
      refine List.map_congr_left fun z _ => ?_
      rw [w3,fold_or,hpr]
     have hjn : ¬ cl.length < ln:=by omega
     have hP:=hP0 R0 ⟨(i:Int) :: (rowS l ++ J),by rw [hps]; exact hrow0⟩ g4
     have hcy:cyT N tP R0=⟨N,t.cnt,rgN N t.low,rgN N t.num,s.stk.length,R0,rgB N on,rgB N rn⟩:=by
      unfold cyT
      rw [← f1,← f2,hps,hpc.1,hpc.2.1,hpc.2.2]
     rw [hcy] at hP
     simp -dsimp -implicitDefEqProofs (maxSteps:=1000000) (disch:=omega) [ST,S67p,cyB,wBn,rwS,hjn,slc_h,hki,-fin0]
     refine ⟨_,_,hP,?_⟩
     show _=_
     kernel_rfl
   ·have hlv:leaveT i t=t:=by unfold leaveT; rw [if_neg hln]
    rw [hlv] at hP0
    simp -dsimp -implicitDefEqProofs (maxSteps:=1000000) (disch:=omega) [ST,S67u,cyB,cyT,wBn,rwS,rgN_getE,rgB_getE,onS_getE,rgN_get,rgB_get,onS_get,eIn,eBo,hjU,hiN,hln,-fin0]
    refine ⟨_,_,hP0 R0 g3 g4,?_⟩
    show _=_
    kernel_rfl
end Go.Vai
namespace Go.Vai
variable {m:Int} {e3 e4:Value}
theorem run_visit (x:WS) (N:Nat) (hx:WOk x) (hN:x.cells.length=N) : ∀ f,IH67 m e3 e4 x N f
 | 0 => by
  intro i s row G hinv h0 hiN hg hwh hcw hrow hrl
  have:=wh_enter (N:=N) h0 hiN
  omega
 | f + 1 => visit_step x N f hx hN (run_visit x N hx hN f)
def ciB (x:WS) (N:Nat) (t:TS) (row:List Int):List (Option Blk):=wBn 0 x N (rgB N t.rnd) ++ [some (.box [.osl 8 1 0 N]),some (.arr 1 ((rgN N t.num).map eIn)),some (.box [.fn 67 [.bp 10 0,.bp 11 0,.bp 7 0,.bp 13 0,.bp 15 0,.bp 17 0,.bp 9 0]]),some (.box [i64 t.cnt]),some (.box [.osl 12 1 0 N]),some (.arr 1 ((rgN N t.low).map eIn)),some (.box [.osl 14 1 0 t.stk.length]),some (.arr 1 (row.map eIn)),some (.box [.osl 16 1 0 N]),some (.arr 1 ((onS N t.stk).map eBo)),some (.box [.bp 0 0])]
def S31 (x:WS) (N:Nat) (a:TS × List Int × Nat):St:={ sl:=[(3,.bp 7 0),(7,.bp 9 0),(32,i64 N),(33,i64 a.2.2)],hp:=numd 0 (ciB x N a.1 a.2.1),nx:=18 }
theorem rgN_rep (N:Nat):rgN N (fun _ => 0)=List.replicate N 0:=by
 refine List.ext_getElem? fun i => ?_
 by_cases h:i < N
 ·rw [rgN_getE _ _ _ h]; simp [h]
 ·rw [List.getElem?_eq_none (by rw [rgN_len]; omega),List.getElem?_eq_none (by simp; omega)]
theorem rgB_rep (N:Nat):rgB N (fun _ => false)=List.replicate N false:=by
 refine List.ext_getElem? fun i => ?_
 by_cases h:i < N
 ·rw [rgB_getE _ _ _ h]; simp [h]
 ·rw [List.getElem?_eq_none (by rw [rgB_len]; omega),List.getElem?_eq_none (by simp; omega)]
def circT (x:WS):TS:=allT (adjW x) x.cells.length s0T (List.range x.cells.length)
theorem s0_inv (adj:Nat→List Nat) (N:Nat):InvT adj N s0T []:=⟨fun x => Nat.zero_le _,fun x hx => absurd rfl hx,List.Pairwise.nil,(fun x hx => by cases hx),(fun x hx => by cases hx),fun x hx => absurd rfl hx,fun x hx => absurd rfl hx,(fun x hx => by cases hx),(fun x hx => by cases hx),fun _ _ => rfl,fun x hx => absurd rfl hx,(fun x hx => by cases hx),fun x hx => by cases hx⟩
set_option maxHeartbeats 8000000 in
theorem run_circles (x:WS) (hx:WOk x) (hr:x.rd=List.replicate x.cells.length false):(W m e3 e4).run 31 [.bp 0 0] (wBb 0 x)=some (.tup [],wBb 0 (setR x (rgB x.cells.length (circT x).rnd))):=by
 have hw:wBb 0 (setR x (rgB x.cells.length (circT x).rnd))=wBn 0 x x.cells.length (rgB x.cells.length (circT x).rnd):=by
  unfold wBb wBn setR
  simp only [rgB_len]
 have hw0:wBb 0 x=wBn 0 x x.cells.length (rgB x.cells.length s0T.rnd):=by
  unfold wBb wBn
  rw [hr]
  simp only [List.length_replicate]
  rw [← rgB_rep]; rfl
 rw [hw,hw0]
 unfold circT
 generalize hN:x.cells.length=N
 have hN5:N≤100000:=by rw [← hN]; exact hx.l
 have hadj : ∀ x1,x1 < N→∀ y∈adjW x x1,y < N:=fun x1 _ y hy => by rw [← hN]; exact adj_lt x hy
 have hfm:x.fm.length=N:=by rw [hx.f,hN]
 obtain ⟨R,hR⟩ : ∃ R,wBn 0 x N (rgB N (allT (adjW x) N s0T (List.range N)).rnd)=R:=⟨_,rfl⟩
 rw [hR]
 have hz:(List.replicate N [FV.sc (.int .i64 0)])=(rgN N s0T.num).map eIn:=by
  rw [show s0T.num=fun _ => 0 from rfl,rgN_rep,List.map_replicate]; rfl
 have hzl:(rgN N s0T.num).map eIn=(rgN N s0T.low).map eIn:=rfl
 have hf:(List.replicate N [FV.sc (.bool false)])=(onS N s0T.stk).map eBo:=by
  have:onS N s0T.stk=rgB N fun _ => false:=by
   unfold onS rgB
   refine List.map_congr_left fun z _ => ?_
   simp [s0T]
  rw [this,rgB_rep,List.map_replicate]; rfl
 refine run_wp (by rw [W_T]; exact rfl) ?_
 simp -dsimp -implicitDefEqProofs (maxSteps:=1000000) (disch:=omega) [ST,wBn,rwS,hN,hz,hf]
 refine wp_inv (S31 x N) (fun a => a.2.2≤N∧a.1=allT (adjW x) N s0T (List.range a.2.2)∧RowOk a.1.stk a.2.1∧a.2.1.length≤1000000∧cwT N a.1) (fun a => N - a.2.2) (s0T,[],0) ⟨by simp,by simp [allT],⟨[],by simp [s0T,rowS]⟩,by simp,?_⟩ ?_ ?_
 ·unfold cwT whT
  have:=List.length_filter_le (fun x => decide (s0T.num x=0)) (List.range N)
  rw [List.length_range] at this
  show 0 + (List.filter (fun x => decide (s0T.num x=0)) (List.range N)).length≤N
  omega
 ·kernel_rfl
 ·rintro ⟨t,row,i⟩ ⟨g1,g2,g3,g4,g5⟩
  simp only at g1 g2 g3 g4 g5
  have hinv:InvT (adjW x) N t []:=by
   rw [g2]
   exact (all_inv hadj (List.range i) s0T (fun z hz => by have:=List.mem_range.1 hz; omega) (s0_inv _ _)).1
  have htl:=stk_len hinv
  have htc:t.cnt≤N:=by unfold cwT at g5; omega
  by_cases h:i < N
  ·have hnx:allT (adjW x) N s0T (List.range (i + 1))=if t.num i=0 then visitT (adjW x) N i t else t:=by
    unfold allT at g2 ⊢
    rw [List.range_succ,List.foldl_append,← g2]
    rfl
   by_cases hni:t.num i=0
   ·rw [if_pos hni] at hnx
    have hwl:whT N t≤N:=by
     unfold whT
     have:=List.length_filter_le (fun x => decide (t.num x=0)) (List.range N)
     rw [List.length_range] at this
     exact this
    obtain ⟨row1,⟨q1,q2⟩,q3⟩:=run_visit (m:=m) (e3:=e3) (e4:=e4) x N hx hN N i t row [] hinv hni h (fun g hg => by cases hg) hwl g5 g3 g4
    have hcw:=cw_visit hadj N i t h hni g5
    generalize visitT (adjW x) N i t=v at *
    simp -dsimp -implicitDefEqProofs (maxSteps:=1000000) (disch:=omega) [ST,S31,ciB,wBn,rwS,rgN_getE,rgN_get,eIn,eBo,h,hni,-callV]
    refine opt_callf (by decide) (ns:=[10,11,12,7,8,13,14,15,16,17,0,1,2,3,4,5,6,9]) (by kernel_rfl) (by kernel_rfl) (by kernel_rfl) q3 ?_
    simp -dsimp -implicitDefEqProofs (maxSteps:=1000000) (disch:=omega) [ST,cyB,cyT,wBn,rwS]
    refine again (v,row1,i + 1) ⟨by simp only; omega,hnx.symm,q1,q2,hcw⟩ (by simp only; omega) ?_
    kernel_rfl
   ·rw [if_neg hni] at hnx
    simp -dsimp -implicitDefEqProofs (maxSteps:=1000000) (disch:=omega) [ST,S31,ciB,wBn,rwS,rgN_getE,rgN_get,eIn,eBo,h,hni]
    refine again (t,row,i + 1) ⟨by simp only; omega,hnx.symm,g3,g4,g5⟩ (by simp only; omega) ?_
    kernel_rfl
  ·obtain rfl:i=N:=by omega
   rw [← g2] at hR
   subst hR
   simp -dsimp -implicitDefEqProofs (maxSteps:=1000000) (disch:=omega) [ST,S31,ciB,wBn,rwS,h,-fin0]
   show _=_
   kernel_rfl
end Go.Vai
