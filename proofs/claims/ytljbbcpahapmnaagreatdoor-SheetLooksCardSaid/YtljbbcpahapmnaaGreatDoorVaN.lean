/-
  A part of the abstract run of Go functions and of the proof that it tells the truth.
-/
import Derived.Test.YtljbbcpahapmnaaGreatDoorVaM
set_option linter.unusedVariables false
set_option linter.unusedSimpArgs false
namespace Go.Vai
variable {G:Nat→Option (List FV)} {rf:RF}
theorem tmps_av {sl sl':List (Nat × AV)} : ∀ {xs:List LX},(∀ t∈LX.tmps xs,lk sl t=lk sl' t)→∀ x∈xs,LX.av G sl x=LX.av G sl' x
 | [],h,x,hx => by cases hx
 | y :: r, h, x, hx => by
  rcases List.mem_cons.1 hx with rfl | hx
  ·cases x with
   | tm n => simp only [LX.av]; exact h n (by simp [LX.tmps])
   | _ => rfl
  ·refine tmps_av (xs:=r) (fun t ht => h t ?_) x hx
   cases y <;> simp [LX.tmps,ht]
def rdS (G:Nat→Option (List FV)) (o:LOper) (nm:Nat) (st:St):List Nat:=if (o.op.isHeap && !o.op.mkOnly)=true then touch (LX.av G st.sl) nm st o.op else []
def wrS (G:Nat→Option (List FV)) (o:LOper) (nm:Nat) (st:St) (n:Nat):List Nat:=if (o.op.isHeap && !o.op.ro)=true then touch (LX.av G st.sl) nm st o.op ++ List.range' st.nx n else []
theorem uses_xs {o:LOper} {t:Nat} (h:t∈LX.tmps o.op.xs):t∈o.uses:=by
 unfold LOper.uses
 split
 ·simp [h]
 ·exact h
theorem coreOp_eq {o:LOper} {nm:Nat} {st:St} {p:AV × HW × Nat} (e:coreOp G rf o nm st=some p) :
 (o.gd=none∨∃ g want b,o.gd=some (g,want)∧lk st.sl g=.fz (.sc (.bool b))∧b=want)∧((o.op.isHeap=true∧heapOp rf (LX.av G st.sl) nm st o.op=some p)∨(o.op.isHeap=false∧∃ v,pureOp (LX.av G st.sl) o.op=some v∧p=(v,[],0))) ∨
   ∃ g want,o.gd=some (g,want)∧((∃ b,lk st.sl g=.fz (.sc (.bool b))∧b≠want)∨lk st.sl g=.tup [])∧p=(.tup [],[],0):=by
 have run:(if o.op.isHeap then heapOp rf (LX.av G st.sl) nm st o.op
  else match pureOp (LX.av G st.sl) o.op with
   | some v => some (v,[],0)
   | none => none)=some p→((o.op.isHeap=true∧heapOp rf (LX.av G st.sl) nm st o.op=some p)∨(o.op.isHeap=false∧∃ v,pureOp (LX.av G st.sl) o.op=some v∧p=(v,[],0))):=by
  intro e
  by_cases hh:o.op.isHeap=true
  ·rw [if_pos hh] at e; exact .inl ⟨hh,e⟩
  ·rw [if_neg hh] at e
   split at e
   ·rename_i v hv; injection e with e; exact .inr ⟨by simpa using hh,v,hv,e.symm⟩
   ·cases e
 simp only [coreOp] at e
 split at e
 ·rename_i hg; exact .inl ⟨.inl hg,run e⟩
 ·rename_i g want hg
  split at e
  ·rename_i b hb
   split at e
   ·rename_i hbw; exact .inl ⟨.inr ⟨g,want,b,hg,hb,hbw⟩,run e⟩
   ·rename_i hbw; injection e with e; exact .inr ⟨g,want,hg,.inl ⟨b,hb,hbw⟩,e.symm⟩
  ·rename_i hb; injection e with e; exact .inr ⟨g,want,hg,.inr hb,e.symm⟩
  ·cases e
theorem coreOp_keys {o:LOper} {nm:Nat} {st:St} {p:AV × HW × Nat} (e:coreOp G rf o nm st=some p):(∀ q∈p.2.1,q.1∈wrS G o nm st p.2.2)∧(o.op.isCall=false→p.2.2=0):=by
 rcases coreOp_eq e with ⟨_,⟨hh,e⟩ | ⟨hh,v,_,rfl⟩⟩ | ⟨_,_,_,_,rfl⟩
 ·obtain ⟨v,ws,nn⟩:=p
  obtain ⟨h1,h2,h3⟩:=heapOp_keys e
  refine ⟨fun q hq => ?_,h3⟩
  unfold wrS
  by_cases hr:o.op.ro=true
  ·have hq':q∈ws:=hq
   rw [h2 hr] at hq'; cases hq'
  ·rw [if_pos (by simp [hh,hr])]
   exact h1 q hq
 ·exact ⟨by simp,fun _ => rfl⟩
 ·exact ⟨by simp,fun _ => rfl⟩
theorem coreOp_loc {o:LOper} {nm:Nat} {st st':St} {p:AV × HW × Nat} (e:coreOp G rf o nm st=some p) (hu : ∀ t∈o.uses,lk st.sl t=lk st'.sl t) (ha:Ag (rdS G o nm st) st.hp st'.hp) (hn:o.op.isCall=true→st.nx=st'.nx) :
 coreOp G rf o nm st'=some p∧rdS G o nm st'=rdS G o nm st∧wrS G o nm st' p.2.2=wrS G o nm st p.2.2:=by
 have hav : ∀ x∈o.op.xs,LX.av G st.sl x=LX.av G st'.sl x:=tmps_av fun t ht => hu t (uses_xs ht)
 have hag:o.op.isHeap=true→o.op.mkOnly=false→Ag (touch (LX.av G st.sl) nm st o.op) st.hp st'.hp:=by
  intro h1 h2
  unfold rdS at ha
  rwa [if_pos (by simp [h1,h2])] at ha
 have ht:o.op.isHeap=true→touch (LX.av G st'.sl) nm st' o.op=touch (LX.av G st.sl) nm st o.op:=fun h1 => by
  rw [touch_ag (hag h1),touch_av hav]
 have hr:rdS G o nm st'=rdS G o nm st:=by
  unfold rdS
  split
  ·rename_i h
   simp only [Bool.and_eq_true] at h
   exact ht h.1
  ·rfl
 have hw:(o.op.isCall=false→p.2.2=0)→wrS G o nm st' p.2.2=wrS G o nm st p.2.2:=by
  intro h0
  unfold wrS
  split
  ·rename_i h
   simp only [Bool.and_eq_true] at h
   rw [ht h.1]
   congr 1
   cases hc:o.op.isCall with
   | true => rw [hn hc]
   | false => rw [h0 hc]; rfl
  ·rfl
 refine ⟨?_,hr,hw (coreOp_keys e).2⟩
 have hgd : ∀ g want,o.gd=some (g,want)→lk st'.sl g=lk st.sl g:=fun g want hg => (hu g (by simp [LOper.uses,hg])).symm
 have hh:o.op.isHeap=true→heapOp rf (LX.av G st'.sl) nm st' o.op=heapOp rf (LX.av G st.sl) nm st o.op:=fun h1 => by
  rw [← heapOp_av hav,heapOp_ag (hag h1) hn]
 have hpu:pureOp (LX.av G st'.sl) o.op=pureOp (LX.av G st.sl) o.op:=(pureOp_av hav).symm
 rw [← e]
 unfold coreOp
 cases hg:o.gd with
 | none =>
  simp only [hpu]
  split
  ·rename_i h1; exact hh h1
  ·rfl
 | some q =>
  obtain ⟨g,want⟩:=q
  simp only [hgd g want hg,hpu]
  by_cases h1:o.op.isHeap=true
  ·simp only [h1,if_true,hh h1]
  ·simp only [h1,if_false,Bool.false_eq_true]
def Eqv (s s':St):Prop:=(∀ t,lk s.sl t=lk s'.sl t)∧(∀ b,hk s.hp b=hk s'.hp b)∧s.nx=s'.nx
theorem Eqv.refl (s:St):Eqv s s:=⟨fun _ => rfl,fun _ => rfl,rfl⟩
theorem Eqv.trans {a b c:St} (h:Eqv a b) (k:Eqv b c):Eqv a c:=⟨fun t => (h.1 t).trans (k.1 t),fun t => (h.2.1 t).trans (k.2.1 t),h.2.2.trans k.2.2⟩
theorem Eqv.symm {a b:St} (h:Eqv a b):Eqv b a:=⟨fun t => (h.1 t).symm,fun t => (h.2.1 t).symm,h.2.2.symm⟩
theorem Eqv.put {a b:St} (h:Eqv a b) (d:Option Nat) (p:AV × HW × Nat):Eqv (a.put d p) (b.put d p):=by
 refine ⟨fun t => ?_,fun c => ?_,by show a.nx + p.2.2=b.nx + p.2.2; rw [h.2.2]⟩
 ·show lk (putD d p.1 a.sl) t=lk (putD d p.1 b.sl) t
  rw [lk_putD,lk_putD,h.1 t]
 ·show hk (p.2.1 ++ a.hp) c=hk (p.2.1 ++ b.hp) c
  rw [hk_appm,hk_appm,h.2.1 c]
theorem coreOp_eqv {o:LOper} {nm:Nat} {s s':St} {p:AV × HW × Nat} (h:Eqv s s') (e:coreOp G rf o nm s=some p):coreOp G rf o nm s'=some p∧rdS G o nm s'=rdS G o nm s∧wrS G o nm s' p.2.2=wrS G o nm s p.2.2 :=
 coreOp_loc e (fun t _ => h.1 t) (fun b _ => h.2.1 b) fun _ => h.2.2
theorem Rel.eqv {C:Ctx} {σ:Nat→Option Loc} {s s':St} {a:Act} {w:World} (h:Eqv s s') (R:Rel C σ s a w):Rel C σ s' a w:=by
 have e:hk s'.hp=hk s.hp:=funext fun b => (h.2.1 b).symm
 exact ⟨fun t => by rw [e,← h.1 t]; exact R.sl t,by rw [e]; exact R.bk,by rw [e]; exact R.inj,by rw [e]; exact R.ow,R.fr,by rw [e]; exact R.gl,R.xl,(by rw [e]; exact R.df),R.tz⟩
structure Ind (x y:LOper) (rx wx ry wy:List Nat):Prop where
 d1 : ∀ d,x.dst=some d→d ∉ y.uses
 d2 : ∀ d,x.dst=some d→y.dst≠some d
 d3 : ∀ d,y.dst=some d→d ∉ x.uses
 nc : ¬ (x.op.isCall=true∧y.op.isCall=true)
 m1 : ∀ b∈wx,b ∉ ry
 m2 : ∀ b∈wx,b ∉ wy
 m3 : ∀ b∈wy,b ∉ rx
theorem hk_not_key {w1 hp:HW} {b:Nat} (h : ∀ q∈w1,q.1≠b):hk (w1 ++ hp) b=hk hp b:=by
 rw [hk_appm,if_neg]
 intro hb
 obtain ⟨q,hq,e⟩:=List.mem_map.1 hb
 exact h q hq e
theorem swap {x y:LOper} {nx ny:Nat} {st:St} {px py:AV × HW × Nat} (hx:coreOp G rf x nx st=some px) (hy:coreOp G rf y ny (st.put x.dst px)=some py)
 (I:Ind x y (rdS G x nx st) (wrS G x nx st px.2.2) (rdS G y ny (st.put x.dst px)) (wrS G y ny (st.put x.dst px) py.2.2)) :
 (coreOp G rf y ny st=some py∧rdS G y ny st=rdS G y ny (st.put x.dst px)∧wrS G y ny st py.2.2=wrS G y ny (st.put x.dst px) py.2.2) ∧
 (coreOp G rf x nx (st.put y.dst py)=some px∧rdS G x nx (st.put y.dst py)=rdS G x nx st∧wrS G x nx (st.put y.dst py) px.2.2=wrS G x nx st px.2.2) ∧
 Eqv ((st.put x.dst px).put y.dst py) ((st.put y.dst py).put x.dst px):=by
 obtain ⟨kx,cx⟩:=coreOp_keys hx
 obtain ⟨ky,cy⟩:=coreOp_keys hy
 refine ⟨coreOp_loc hy (fun t ht => ?_) (fun b hb => ?_) (fun hc => ?_),coreOp_loc hx (fun t ht => ?_) (fun b hb => ?_) (fun hc => ?_),fun t => ?_,fun b => ?_,?_⟩
 ·show lk (putD x.dst px.1 st.sl) t=_
  rw [lk_putD,if_neg fun e => I.d1 t e ht]
 ·exact hk_not_key fun q hq e => I.m1 _ (kx q hq) (e ▸ hb)
 ·have:x.op.isCall=false:=by
   cases h:x.op.isCall with
   | false => rfl
   | true => exact absurd ⟨h,hc⟩ I.nc
  show st.nx + px.2.2=st.nx
  rw [cx this]; rfl
 ·show _=lk (putD y.dst py.1 st.sl) t
  rw [lk_putD,if_neg fun e => I.d3 t e ht]
 ·exact (hk_not_key fun q hq e => I.m3 _ (ky q hq) (e ▸ hb)).symm
 ·have:y.op.isCall=false:=by
   cases h:y.op.isCall with
   | false => rfl
   | true => exact absurd ⟨hc,h⟩ I.nc
  show st.nx=st.nx + py.2.2
  rw [cy this]; rfl
 ·show lk (putD y.dst py.1 (putD x.dst px.1 st.sl)) t=lk (putD x.dst px.1 (putD y.dst py.1 st.sl)) t
  simp only [lk_putD]
  by_cases h1:x.dst=some t
  ·rw [if_neg (I.d2 t h1),if_pos h1,if_pos h1]
  ·rw [if_neg h1,if_neg h1]
 ·show hk (py.2.1 ++ (px.2.1 ++ st.hp)) b=hk (px.2.1 ++ (py.2.1 ++ st.hp)) b
  simp only [hk_appm]
  by_cases h1:b∈px.2.1.map (·.1)
  ·obtain ⟨q,hq,rfl⟩:=List.mem_map.1 h1
   rw [if_neg,if_pos h1,if_pos h1]
   intro h2
   obtain ⟨q2,hq2,e⟩:=List.mem_map.1 h2
   exact I.m2 _ (kx q hq) (e ▸ ky q2 hq2)
  ·rw [if_neg h1,if_neg h1]
 ·show st.nx + px.2.2 + py.2.2=st.nx + py.2.2 + px.2.2
  omega
inductive Run (G:Nat→Option (List FV)) (rf:RF) (L:List LOper) (base:Nat) (rd wr:Nat→List Nat):List Nat→St→St→Prop
 | nil {s F:St}:Eqv s F→Run G rf L base rd wr [] s F
 | cons {i:Nat} {R:List Nat} {s F:St} {lo:LOper} {p:AV × HW × Nat}:L[i]? = some lo→coreOp G rf lo (base + i) s=some p→rdS G lo (base + i) s=rd i→wrS G lo (base + i) s p.2.2=wr i→Run G rf L base rd wr R (s.put lo.dst p) F→Run G rf L base rd wr (i :: R) s F
variable {L:List LOper} {base:Nat} {rd wr:Nat→List Nat}
theorem Run.eqv {R:List Nat} {s F:St} (h:Run G rf L base rd wr R s F) : ∀ {s':St},Eqv s s'→Run G rf L base rd wr R s' F:=by
 induction h with
 | nil h => exact fun h' => .nil (h'.symm.trans h)
 | cons hl hc hr hw _ ih =>
  intro s' h'
  obtain ⟨g1,g2,g3⟩:=coreOp_eqv h' hc
  exact .cons hl g1 (g2.trans hr) (g3.trans hw) (ih (h'.put _ _))
theorem Run.front {i:Nat} {post:List Nat} : ∀ {pre:List Nat} {s F:St},Run G rf L base rd wr (pre ++ i :: post) s F→(∀ j∈pre,∀ x y,L[j]? = some x→L[i]? = some y→Ind x y (rd j) (wr j) (rd i) (wr i))→Run G rf L base rd wr (i :: (pre ++ post)) s F
 | [],s,F,h,_ => h
 | j :: pre, s, F, h, hI => by
  cases h with
  | cons hl hc hr hw h =>
   have h2:=Run.front h fun j hj => hI j (by simp [hj])
   cases h2 with
   | cons hl2 hc2 hr2 hw2 h2 =>
    have I:=hI j (by simp) _ _ hl hl2
    obtain ⟨⟨g1,g2,g3⟩,⟨g4,g5,g6⟩,g7⟩:=swap hc hc2 (by rw [hr,hw,hr2,hw2]; exact I)
    exact .cons hl2 g1 (g2.trans hr2) (g3.trans hw2) (.cons hl g4 (g5.trans hr) (g6.trans hw) (h2.eqv g7))
end Go.Vai
