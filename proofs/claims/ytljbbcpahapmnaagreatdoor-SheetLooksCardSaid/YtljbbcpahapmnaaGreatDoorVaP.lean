/-
  A part of the abstract run of Go functions and of the proof that it tells the truth.
-/
import Derived.Test.YtljbbcpahapmnaaGreatDoorVaPc
set_option linter.unusedVariables false
set_option linter.unusedSimpArgs false
namespace Go.Vai
def Ex.out:Ex→Exit
 | .nor => .normal
 | .exit id => .exit id
 | .ret => .ret
def loopIn (F:Fence) (fu:Nat) (P:Program) (c:Code) (Q:Exit→Act→World→Prop) (a:Act) (w:World):Prop :=
 ∀ (b:Frame) (k:List Item) (cs:List Frame),b.roundOf=F.round→F.fn b.fn→F.room (cs.length + 1 + fu)→∃ e a' w',Q e a' w'∧ArrivesIn (Machine.fenced P F) P (lone (b.atR a (.code c :: .inLoop c :: k)) cs w) b k cs e a' w'
theorem loopIn.wp {F:Fence} {fu:Nat} {P:Program} {c:Code} {Q:Exit→Act→World→Prop} {a:Act} {w:World} (h:loopIn F fu P c Q a w):(Code.loop c).wpIn F fu P Q a w :=
 fun b k cs hro hb hr => let ⟨e,a',w',q,r⟩:=h b k cs hro hb hr; ⟨e,a',w',q,.of_steps (.one (fenced_calm hb hr rfl) stepR_loop) r⟩
theorem loopIn.round {F:Fence} {fu:Nat} {P:Program} {c:Code} {Q:Exit→Act→World→Prop} {a:Act} {w:World} (h:c.wpIn F fu P (Exit.then (loopIn F fu P c Q) Q) a w):loopIn F fu P c Q a w:=by
 intro b k cs hro hb hr
 obtain ⟨e,a₁,w₁,hq,harr⟩:=h b (.inLoop c :: k) cs hro hb hr
 cases e with
 | normal =>
  obtain ⟨e₂,a₂,w₂,hq₂,harr₂⟩:=hq b k cs hro hb hr
  exact ⟨e₂,a₂,w₂,hq₂,.of_steps (StepsIn.trans harr (.one (fenced_calm hb hr rfl) stepR_inLoop)) harr₂⟩
 | exit id => exact ⟨_,a₁,w₁,hq,.pass (x:=.inLoop c) rfl (fun _ _ => .inl (by simp)) harr⟩
 | goto l => exact ⟨_,a₁,w₁,hq,.pass (x:=.inLoop c) rfl (fun _ _ => .inl (by simp)) harr⟩
 | ret => exact ⟨_,a₁,w₁,hq,.pass (x:=.inLoop c) rfl (fun _ _ => .inl (by simp)) harr⟩
 | panic ch => exact ⟨_,a₁,w₁,hq,.pass (x:=.inLoop c) rfl (fun _ _ => .inl (by simp)) harr⟩
 | outgrown => exact ⟨_,a₁,w₁,hq,.pass (x:=.inLoop c) rfl (fun _ _ => .inl (by simp)) harr⟩
theorem upTo_get : ∀ (m b:Nat),b < m→(upTo m)[b]? = some b
 | 0,b,h => by omega
 | m + 1, b, h => by
  simp only [upTo]
  have hl:(upTo m).length=m:=by
   clear h
   induction m with
   | zero => rfl
   | succ m ih => simp [upTo,ih]
  by_cases hb:b < m
  ·rw [List.getElem?_append_left (by omega)]; exact upTo_get m b hb
  ·have:b=m:=by omega
   subst this
   rw [List.getElem?_append_right (by omega),hl]; simp
theorem upTo_length : ∀ m:Nat,(upTo m).length=m
 | 0 => rfl
 | m + 1 => by simp [upTo,upTo_length m]
theorem upTo_mem : ∀ (m b:Nat),b∈upTo m→b < m
 | 0,b,h => by cases h
 | m + 1,b,h => by
  simp only [upTo,List.mem_append,List.mem_cons,List.not_mem_nil,or_false] at h
  rcases h with h | h
  ·have:=upTo_mem m b h; omega
  ·omega
theorem upTo_nodup : ∀ m:Nat,(upTo m).Nodup
 | 0 => by simp [upTo]
 | m + 1 => by
  simp only [upTo]
  refine List.nodup_append.2 ⟨upTo_nodup m,by simp,fun x hx y hy => ?_⟩
  have:=upTo_mem m x hx
  simp at hy
  omega
theorem lk_live (f:Nat→AV) : ∀ (live:List Nat) (t:Nat),lk (live.map fun t => (t,f t)) t=if t∈live then f t else .dead
 | [],t => rfl
 | c :: r, t => by
  simp only [List.map_cons,lk]
  by_cases h:c=t
  ·subst h; simp
  ·rw [if_neg h,lk_live f r t]
   simp only [List.mem_cons]
   by_cases h2:t∈r
   ·rw [if_pos h2,if_pos (.inr h2)]
   ·rw [if_neg h2,if_neg (by rintro (h' | h'); exact h h'.symm; exact h2 h')]
section
variable {P:Program} {C:Ctx} {σ:Nat→Option Loc} {a:Act} {w:World} {m:Nat}
theorem norm_sound {st:St} (live:List Nat) (R:Rel C σ st a w) : ∃ σ',Rel C σ' (norm m live st) a w∧(∀ b,b < m→σ' b=σ b)∧Fresh σ' (norm m live st).nx∧m≤(norm m live st).nx:=by
 unfold norm
 simp only
 generalize hns:clos st.hp 1000 (argNames m st.hp ++ AV.namesL (live.map (lk st.sl))) (upTo m)=ns
 have hnd:ns.Nodup:=hns ▸ clos_nodup _ _ _ _ (upTo_nodup m)
 obtain ⟨q,hq⟩:=clos_pre st.hp 1000 (argNames m st.hp ++ AV.namesL (live.map (lk st.sl))) (upTo m)
 rw [hns] at hq
 obtain ⟨hR,hl⟩:=R.heap.norm hnd
 have hget : ∀ b,b < m→ns[b]? = some b:=fun b hb => by
  rw [hq,List.getElem?_append_left (by rw [upTo_length]; exact hb)]
  exact upTo_get m b hb
 refine ⟨σr σ ns,HRel.rel (st:=⟨live.map fun t => (t,(lk st.sl t).ren (idx ns)),numd 0 (blks st.hp (idx ns) ns),ns.length⟩) hR (fun t => ?_) (R.df.mono hl) R.tz,fun b hb => σr_get (hget b hb),⟨fun b hb => ?_⟩,?_⟩
 ·show VR (σr σ ns) _ (lk (live.map fun t => (t,(lk st.sl t).ren (idx ns))) t) _
  rw [lk_live (fun t => (lk st.sl t).ren (idx ns))]
  split
  ·exact ((R.sl t).mono (SLe.refl _) hl).ren fun b j h => σr_idx h
  ·exact .dead _
 ·have hb':ns.length≤b:=hb
  simp [σr,List.getElem?_eq_none hb']
 ·show m≤ns.length
  rw [hq,List.length_append,upTo_length]; omega
theorem stepOps_nx {G:Nat→Option (List FV)} {rf:RF} : ∀ {l:List LOper} {nm:Nat} {st st':St},stepOps G rf l nm st=some st'→st.nx≤st'.nx
 | [],nm,st,st',e => by simp only [stepOps] at e; injection e with e; subst e; exact Nat.le_refl _
 | o :: r, nm, st, st', e => by
  simp only [stepOps,stepOp] at e
  cases hc:coreOp G rf o nm st with
  | none => rw [hc] at e; cases e
  | some p =>
   rw [hc] at e
   simp only at e
   have:=stepOps_nx e
   have h2:(st.put o.dst p).nx=st.nx + p.2.2:=rfl
   omega
theorem drawOps_nx {G:Nat→Option (List FV)} {rf:RF} {prs:List (Nat × Nat)} : ∀ {l:List LOper} {i nm:Nat} {st st':St} {fs:List (Nat × List Nat)},drawOps G rf prs l i nm st=some (st',fs)→st.nx≤st'.nx
 | [],i,nm,st,st',fs,e => by simp only [drawOps] at e; injection e with e; injection e with e e2; subst e; exact Nat.le_refl _
 | o :: r, i, nm, st, st', fs, e => by
  simp only [drawOps] at e
  split at e
  ·rename_i p hc
   split at e
   ·rename_i s fs' hr
    injection e with e; injection e with e e2; subst e
    have:=drawOps_nx hr
    have h2:(st.put o.dst p).nx=st.nx + p.2.2:=rfl
    omega
   ·cases e
  ·cases e
theorem runOps_nx {G:Nat→Option (List FV)} {rf:RF} {l:List LOper} {st st':St} (e:runOps G rf l st=some st'):st.nx≤st'.nx:=by
 have:=stepOps_nx e
 have h2:({ st with nx:=st.nx + l.length }:St).nx=st.nx + l.length:=rfl
 omega
theorem runDraw_nx {G:Nat→Option (List FV)} {rf:RF} {prs:List (Nat × Nat)} {l:List LOper} {st st':St} (e:runDraw G rf l prs st=some st'):st.nx≤st'.nx:=by
 unfold runDraw at e
 split at e
 ·rename_i s fs h
  split at e
  ·injection e with e; subst e
   have:=drawOps_nx h
   have h2:({ st with nx:=st.nx + l.length }:St).nx=st.nx + l.length:=rfl
   omega
  ·cases e
 ·cases e
theorem coAV_sound {hp:HW} (R:HRel C σ (hk hp) w) {nx:Nat} (hF:Fresh σ nx) (z:Option Nat) {x:AV} {u:Value} (r:VR σ (frz (hk hp) σ C.X w) x u) :
 ∃ σ',SLe σ σ'∧(∀ b,b < nx→σ' b=σ b)∧Fresh σ' (nx + (coAV z nx hp x).2.2)∧HRel C σ' (hk ((coAV z nx hp x).2.1 ++ hp)) w∧HLe (frz (hk hp) σ C.X w) (frz (hk ((coAV z nx hp x).2.1 ++ hp)) σ' C.X w)∧VR σ' (frz (hk ((coAV z nx hp x).2.1 ++ hp)) σ' C.X w) (coAV z nx hp x).1 u:=by
 have same:coAV z nx hp x=(x,[],0)→∃ σ',SLe σ σ'∧(∀ b,b < nx→σ' b=σ b)∧Fresh σ' (nx + (coAV z nx hp x).2.2)∧HRel C σ' (hk ((coAV z nx hp x).2.1 ++ hp)) w∧HLe (frz (hk hp) σ C.X w) (frz (hk ((coAV z nx hp x).2.1 ++ hp)) σ' C.X w)∧VR σ' (frz (hk ((coAV z nx hp x).2.1 ++ hp)) σ' C.X w) (coAV z nx hp x).1 u:=by
  intro e
  rw [e]
  exact ⟨σ,SLe.refl _,fun _ _ => rfl,hF,R,HLe.refl _,r⟩
 cases z with
 | some sz =>
  have hn:σ nx=none:=hF.1 nx (Nat.le_refl _)
  cases x with
  | emp =>
   obtain ⟨A,rfl⟩:=r.emp_inv
   obtain ⟨h1,h2⟩:=R.virt hn sz
   refine ⟨upd σ nx (some .vir),SLe.upd hn _,fun b hb => upd_ne _ _ (by omega),⟨fun b hb => ?_⟩,?_,?_,?_⟩
   ·have hb':nx + 1≤b:=hb
    rw [upd_ne _ _ (by omega)]; exact hF.1 b (by omega)
   ·simp only [coAV,List.cons_append,List.nil_append,hk_cons]; exact h1
   ·simp only [coAV,List.cons_append,List.nil_append,hk_cons]; exact h2
   ·exact .vir nx sz 0 A (upd_same _ _ _)
  | osl b sz' off len =>
   cases hes:rdArr hp sz (.osl b sz' off len) with
   | none => exact same (by simp only [coAV,hes])
   | some es =>
    simp only [coAV,hes]
    obtain ⟨es2,q1,rfl,q2,q3,q4⟩:=rdArr_osl hes
    have hbn:b≠nx:=fun e => by
     rcases r.osl_inv with ⟨hσ,_⟩ | ⟨k,d,n,a,cap,hσ,_⟩
     ·rw [e,hn] at hσ; cases hσ
     ·rw [e,hn] at hσ; cases hσ
    have hup : ∀ l:Loc,∀ c,nx + 1≤c→upd σ nx (some l) c=none:=fun l c hc => by
     rw [upd_ne _ _ (by omega)]; exact hF.1 c (by omega)
    rcases r.osl_inv with ⟨hσ,h0,A,rfl⟩ | ⟨k,d,n,a,cap,hσ,h1,h2,h3,rfl⟩
    ·subst h0
     have he:es=[]:=List.length_eq_zero_iff.1 q4
     subst he
     have hs : ∀ c blk,upd (hk hp) b none c=some blk→hk hp c=some blk:=fun c blk h => by
      by_cases e:c=b
      ·subst e; rw [upd_same] at h; cases h
      ·rwa [upd_ne _ _ e] at h
     have hR:=R.shrink hs
     obtain ⟨g1,g2⟩:=hR.virt hn sz'
     refine ⟨upd σ nx (some .vir),SLe.upd hn _,fun c hc => upd_ne _ _ (by omega),⟨fun c hc => hup _ c hc⟩,?_,?_,.vir nx sz' 0 A (upd_same _ _ _)⟩
     ·simp only [List.cons_append,List.nil_append,hk_cons]; exact g1
     ·simp only [List.cons_append,List.nil_append,hk_cons]; exact (frz_shrink hs C.X).trans g2
    ·obtain ⟨g1,g2⟩:=R.rename (off:=off) (es':=es) q1 hσ hn (fun i cl h => by
      rw [q3] at h
      rw [List.getElem?_take] at h
      split at h
      ·rw [List.getElem?_drop] at h; exact h
      ·cases h)
     refine ⟨upd σ nx (some (.here k (d + off * sz') n sz')),SLe.upd hn _,fun c hc => upd_ne _ _ (by omega),⟨fun c hc => hup _ c hc⟩,?_,?_,?_⟩
     ·simp only [List.cons_append,List.nil_append,hk_cons]; exact g1
     ·simp only [List.cons_append,List.nil_append,hk_cons]; exact g2
     ·refine .osl nx sz' 0 len k (d + off * sz') n a cap (upd_same _ _ _) h1 ?_ (by omega)
      rcases h2 with h2 | h2
      ·exact .inl h2
      ·exact .inr (by rw [h2]; congr 1; omega)
  | _ => exact same rfl
 | none =>
  cases x with
  | emp =>
   obtain ⟨A,rfl⟩:=r.emp_inv
   exact ⟨σ,SLe.refl _,fun _ _ => rfl,hF,R,HLe.refl _,.fz _ _ (.sl0 _ _)⟩
  | osl b sz off len =>
   cases hes:rdArr hp sz (.osl b sz off len) with
   | none => exact same (by simp only [coAV,hes])
   | some es =>
    have e:toFV hp (.osl b sz off len)=some (.sl es,[(b,none)]):=by simp only [toFV,hes]
    obtain ⟨h1,h2,_⟩:=toFV_sound R e r
    simp only [coAV,hes]
    exact ⟨σ,SLe.refl _,fun _ _ => rfl,hF,R.shrink h1,frz_shrink h1 C.X,.fz _ _ h2⟩
  | _ => exact same rfl
theorem HRel.rebox2 {hp:Nat→Option Blk} (R:HRel C σ hp w) {b:Nat} {cs cs':List AV} (h0:hp b=some (.box cs)) (hl:cs'.length=cs.length) {k:Nat} {c:Array Value} {e:TypeId} {z:Nat × Nat}
 (g1:σ b=some (.here k 0 cs.length 1)) (g2:w.heap[k]? = some (.cells c e z)) (g3:NoFz c z) (g4:c.size=cs.length)
 (hr : ∀ (i:Nat) (x:AV) (v:Value),cs'[i]? = some x→c[i]? = some v→VR σ (frz hp σ C.X w) x v):HRel C σ (upd hp b (some (.box cs'))) w∧frz (upd hp b (some (.box cs'))) σ C.X w=frz hp σ C.X w:=by
 have hbox : ∀ cs1 q,Owns σ w b (.box cs1) q→q=k:=fun cs1 q h => h.plain ⟨(by intro _ _ h; cases h),(by intro _ _ _ h; cases h)⟩ g1
 have hlv : ∀ b' k,Live (upd hp b (some (.box cs'))) σ w b' k↔Live hp σ w b' k:=by
  intro b' k
  constructor
  ·rintro ⟨blk,h1,h2⟩
   by_cases e:b'=b
   ·subst e
    rw [upd_same] at h1
    injection h1 with h1; subst h1
    rw [hbox _ _ h2]
    exact ⟨_,h0,.at _ _ _ _ _ g1⟩
   ·rw [upd_ne _ _ e] at h1; exact ⟨blk,h1,h2⟩
  ·rintro ⟨blk,h1,h2⟩
   by_cases e:b'=b
   ·subst e
    rw [h0] at h1
    injection h1 with h1; subst h1
    rw [hbox _ _ h2]
    exact ⟨_,upd_same _ _ _,.at _ _ _ _ _ g1⟩
   ·exact ⟨blk,by rw [upd_ne _ _ e]; exact h1,h2⟩
 have hf:frz (upd hp b (some (.box cs'))) σ C.X w=frz hp σ C.X w:=by
  funext k
  have:(∃ b',Live (upd hp b (some (.box cs'))) σ w b' k)↔∃ b',Live hp σ w b' k:=⟨fun ⟨b',h⟩ => ⟨b',(hlv b' k).1 h⟩,fun ⟨b',h⟩ => ⟨b',(hlv b' k).2 h⟩⟩
  exact eq_of_some fun o => by rw [frz_some,frz_some,this]
 refine ⟨⟨fun b' blk e => ?_,fun b1 b2 k h1 h2 => R.inj b1 b2 k ((hlv _ _).1 h1) ((hlv _ _).1 h2),fun b1 k h1 => R.ow b1 k ((hlv _ _).1 h1),R.fr,by rw [hf]; exact R.gl,R.xl⟩,hf⟩
 rw [hf]
 by_cases eb:b'=b
 ·subst eb
  rw [upd_same] at e
  injection e with e; subst e
  exact .box cs' k c _ z (by rw [hl]; exact g1) g2 g3 (by omega) hr
 ·rw [upd_ne _ _ eb] at e
  exact R.bk b' blk e
theorem lk_cons (t:Nat) (x:AV) (sl:List (Nat × AV)) (k:Nat):lk ((t,x) :: sl) k=if t=k then x else lk sl k:=rfl
theorem coSt_sound {st : St} (c : Co) (R : Rel C σ st a w) (hF : Fresh σ st.nx) (hm : m ≤ st.nx) : ∃ σ', Rel C σ' (coSt st c) a w ∧ (∀ b, b < m → σ' b = σ b) ∧ Fresh σ' (coSt st c).nx ∧ m ≤ (coSt st c).nx := by
 have same : ∃ σ',Rel C σ' st a w∧(∀ b,b < m→σ' b=σ b)∧Fresh σ' st.nx∧m≤st.nx:=⟨σ,R,fun _ _ => rfl,hF,hm⟩
 cases c with
 | tmp t z =>
  obtain ⟨σ',h1,h2,h3,h4,h5,h6⟩:=coAV_sound R.heap hF z (R.sl t)
  refine ⟨σ',HRel.rel (st:=coSt st (.tmp t z)) h4 (fun k => ?_) (R.df.mono h5) R.tz,fun b hb => h2 b (by omega),h3,by simp only [coSt]; omega⟩
  show VR σ' _ (lk ((t,(coAV z st.nx st.hp (lk st.sl t)).1) :: st.sl) k) _
  rw [lk_cons]
  split
  ·rename_i e; subst e; exact h6
  ·exact (R.sl k).mono h1 h5
 | cell t i z =>
  simp only [coSt]
  split
  ·rename_i l hl
   split
   ·rename_i x hx
    have hv:=R.sl t
    rw [hl] at hv
    obtain ⟨vs,e1,e2,e3⟩:=hv.agg_inv
    have hi:=(List.getElem?_eq_some_iff.1 hx).1
    obtain ⟨σ',h1,h2,h3,h4,h5,h6⟩:=coAV_sound R.heap hF z (e3 i x vs[i] hx (List.getElem?_eq_getElem (by omega)))
    refine ⟨σ',HRel.rel (st:=⟨(t,.agg (l.set i (coAV z st.nx st.hp x).1)) :: st.sl,(coAV z st.nx st.hp x).2.1 ++ st.hp,st.nx + (coAV z st.nx st.hp x).2.2⟩) h4 (fun k => ?_) (R.df.mono h5) R.tz,fun b hb => h2 b (by omega),h3,by simp only; omega⟩
    show VR σ' _ (lk ((t,.agg (l.set i (coAV z st.nx st.hp x).1)) :: st.sl) k) _
    rw [lk_cons]
    split
    ·rename_i e; subst e
     rw [e1]
     refine .agg _ _ (by simpa using e2) fun j y v g1 g2 => ?_
     rw [List.getElem?_set] at g1
     split at g1
     ·rename_i hij
      subst hij
      injection g1 with g1; subst g1
      rw [List.getElem?_eq_getElem (by omega)] at g2
      injection g2 with g2; subst g2
      exact h6
     ·exact (e3 j y v g1 g2).mono h1 h5
    ·exact (R.sl k).mono h1 h5
   ·exact same
  ·exact same
 | bx t i z =>
  simp only [coSt]
  split
  ·rename_i b o hb
   split
   ·rename_i cs hcs
    split
    ·rename_i x hx
     have hi:=(List.getElem?_eq_some_iff.1 hx).1
     cases R.bk b _ hcs with
     | box _ k c tt zz g1 g2 g3 g4 g5 =>
      obtain ⟨σ',h1,h2,h3,h4,h5,h6⟩:=coAV_sound R.heap hF z (g5 (o + i) x c[o + i] hx (Array.getElem?_eq_getElem (by omega)))
      have hcs':hk ((coAV z st.nx st.hp x).2.1 ++ st.hp) b=some (.box cs):=by
       have hb':b≠st.nx:=fun e => by
        have:=hF.1 b (by omega)
        rw [this] at g1; cases g1
       cases z with
       | some sz =>
        cases x with
        | emp =>
         simp only [coAV,List.cons_append,List.nil_append,hk_cons]
         rw [upd_ne _ _ hb']; exact hcs
        | osl b2 sz2 off len =>
         simp only [coAV]
         split
         ·rename_i es hes
          obtain ⟨es2,q1,_⟩:=rdArr_osl hes
          simp only [List.cons_append,List.nil_append,hk_cons]
          rw [upd_ne _ _ hb',upd_ne _ _ (fun e => by subst e; rw [hcs] at q1; cases q1)]
          exact hcs
         ·exact hcs
        | _ => exact hcs
       | none =>
        cases x with
        | osl b2 sz off len =>
         simp only [coAV]
         split
         ·rename_i es hes
          obtain ⟨es2,q1,_⟩:=rdArr_osl hes
          simp only [List.cons_append,List.nil_append,hk_cons]
          rw [upd_ne _ _ (fun e => by subst e; rw [hcs] at q1; cases q1)]
          exact hcs
         ·exact hcs
        | _ => exact hcs
      have hx':VR σ' (frz (hk ((coAV z st.nx st.hp x).2.1 ++ st.hp)) σ' C.X w) (coAV z st.nx st.hp x).1 c[o + i]:=h6
      have key : ∀ (j:Nat) (y:AV) (v:Value),(cs.set (o + i) (coAV z st.nx st.hp x).1)[j]? = some y→c[j]? = some v→VR σ' (frz (hk ((coAV z st.nx st.hp x).2.1 ++ st.hp)) σ' C.X w) y v:=by
       intro j y v e1 e2
       rw [List.getElem?_set] at e1
       split at e1
       ·rename_i hij
        subst hij
        injection e1 with e1; subst e1
        rw [Array.getElem?_eq_getElem (by omega)] at e2
        injection e2 with e2; subst e2
        exact h6
       ·exact (g5 j y v e1 e2).mono h1 h5
      obtain ⟨r1,r2⟩:=HRel.rebox2 h4 (cs':=cs.set (o + i) (coAV z st.nx st.hp x).1) hcs' (by simp) (h1 _ _ g1) g2 g3 (by simpa using g4) key
      refine ⟨σ',HRel.rel (st:=⟨st.sl,(b,some (.box (cs.set (o + i) (coAV z st.nx st.hp x).1))) :: ((coAV z st.nx st.hp x).2.1 ++ st.hp),st.nx + (coAV z st.nx st.hp x).2.2⟩) (by simp only [hk_cons]; exact r1) (fun k => ?_) (by simp only [hk_cons]; rw [r2]; exact R.df.mono h5) R.tz,fun b hb => h2 b (by omega),h3,by simp only; omega⟩
      simp only [hk_cons]
      rw [r2]
      exact (R.sl k).mono h1 h5
    ·exact same
   ·exact same
  ·exact same
 | rowop i => exact same
 | lend i => exact same
 | att p f sz ti =>
  obtain ⟨h1,h2⟩:=coHp_sound R.heap (.att p f sz ti)
  exact ⟨σ,HRel.rel (st:=⟨st.sl,coHp st (.att p f sz ti) ++ st.hp,st.nx⟩) h1 (fun t => (R.sl t).mono (SLe.refl _) h2) (R.df.mono h2) R.tz,fun _ _ => rfl,hF,hm⟩
 | ownE p f sz =>
  obtain ⟨h1,h2⟩:=coHp_sound R.heap (.ownE p f sz)
  exact ⟨σ,HRel.rel (st:=⟨st.sl,coHp st (.ownE p f sz) ++ st.hp,st.nx⟩) h1 (fun t => (R.sl t).mono (SLe.refl _) h2) (R.df.mono h2) R.tz,fun _ _ => rfl,hF,hm⟩
 | arz p =>
  obtain ⟨h1,h2⟩:=coHp_sound R.heap (.arz p)
  exact ⟨σ,HRel.rel (st:=⟨st.sl,coHp st (.arz p) ++ st.hp,st.nx⟩) h1 (fun t => (R.sl t).mono (SLe.refl _) h2) (R.df.mono h2) R.tz,fun _ _ => rfl,hF,hm⟩
 | rz p =>
  obtain ⟨h1,h2⟩:=coHp_sound R.heap (.rz p)
  exact ⟨σ,HRel.rel (st:=⟨st.sl,coHp st (.rz p) ++ st.hp,st.nx⟩) h1 (fun t => (R.sl t).mono (SLe.refl _) h2) (R.df.mono h2) R.tz,fun _ _ => rfl,hF,hm⟩
theorem coSts_sound : ∀ (cs:List Co) {st:St} {σ:Nat→Option Loc},Rel C σ st a w→Fresh σ st.nx→m≤st.nx→∃ σ',Rel C σ' (coSts cs st) a w∧(∀ b,b < m→σ' b=σ b)∧Fresh σ' (coSts cs st).nx∧m≤(coSts cs st).nx
 | [],st,σ,R,hF,hm => ⟨σ,R,fun _ _ => rfl,hF,hm⟩
 | c :: r,st,σ,R,hF,hm => by
  obtain ⟨σ1,R1,h1,h2,h3⟩:=coSt_sound (m:=m) c R hF hm
  obtain ⟨σ2,R2,g1,g2,g3⟩:=coSts_sound r R1 h2 h3
  exact ⟨σ2,R2,fun b hb => (g1 b hb).trans (h1 b hb),g2,g3⟩
def PosOk (P:Program) (N:Nat) (ro:Option Nat) (q:Pos) (c:Code):Prop:=match q with
 | none => True
 | some (f,p) => ro=none∧f < 4096∧∃ fn b,P.funcs[f]? = some fn∧fn.body=some b∧fn.ntmps=N∧nav b (p + 1) p=some c
theorem nav_mono {b:Code} : ∀ (n p:Nat) (c:Code) (m:Nat),nav b n p=some c→n≤m→nav b m p=some c
 | 0,p,c,m,h,hm => by simp [nav] at h
 | n + 1,p,c,0,h,hm => by omega
 | n + 1, p, c, m + 1, h, hm => by
  simp only [nav] at h ⊢
  split at h
  ·rename_i hp; rw [if_pos hp]; exact h
  ·rename_i hp
   rw [if_neg hp]
   split at h
   ·rename_i d hd
    rw [nav_mono n _ d m hd (by omega)]; exact h
   ·cases h
theorem PosOk.kid {P:Program} {N:Nat} {ro:Option Nat} {q:Pos} {c d:Code} {i:Nat} (hi:i < 2) (hk:kid c i=some d) (h:PosOk P N ro q c):PosOk P N ro (q.go i) d:=by
 cases q with
 | none => trivial
 | some x =>
  obtain ⟨f,p⟩:=x
  obtain ⟨h1,h2,fn,b,h3,h4,h5,h6⟩:=h
  refine ⟨h1,h2,fn,b,h3,h4,h5,?_⟩
  have hp:=nav_low _ _ _ h6
  show nav b (2 * p + i + 1) (2 * p + i)=some d
  simp only [nav]
  rw [if_neg (by omega)]
  have e1:(2 * p + i) / 2=p:=by omega
  have e2:(2 * p + i) % 2=i:=by omega
  rw [e1,e2,nav_mono _ _ _ (2 * p + i) h6 (by omega)]
  exact hk
def Good (ro:Option Nat) (fu:Nat) (P:Program) (C:Ctx) (rf:RF) (m n:Nat):Prop :=
 ∀ (c:Code) (lc:LCode) (pr:List (Nat × List Co)) (ps:Pos) (lv lv':Hints) (st st':St) (ex:Ex) (σ:Nat→Option Loc) (a:Act) (w:World) (Q:Exit→Act→World→Prop),
  compC P C.N pr ps c lv=some (lc,lv')→PosOk P C.N ro ps c→exec C.G rf m n lc st=some (ex,st')→Rel C σ st a w→Fresh σ st.nx→m≤st.nx →
  (∀ σ' a' w',Rel C σ' st' a' w'→(∀ b,b < m→σ' b=σ b)→Fresh σ' st'.nx→m≤st'.nx→Q ex.out a' w')→c.wpIn (FW ro) fu P Q a w
def GoodL (ro:Option Nat) (fu:Nat) (P:Program) (C:Ctx) (rf:RF) (m n:Nat):Prop :=
 ∀ (c:Code) (lc:LCode) (live:List Nat) (pr:List (Nat × List Co)) (ps:Pos) (lv lv':Hints) (st st':St) (ex:Ex) (σ:Nat→Option Loc) (a:Act) (w:World) (Q:Exit→Act→World→Prop),
  compC P C.N pr ps c lv=some (lc,lv')→PosOk P C.N ro ps c→exec C.G rf m n (.loop live lc) st=some (ex,st')→Rel C σ st a w→Fresh σ st.nx→m≤st.nx →
  (∀ σ' a' w',Rel C σ' st' a' w'→(∀ b,b < m→σ' b=σ b)→Fresh σ' st'.nx→m≤st'.nx→Q ex.out a' w')→loopIn (FW ro) fu P c Q a w
theorem nxt_inv {op:Op} {x:LX} (h:compOp P op=some (.nxt x)) : ∃ y,op=.next y false∧compX y=x:=by
 cases op with
 | next it s =>
  cases s with
  | false => simp only [compOp] at h; injection h with h; injection h with h; exact ⟨it,rfl,h⟩
  | true => simp [compOp] at h
 | call c =>
  obtain ⟨callee,xs,ts⟩:=c
  cases callee with
  | value f => simp [compOp] at h
  | invoke r m => simp [compOp] at h
  | builtin b =>
   simp only [compOp] at h
   unfold compBuiltin at h
   repeat' (first | (cases h; done) | split at h)
 | binOp op t x y yt =>
  simp only [compOp,compBin,compNil] at h
  repeat' (first | (cases h; done) | split at h)
 | convert s d x =>
  simp only [compOp,compConv] at h
  repeat' (first | (cases h; done) | split at h)
 | makeFunc fn first caps =>
  cases fn with
  | func f =>
   obtain ⟨first⟩:=first
   cases first with
   | nil => simp [compOp] at h
   | cons =>
    obtain ⟨caps⟩:=caps
    cases caps <;> simp [compOp] at h
  | _ => simp [compOp] at h
 | typeAssert x xt t ok =>
  cases ok with
  | false => simp [compOp] at h
  | true =>
   simp only [compOp] at h
   repeat' (first | (cases h; done) | split at h)
 | makeMap t r => cases r <;> simp [compOp] at h
 | _ =>
  simp only [compOp] at h
  repeat' (first | (cases h; done) | (obtain ⟨z,_,hz⟩:=Option.map_eq_some_iff.1 h; cases hz; done) | split at h)
theorem rng_sound {ro:Option Nat} {fu:Nat} {rf:RF} {n:Nat} (ihG:Good ro fu P C rf m n) {body y:Code} {pr:List (Nat × List Co)} {psb psy:Pos} {lvb lvb' lvy lvy':Hints} {L b ly:LCode} {nx more it out:Nat} {live live2:List Nat} (hr:rngBody L=some (nx,more,it,out,b)) (hc:compC P C.N pr psb body lvb=some (L,lvb')) (hpb:PosOk P C.N ro psb body) (hy:compC P C.N pr psy y lvy=some (ly,lvy')) (hpy:PosOk P C.N ro psy y)
 {st':St} {ex:Ex} {Q:Exit→Act→World→Prop} : ∀ (j:Nat) (st:St) (σ:Nat→Option Loc) (a:Act) (w:World),
 rngR m live nx more it (fun s => exec C.G rf m n b s) (fun s => finR m live2 (exec C.G rf m n ly s)) j st (ex,st')→Rel C σ st a w→Fresh σ st.nx→m≤st.nx →
 (∀ σ' a' w',Rel C σ' st' a' w'→(∀ b,b < m→σ' b=σ b)→Fresh σ' st'.nx→m≤st'.nx→Q ex.out a' w')→loopIn (FW ro) fu P body (Exit.inBlock out (Exit.then (fun a w => y.wpIn (FW ro) fu P Q a w) Q)) a w
 | 0,st,σ,a,w,h,R,hF,hm,hK => h.elim
 | j + 1, st, σ, a, w, h, R, hF, hm, hK => by
  obtain ⟨hd,hhd,hover,htake⟩:=h
  obtain ⟨σ1,R1,h1,h2,h3⟩:=norm_sound (m:=m) live R
  obtain ⟨id,ops,cd,bc,lv1,rfl,hops,hcd,hbc,hne1,hne2,hne3⟩:=form_round hr hc
  generalize norm m live st=s at hhd hover htake R1 h2 h3
  obtain ⟨hlen,hget⟩:=compOpers_get _ _ hops
  have hsz:ops.size=2:=by simpa using hlen.symm
  have hg0:ops[0]? = some (ops[0]'(by omega)):=Array.getElem?_eq_getElem (by omega)
  have hg1:ops[1]? = some (ops[1]'(by omega)):=Array.getElem?_eq_getElem (by omega)
  generalize ops[0]'(by omega)=o0 at hg0
  generalize ops[1]'(by omega)=o1 at hg1
  obtain ⟨lo0,e0,hc0⟩:=hget 0 o0 (by simpa using hg0)
  obtain ⟨lo1,e1,hc1⟩:=hget 1 o1 (by simpa using hg1)
  simp at e0 e1
  subst e0; subst e1
  obtain ⟨p1,p2,p3,p4⟩:=compOper_inv hc0
  obtain ⟨q1,q2,q3,q4⟩:=compOper_inv hc1
  have p1:=p1.resolve_right (by simp)
  have q1:=q1.resolve_right (by simp)
  simp only at p1 p2 p3 p4 q1 q2 q3 q4
  have pg:o0.guard=none:=by
   rcases p4 with ⟨h,_⟩ | ⟨_,_,_,_,_,h⟩
   ·exact h
   ·cases h
  have qg:o1.guard=none:=by
   rcases q4 with ⟨h,_⟩ | ⟨_,_,_,_,_,h⟩
   ·exact h
   ·cases h
  obtain ⟨x0,hx0,hcx0⟩:=nxt_inv p1
  have fin : ∀ (σ2:Nat→Option Loc) (w2:World) (hp2:HW) (v:Value) (t:Bool) (r:List AV),HRel C σ2 (hk hp2) w2→HLe (frz (hk s.hp) σ1 C.X w) (frz (hk hp2) σ2 C.X w2)→SLe σ1 σ2→VR σ2 (frz (hk hp2) σ2 C.X w2) (.tup (.fz (.sc (.bool t)) :: r)) v →
   (Instr.next (a.eval x0) false o0.type).run P w=.ok v w2 →
   (∀ a',Rel C σ2 { s with sl:=(more,.fz (.sc (.bool t))) :: (nx,.tup (.fz (.sc (.bool t)) :: r)) :: s.sl,hp:=hp2 } a' w2→(t=true→bc.wpIn (FW ro) fu P (Exit.then (loopIn (FW ro) fu P (.seq (.region id ops false) (.seq (.cond cd .skip (.exit out)) bc)) (Exit.inBlock out (Exit.then (fun a w => y.wpIn (FW ro) fu P Q a w) Q))) (Exit.inBlock out (Exit.then (fun a w => y.wpIn (FW ro) fu P Q a w) Q))) a' w2)∧(t=false→y.wpIn (FW ro) fu P Q a' w2)) →
   loopIn (FW ro) fu P (.seq (.region id ops false) (.seq (.cond cd .skip (.exit out)) bc)) (Exit.inBlock out (Exit.then (fun a w => y.wpIn (FW ro) fu P Q a w) Q)) a w:=by
   intro σ2 w2 hp2 v t r R2 hl hs hv hrun hnext
   refine loopIn.round (wpIn_seq (wpIn_region ?_))
   rw [hsz]
   show wpOpsIn (FW ro) fu P ops _ [0,1] a w
   rw [wpOpsIn_cons]
   unfold wpOpIn
   rw [hg0]
   have hw0:Region.wanted o0 (yielded ops a.tmps)=true:=by simp [Region.wanted,pg]
   simp only [hw0,if_true]
   unfold Oper.wpIn
   refine ⟨FW.about,?_⟩
   rw [Oper.semAt_eq _ _ _ (compOp_defer p1)]
   have hex:(execOp a.eval o0).run P w=.ok (.value v) w2:=by
    simp only [execOp,hx0,Sem.run_bind,hrun,Result.andThen_ok,Sem.run_pure]
   rw [hex,Oper.uponIn_value]
   have Ra:Rel C σ2 { s with sl:=(nx,.tup (.fz (.sc (.bool t)) :: r)) :: s.sl,hp:=hp2 } (a.put o0.dst v) w2:=by
    refine HRel.rel (st:={ s with sl:=(nx,.tup (.fz (.sc (.bool t)) :: r)) :: s.sl,hp:=hp2 }) R2 (fun k => ?_) ((R1.df.mono hl).act (put_defers _ _)) (by rw [put_size]; exact R1.tz)
    show VR σ2 (frz (hk hp2) σ2 C.X w2) (lk (putD (some nx) (.tup (.fz (.sc (.bool t)) :: r)) s.sl) k) _
    rw [lk_putD,← p2,put_getD (by
     have:=R1.tz
     rw [← p2] at p3
     simp at p3 ⊢; omega)]
    split
    ·exact hv
    ·exact (R1.sl k).mono hs hl
   rw [wpOpsIn_cons]
   unfold wpOpIn
   rw [hg1]
   have hw1:Region.wanted o1 (yielded ops (a.put o0.dst v).tmps)=true:=by simp [Region.wanted,qg]
   simp only [hw1,if_true]
   unfold Oper.wpIn
   refine ⟨FW.about,?_⟩
   rw [Oper.semAt_eq _ _ _ (compOp_defer q1)]
   obtain ⟨u,u1,u2⟩:=pure_sound (v:=.fz (.sc (.bool t))) q1 rfl Ra.slr (by simp [pureOp,LX.av,lk])
   rw [u2 o1 rfl w2,Oper.uponIn_value]
   have Rb:Rel C σ2 { s with sl:=(more,.fz (.sc (.bool t))) :: (nx,.tup (.fz (.sc (.bool t)) :: r)) :: s.sl,hp:=hp2 } ((a.put o0.dst v).put o1.dst u) w2:=by
    refine HRel.rel (st:={ s with sl:=(more,.fz (.sc (.bool t))) :: (nx,.tup (.fz (.sc (.bool t)) :: r)) :: s.sl,hp:=hp2 }) R2 (fun k => ?_) (Ra.df.act (put_defers _ _)) (by rw [put_size]; exact Ra.tz)
    show VR σ2 (frz (hk hp2) σ2 C.X w2) (lk (putD (some more) (.fz (.sc (.bool t))) ((nx,.tup (.fz (.sc (.bool t)) :: r)) :: s.sl)) k) _
    rw [lk_putD,← q2,put_getD (by
     have:=Ra.tz
     rw [← q2] at q3
     simp at q3 ⊢; omega)]
    split
    ·exact u1
    ·exact Ra.sl k
   show (Code.seq (.cond cd .skip (.exit out)) bc).wpIn (FW ro) fu P _ _ w2
   refine wpIn_seq ?_
   have hcv:=Rb.slr.av cd
   rw [hcd] at hcv
   simp only [LX.av,lk,if_pos] at hcv
   have hnx:=hnext _ Rb
   refine wpIn_cond hcv.sc_inv ?_
   cases t with
   | true => exact wpIn_skip (hnx.1 rfl)
   | false =>
    refine wpIn_exit ?_
    simp only [Exit.then,Exit.inBlock,if_true]
    exact hnx.2 rfl
  rcases next_sound R1 hhd hcx0 o0.type with ⟨hl0,hrun⟩ | ⟨p,hp,v,w2,hrun,hlf,hR2,hl2,hv2⟩
  ·refine fin σ1 w s.hp _ false [] R1.heap (HLe.refl _) (SLe.refl _) (.tup _ [.bool false] rfl fun i x u e1 e2 => ?_) hrun fun a' Ra' => ?_
   ·match i with
    | 0 => simp at e1 e2; subst e1; subst e2; exact .fz _ _ (.sc _ rfl)
    | n + 1 => simp at e1
   ·refine ⟨fun h => by (cases h),fun _ => ?_⟩
    have ho:=hover hl0
    simp only [finR] at ho
    split at ho
    ·rename_i e2 s2 hs2
     injection ho with ho; injection ho with ho1 ho2; subst ho1; subst ho2
     refine ihG y ly pr psy lvy lvy' _ s2 e2 σ1 a' w Q hy hpy hs2 Ra' h2 h3 fun σ' a2 w2 r1 r2 r3 r4 => ?_
     obtain ⟨σ3,R3,g1,g2,g3⟩:=norm_sound (m:=m) live2 r1
     exact hK σ3 a2 w2 R3 (fun b hb => by rw [g1 b hb,r2 b hb,h1 b hb]) g2 g3
    ·cases ho
  ·obtain ⟨s1,hs1,hrest⟩:=htake p hp
   refine fin σ1 w2 _ v true _ hR2 hl2 (SLe.refl _) hv2 hrun fun a' Ra' => ?_
   refine ⟨fun _ => ?_,fun h => by (cases h)⟩
   refine ihG bc b pr _ lv1 lvb' _ s1 .nor σ1 a' w2 _ hbc (hpb.kid (by omega) rfl |>.kid (by omega) rfl) hs1 Ra' h2 h3 fun σ' a2 w3 r1 r2 r3 r4 => ?_
   exact rng_sound ihG hr hc hpb hy hpy j s1 σ' a2 w3 hrest r1 r3 r4 fun σ3 a3 w4 g1 g2 g3 g4 => hK σ3 a3 w4 g1 (fun b hb => by rw [g2 b hb,r2 b hb,h1 b hb]) g3 g4
theorem HRel.newObj {hp:Nat→Option Blk} (R:HRel C σ hp w) (o:Obj):HRel C σ hp (w.alloc o)∧HLe (frz hp σ C.X w) (frz hp σ C.X (w.alloc o))∧frz hp σ C.X (w.alloc o) w.heap.size=some o:=by
 have hlt : ∀ k,k < w.heap.size→(w.alloc o).heap[k]? = w.heap[k]? := fun k hk => heap_alloc_lt hk
 have hlv : ∀ b k,Live hp σ (w.alloc o) b k→Live hp σ w b k:=by
  rintro b k ⟨blk,h1,h2⟩
  refine ⟨blk,h1,h2.keep rfl fun k' d n sz hσ => hlt k' (R.ow b k' ⟨blk,h1,.at _ _ _ _ _ hσ⟩).2.1⟩
 have hl:HLe (frz hp σ C.X w) (frz hp σ C.X (w.alloc o)):=by
  intro k x h
  rw [frz_some] at h ⊢
  have hk:=(Array.getElem?_eq_some_iff.1 h.2).1
  exact ⟨⟨fun ⟨b,hb⟩ => h.1.1 ⟨b,hlv b k hb⟩,h.1.2⟩,by rw [hlt k hk]; exact h.2⟩
 refine ⟨⟨fun b blk h => (R.bk b blk h).mono (SLe.refl _) hl fun k hk => hlt k (R.ow b k ⟨blk,h,hk⟩).2.1,fun b b' k h1 h2 => R.inj _ _ _ (hlv _ _ h1) (hlv _ _ h2),fun b k h => ?_,R.fr.alloc o,R.gl.mono hl,R.xl⟩,hl,?_⟩
 ·obtain ⟨g1,g2,g3⟩:=R.ow _ _ (hlv _ _ h)
  exact ⟨g1,by rw [size_alloc']; omega,g3⟩
 ·rw [frz_some]
  refine ⟨⟨fun ⟨b,hb⟩ => ?_,fun hx => ?_⟩,heap_alloc_new⟩
  ·have:=(R.ow _ _ (hlv _ _ hb)).2.1; omega
  ·have:=R.xl _ hx; have:=R.fr.size; omega
theorem HRel.retire {hp hp':Nat→Option Blk} (R:HRel C σ hp w) {b l:Nat} {pf:FuncId} {caps:List (Nat × AV)} {ex:Option Ex} (hb:hp b=some (.loop pf caps ex)) (hσ:σ b=some (.here l 0 0 0)) (h0:hp' b=none) (hne : ∀ c,c≠b→hp' c=hp c) {r:Loop} (hr:w.heap[l]? = some (.loop r)) (o:Obj) :
 HRel C σ hp' (w.putObj l o)∧HLe (frz hp σ C.X w) (frz hp' σ C.X (w.putObj l o)):=by
 have hlt:l < w.heap.size:=(Array.getElem?_eq_some_iff.1 hr).1
 have hbl:Live hp σ w b l:=⟨_,hb,.at _ _ _ _ _ hσ⟩
 have hother : ∀ k,k≠l→(w.putObj l o).heap[k]? = w.heap[k]? := fun k hk => World.putObj_heap_other hk
 have hlv : ∀ c k,Live hp' σ (w.putObj l o) c k→c≠b∧Live hp σ w c k:=by
  rintro c k ⟨blk,h1,h2⟩
  have e:c≠b:=fun e => by rw [e,h0] at h1; cases h1
  have h1':=h1
  rw [hne c e] at h1'
  refine ⟨e,blk,h1',h2.keep rfl fun k' d n sz hσ' => hother k' fun ek => ?_⟩
  subst ek
  exact e (R.inj _ _ _ ⟨blk,h1',.at _ _ _ _ _ hσ'⟩ hbl)
 have hkl : ∀ c k,c≠b→Live hp σ w c k→k≠l:=fun c k e h ek => by subst ek; exact e (R.inj _ _ _ h hbl)
 have hl:HLe (frz hp σ C.X w) (frz hp' σ C.X (w.putObj l o)):=by
  intro k x h
  rw [frz_some] at h ⊢
  have hk:k≠l:=fun e => h.1.1 ⟨b,by rw [e]; exact hbl⟩
  exact ⟨⟨fun ⟨c,hc⟩ => h.1.1 ⟨c,(hlv c k hc).2⟩,h.1.2⟩,by rw [hother k hk]; exact h.2⟩
 refine ⟨⟨fun c blk h => ?_,fun c c' k h1 h2 => R.inj _ _ _ (hlv _ _ h1).2 (hlv _ _ h2).2,fun c k h => ?_,⟨by rw [World.putObj_size]; exact R.fr.size,fun k h1 h2 => ?_,R.fr.os,R.fr.tape,R.fr.output⟩,R.gl.mono hl,R.xl⟩,hl⟩
 ·have e:c≠b:=fun e => by rw [e,h0] at h; cases h
  rw [hne c e] at h
  exact (R.bk c blk h).mono (SLe.refl _) hl fun k hk => hother k (hkl c k e ⟨blk,h,hk⟩)
 ·obtain ⟨g1,g2,g3⟩:=R.ow _ _ (hlv _ _ h).2
  exact ⟨g1,by rw [World.putObj_size]; exact g2,g3⟩
 ·have hk:k≠l:=fun e => by
   subst e
   rcases (R.ow _ _ hbl).2.2 with q | q
   ·exact h2 q
   ·omega
  rw [hother k hk]
  exact R.fr.keep k h1 h2
theorem rfn_sound {fu:Nat} {rf:RF} (RS:RFSound P C.G rf) (hrc:C.rc=rcOf P) {g:Operand} {ps:Array Nat} {as bd:Code} {pf:FuncId} {l its:List Nat} (hpf:C.rc pf=some (C.N,ps,as,bd)) (hits:its.all (hasBody P)=true) {st st':St} {ex:Ex} {Q:Exit→Act→World→Prop}
 (e:rfnOp C.G rf (compX g) pf l its st=some (ex,st')) (R:Rel C σ st a w) (hF:Fresh σ st.nx) (hm:m≤st.nx)
 (hK : ∀ σ' a' w',Rel C σ' st' a' w'→(∀ b,b < m→σ' b=σ b)→Fresh σ' st'.nx→m≤st'.nx→Q ex.out a' w'):(Code.rangeFunc g ps as bd).wpIn (FW none) fu P Q a w:=by
 unfold rfnOp at e
 split at e
 case h_2 => cases e
 rename_i r0 ws nn hcall
 split at hcall
 case isFalse => cases hcall
 rename_i hit
 split at e
 case h_2 => cases e
 rename_i pf2 caps2 ex2 hlast
 injection e with e; injection e with e1 e2; subst e1; subst e2
 refine wpIn_rangeFunc fun fn _ => ?_
 obtain ⟨N1,L1,F1⟩:=R.heap.newObj (.deferred (some []))
 have hn:σ st.nx=none:=hF.1 _ (Nat.le_refl _)
 let rec0:Loop:={ state:=.ready,pending:=none,fn,tmps:=a.tmps,params:=ps,assign:=as,body:=bd,defers:=w.heap.size }
 let w1:=(w.alloc (.deferred (some []))).alloc (.loop rec0)
 let blk:Blk:=.loop pf (l.map fun t => (t,lk st.sl t)) none
 let σ1:=upd σ st.nx (some (.here (w.alloc (.deferred (some []))).heap.size 0 0 0))
 have hs1:SLe σ σ1:=SLe.upd hn _
 have hl1:=frz_fresh N1 st.nx (.loop rec0) 0 0 0 blk Blk.loop_plain
 have N2:HRel C σ1 (upd (hk st.hp) st.nx (some blk)) w1:=by
  refine N1.fresh hn (.loop rec0) 0 0 0 blk ?_ Blk.loop_plain
  refine .loop pf _ none _ C.N rec0 (upd_same _ _ _) heap_alloc_new hpf R.tz (fun i t x h => ?_) (fun _ => ⟨rfl,rfl⟩) fun e h => by cases h
  rw [List.getElem?_map] at h
  obtain ⟨t0,ht0,h2⟩:=Option.map_eq_some_iff.1 h
  injection h2 with h2 h3
  subst h2; subst h3
  exact (R.sl t0).mono hs1 (L1.trans hl1)
 have hhk:hk ((st.nx,some blk) :: st.hp)=upd (hk st.hp) st.nx (some blk):=hk_cons ..
 have hsz1:(w.alloc (.deferred (some []))).heap.size=w.heap.size + 1:=size_alloc'
 have hfv:=R.slr.av g
 have hfv1:=hfv.mono hs1 (L1.trans hl1)
 let l0:=w.heap.size + 1
 have hyl:VR σ1 (frz (upd (hk st.hp) st.nx (some blk)) σ1 C.X w1) (.yl st.nx) (.func (.yield l0) #[] #[]):=.yl _ _ (by
  show upd σ st.nx _ st.nx=_
  rw [upd_same,hsz1])
 let a':Act:={ a with defers:=[mark1 w.heap.size] ++ a.defers }
 have hfr1 : ∀ b,st.nx + 1≤b→σ1 b=none:=fun b hb => by
  show upd σ st.nx _ b=none
  rw [upd_ne _ _ (by omega)]; exact hF.1 b (by omega)
 obtain ⟨hfn,d0,hd0,hD0⟩:=callV_sound RS hrc hcall (C:=C) (σ:=σ1) (w:=w1) (us:=[.func (.yield l0) #[] #[]]) (uf:=a.eval g) (by rw [hhk]; exact N2) hfr1 (by rw [hhk]; exact hfv1) rfl (fun i x u e1 e2 => by
  match i with
  | 0 => simp at e1 e2; subst e1; subst e2; rw [hhk]; exact hyl
  | n + 1 => simp at e1) (K:=fun e w3 => (∃ u,e=.returned u)∧rangePost (FW none) fu P l0 Q a' e w3) (fun u σ' w' q1 q2 q3 q4 q5 q6 => by
  refine ⟨⟨u,rfl⟩,?_⟩
  have hσl:σ' st.nx=some (.here l0 0 0 0):=by
   rw [q5 st.nx (by show st.nx < st.nx + 1; omega)]
   show upd σ st.nx _ st.nx=_
   rw [upd_same,hsz1]
  cases q2.bk st.nx _ hlast with
  | loop _ _ _ l' N' r g1 g2 g3 g4 g5 g6 g7 =>
   have hll:l'=l0:=by rw [hσl] at g1; injection g1 with g1; injection g1 with g1; exact g1.symm
   subst hll
   have hbz:r.state≠.busy:=by
    cases ex2 with
    | none => rw [(g6 rfl).1]; simp
    | some e => rw [(g7 e rfl).1]; simp
   refine ⟨r.pending,_,run_endLoop g2 hbz,?_⟩
   obtain ⟨R4,L4⟩:=q2.retire (hp':=hk ((st.nx,none) :: (ws ++ (st.nx,some blk) :: st.hp))) hlast hσl (by simp [hk]) (fun c hc => by simp only [hk]; rw [if_neg (Ne.symm hc)]) g2 (.loop { r with state:=.exhausted })
   have Lall:HLe (frz (hk st.hp) σ C.X w) (frz (hk ((st.nx,none) :: (ws ++ (st.nx,some blk) :: st.hp))) σ' C.X (w'.putObj l0 (.loop { r with state:=.exhausted }))):=by
    refine (L1.trans hl1).trans (HLe.trans ?_ L4)
    rw [← hhk]; exact q4
   have LD:HLe (frz (hk st.hp) σ C.X (w.alloc (.deferred (some [])))) (frz (hk ((st.nx,none) :: (ws ++ (st.nx,some blk) :: st.hp))) σ' C.X (w'.putObj l0 (.loop { r with state:=.exhausted }))):=by
    refine hl1.trans (HLe.trans ?_ L4)
    rw [← hhk]; exact q4
   have hfin:=hK σ' a' (w'.putObj l0 (.loop { r with state:=.exhausted })) (by
    refine HRel.rel (st:={ sl:=st.sl,hp:=(st.nx,none) :: (ws ++ (st.nx,some blk) :: st.hp),nx:=st.nx + 1 + nn }) R4 (fun t => (R.sl t).mono (hs1.trans q3) Lall) ?_ R.tz
    obtain ⟨Ds,d1,d2,d3⟩:=R.df
    refine ⟨w.heap.size :: Ds,by simp [a',d1],List.nodup_cons.2 ⟨fun hmem => ?_,d2⟩,fun D hD => ?_⟩
    ·have:=(d3 _ hmem).2
     rw [frz_some] at this
     have:=(Array.getElem?_eq_some_iff.1 this.2).1
     omega
    ·rcases List.mem_cons.1 hD with rfl | hD
     ·exact ⟨.inr R.fr.size,LD _ _ F1⟩
     ·exact ⟨(d3 D hD).1,Lall _ _ (d3 D hD).2⟩) (fun b hb => by
    rw [q5 b (by show b < st.nx + 1; omega)]
    show upd σ st.nx _ b=_
    rw [upd_ne _ _ (by omega)]) ⟨fun b hb => q6 b hb⟩ (by show m≤st.nx + 1 + nn; omega)
   generalize w'.putObj l0 (.loop { r with state:=.exhausted })=w4 at hfin ⊢
   cases ex2 with
   | none =>
    rw [(g6 rfl).2]
    exact hfin
   | some e =>
    obtain ⟨_,h2,h3⟩:=g7 e rfl
    rw [h2]
    cases e with
    | nor => simp [Ex.jump] at h3
    | exit i => exact wpIn_exit hfin
    | ret => exact wpIn_ret hfin)
 unfold itOk at hit
 split at hit
 case h_2 => cases hit
 rename_i gf gc hgf
 obtain ⟨cvs,hev,hdo⟩:=hfn gf gc hgf
 have hbody : ∀ args w,(callFunc gf args).run P w=.ok (.enter gf args) w:=by
  intro args w
  have:=List.all_eq_true.1 hits gf (by simpa using hit)
  unfold hasBody at this
  split at this
  ·rename_i fn0 hf0
   simp only [Bool.and_eq_true,Bool.not_eq_true'] at this
   have hnm : ¬ fn0.name = "runtime.NumGoroutine" := by simpa using this.2
   obtain ⟨b0,hb0⟩:=Option.isSome_iff_exists.1 this.1
   simp [callFunc,hf0,hnm,hb0,Sem.run_bind]
  ·cases this
 have hcalls:Calls P gf ([Value.func (.yield l0) #[] #[]].toArray ++ cvs) w1 fun e w3 => (∃ u,e=.returned u)∧rangePost (FW none) fu P l0 Q a' e w3:=by
  rcases hdo with ⟨_,h⟩ | ⟨v,w',h,_⟩
  ·exact h
  ·rw [hbody] at h; cases h
 refine ⟨l0,[mark1 w.heap.size],w1,{ target:=.fn (.func gf) cvs,args := #[.func (.yield l0) #[] #[]] },w1,gf,#[.func (.yield l0) #[] #[]] ++ cvs,w1,run_enterLoop_outer fn a.tmps ps as bd,?_,fun _ _ => trivial,?_,FW.depth,?_⟩
 ·have hc:a.eval (.const (.func (.yield l0) #[] #[]))=.func (.yield l0) #[] #[]:=rfl
  simp only [resolve,rangeCall,hev,Deferred.ofValue,List.map_toArray,List.map_cons,List.map_nil,hc]
  rfl
 ·simp only [invoke]; exact hbody _ _
 ·exact (FW.calls hcalls).mono fun e w3 h => h.2
theorem exec_sound {ro : Option Nat} {fu : Nat} {rf : RF} (hmix : P.follows .mixedOrders = true) (RS : RFSound P C.G rf) (hrc : C.rc = rcOf P) : ∀ n, Good ro fu P C rf m n ∧ GoodL ro fu P C rf m n
 | 0 => ⟨fun c lc pr ps lv lv' st st' ex σ a w Q hc hp e => by simp [exec] at e,fun c lc live pr ps lv lv' st st' ex σ a w Q hc hp e => by simp [exec] at e⟩
 | n + 1 => by
  obtain ⟨ihG,ihL⟩:=exec_sound hmix RS hrc n
  have hLoop:GoodL ro fu P C rf m (n + 1):=by
   intro c lc live pr ps lv lv' st st' ex σ a w Q hc hp e R hF hm hK
   simp only [exec] at e
   obtain ⟨σ1,R1,h1,h2,h3⟩:=norm_sound (m:=m) live R
   refine loopIn.round ?_
   split at e
   ·rename_i s hb
    refine ihG c lc pr ps lv lv' _ s .nor σ1 a w _ hc hp hb R1 h2 h3 fun σ' a' w' q1 q2 q3 q4 => ?_
    exact ihL c lc live pr ps lv lv' s st' ex σ' a' w' Q hc hp e q1 q3 q4 fun σ2 a2 w2 r1 r2 r3 r4 => hK σ2 a2 w2 r1 (fun b hb => by rw [r2 b hb,q2 b hb,h1 b hb]) r3 r4
   ·rename_i hne
    refine ihG c lc pr ps lv lv' _ st' ex σ1 a w _ hc hp e R1 h2 h3 fun σ' a' w' q1 q2 q3 q4 => ?_
    have:=hK σ' a' w' q1 (fun b hb => by rw [q2 b hb,h1 b hb]) q3 q4
    cases ex with
    | nor => exact absurd e (hne st')
    | exit id => exact this
    | ret => exact this
  refine ⟨?_,hLoop⟩
  intro c lc pr ps lv lv' st st' ex σ a w Q hc hpo e R hF hm hK
  cases c with
  | skip =>
   simp only [compC] at hc
   injection hc with hc; injection hc with hc1 hc2; subst hc1
   simp only [exec] at e
   injection e with e; injection e with e1 e2; subst e1; subst e2
   exact wpIn_skip (hK σ a w R (fun _ _ => rfl) hF hm)
  | region id ops draw =>
   have hreg : ∀ (k:Nat) (l:LCode) (st:St) (σ:Nat→Option Loc),(∃ lo,l=.ops lo∧draw=false∧OpsOf P ops C.N lo)∨(∃ lo,l=.draw lo (heedPairs ops lo)∧draw=true∧OpsOf P ops C.N lo∧((openPairs ops).all (pairOk ops lo (heedPairs ops lo)) && backEdges ops)=true) →
    exec C.G rf m k l st=some (ex,st')→Rel C σ st a w→Fresh σ st.nx→m≤st.nx →
    (∀ σ' a' w',Rel C σ' st' a' w'→(∀ b,b < m→σ' b=σ b)→Fresh σ' st'.nx→m≤st'.nx→Q ex.out a' w')→(Code.region id ops draw).wpIn (FW ro) fu P Q a w:=by
    intro k l st σ hl e R hF hm hK
    cases k with
    | zero => simp [exec] at e
    | succ k =>
     rcases hl with ⟨lo,rfl,rfl,hlo⟩ | ⟨lo,rfl,rfl,hlo,hok⟩
     ·simp only [exec] at e
      split at e
      ·rename_i s hs
       injection e with e; injection e with e1 e2; subst e1; subst e2
       exact region_sound RS hrc hlo hs R hm hF fun σ' a' w' q1 q2 q3 => hK σ' a' w' q1 q2 q3 (by have:=runOps_nx hs; omega)
      ·cases e
     ·simp only [exec] at e
      split at e
      ·rename_i s hs
       injection e with e; injection e with e1 e2; subst e1; subst e2
       exact region_any_sound hmix RS hrc hlo hok hs R hm hF fun σ' a' w' q1 q2 q3 => hK σ' a' w' q1 q2 q3 (by have:=runDraw_nx hs; omega)
      ·cases e
   have hlo : ∃ l,lc=withCo (lkp pr id) l∧((∃ lo,l=.ops lo∧draw=false∧OpsOf P ops C.N lo)∨(∃ lo,l=.draw lo (heedPairs ops lo)∧draw=true∧OpsOf P ops C.N lo∧((openPairs ops).all (pairOk ops lo (heedPairs ops lo)) && backEdges ops)=true)):=by
    cases draw with
    | false =>
     simp only [compC] at hc
     split at hc
     ·rename_i l hl
      injection hc with hc; injection hc with hc1 hc2; subst hc1
      exact ⟨_,rfl,.inl ⟨_,rfl,rfl,opsOf hl _⟩⟩
     ·cases hc
    | true =>
     simp only [compC] at hc
     split at hc
     ·rename_i l hl
      obtain ⟨l0,hl0,rfl⟩:=Option.map_eq_some_iff.1 hl
      split at hc
      ·rename_i hok
       injection hc with hc; injection hc with hc1 hc2; subst hc1
       exact ⟨_,rfl,.inr ⟨_,rfl,rfl,opsOf hl0 _,hok⟩⟩
      ·cases hc
     ·cases hc
   obtain ⟨l,rfl,hl⟩:=hlo
   unfold withCo at e
   split at e
   ·exact hreg (n + 1) l st σ hl e R hF hm hK
   ·simp only [exec] at e
    obtain ⟨σ1,R1,h1,h2,h3⟩:=coSts_sound (m:=m) (lkp pr id) R hF hm
    exact hreg n l _ σ1 hl e R1 h2 h3 fun σ' a' w' q1 q2 q3 q4 => hK σ' a' w' q1 (fun b hb => by rw [q2 b hb,h1 b hb]) q3 q4
  | seq x y =>
   simp only [compC] at hc
   split at hc
   ·rename_i lx lv1 hx
    split at hc
    ·rename_i ly lv2 hy
     injection hc with hc
     by_cases hfu : ∃ R0 out l c0 live2 lv3 cs live nx more it b,lx=.seq R0 (.block out l)∧lv2=(c0,live2) :: lv3∧rngLoop l=some (cs,live,nx,more,it,out,b)∧lc=.seq R0 (withCo cs (.rng live nx more it out b ly live2))
     ·obtain ⟨R0,out,l,c0,live2,lv3,cs,live,nx,more,it,b,rfl,rfl,hrl,rfl⟩:=hfu
      clear hc
      obtain ⟨x1,x2,lvm,rfl,hx1,hx2⟩:=form_seq (fun cs _ _ _ _ _ _ _ _ e => by cases cs <;> cases e) (form hx)
      obtain ⟨lc0,rfl,hlc0⟩:=form_block (form hx2)
      have hl : ∃ bb,l=withCo cs (.loop live bb)∧rngBody bb=some (nx,more,it,out,b):=by
       unfold rngLoop at hrl
       split at hrl
       ·rename_i lv0 bb
        obtain ⟨q,hq,hq2⟩:=Option.map_eq_some_iff.1 hrl
        injection hq2 with h1 h2; injection h2 with h2 h3
        subst h1; subst h2
        exact ⟨bb,rfl,by rw [hq,h3]⟩
       ·rename_i cc ccs lv0 bb
        obtain ⟨q,hq,hq2⟩:=Option.map_eq_some_iff.1 hrl
        injection hq2 with h1 h2; injection h2 with h2 h3
        subst h1; subst h2
        exact ⟨bb,rfl,by rw [hq,h3]⟩
       ·cases hrl
      obtain ⟨bb,hl,hbb⟩:=hl
      obtain ⟨body,lv0,rfl,rfl,hbody⟩:=form_loop hl (form hlc0)
      simp only [exec] at e
      refine wpIn_seq (wpIn_seq ?_)
      split at e
      ·rename_i s hs
       refine ihG x1 R0 pr _ lv _ st s .nor σ a w _ hx1 (hpo.kid (by omega) rfl |>.kid (by omega) rfl) hs R hF hm fun σ' a' w' q1 q2 q3 q4 => ?_
       refine wpIn_block (loopIn.wp ?_)
       have hrng : ∃ σ2 s2 k,Rel C σ2 s2 a' w'∧(∀ b,b < m→σ2 b=σ' b)∧Fresh σ2 s2.nx∧m≤s2.nx∧k≤n∧exec C.G rf m k (.rng live nx more it out b ly live2) s2=some (ex,st'):=by
        cases cs with
        | nil => exact ⟨σ',s,n,q1,fun _ _ => rfl,q3,q4,Nat.le_refl _,e⟩
        | cons c1 cs1 =>
         cases n with
         | zero => simp [exec] at e
         | succ n =>
          simp only [withCo,exec] at e
          obtain ⟨σ2,R2,g1,g2,g3⟩:=coSts_sound (m:=m) (c1 :: cs1) q1 q3 q4
          exact ⟨σ2,_,n,R2,g1,g2,g3,Nat.le_succ _,e⟩
       obtain ⟨σ2,s2,k,R2,g1,g2,g3,hk,he⟩:=hrng
       cases k with
       | zero => simp [exec] at he
       | succ k =>
        simp only [exec] at he
        have hR:=(rngO_some fun _ _ => rngR_uniq).1 he
        have hR':rngR m live nx more it (fun s => exec C.G rf m n b s) (fun s => finR m live2 (exec C.G rf m n ly s)) k s2 (ex,st') :=
         rngR_mono (fun st r => exec_mono' (RFle.refl _) (by omega)) (fun st r => finR_mono fun r => exec_mono' (RFle.refl _) (by omega)) (Nat.le_refl _) hR
        exact rng_sound ihG hbb hbody (hpo.kid (i:=0) (by omega) rfl |>.kid (i:=1) (by omega) rfl |>.kid (i:=0) (by omega) rfl |>.kid (i:=0) (by omega) rfl) hy (hpo.kid (i:=1) (by omega) rfl) k s2 σ2 a' w' hR' R2 g2 g3 fun σ3 a3 w3 r1 r2 r3 r4 => hK σ3 a3 w3 r1 (fun b hb => by rw [r2 b hb,g1 b hb,q2 b hb]) r3 r4
      ·rename_i hne
       refine ihG x1 R0 pr _ lv _ st st' ex σ a w _ hx1 (hpo.kid (by omega) rfl |>.kid (by omega) rfl) e R hF hm fun σ' a' w' q1 q2 q3 q4 => ?_
       have:=hK σ' a' w' q1 q2 q3 q4
       cases ex with
       | nor => exact absurd e (hne st')
       | exit id => exact this
       | ret => exact this
     have hc1:lc=.seq lx ly:=by
      unfold fuse at hc
      split at hc
      ·split at hc
       ·split at hc
        ·rename_i ho
         subst ho
         injection hc with hc1 hc2
         exact absurd ⟨_,_,_,_,_,_,_,_,_,_,_,_,rfl,rfl,by assumption,hc1.symm⟩ hfu
        ·injection hc with hc1 hc2; exact hc1.symm
       ·injection hc with hc1 hc2; exact hc1.symm
      ·injection hc with hc1 hc2; exact hc1.symm
     subst hc1
     simp only [exec] at e
     refine wpIn_seq ?_
     split at e
     ·rename_i s hs
      refine ihG x lx pr _ lv lv1 st s .nor σ a w _ hx (hpo.kid (by omega) rfl) hs R hF hm fun σ' a' w' q1 q2 q3 q4 => ?_
      exact ihG y ly pr _ lv1 lv2 s st' ex σ' a' w' Q hy (hpo.kid (by omega) rfl) e q1 q3 q4 fun σ2 a2 w2 r1 r2 r3 r4 => hK σ2 a2 w2 r1 (fun b hb => by rw [r2 b hb,q2 b hb]) r3 r4
     ·rename_i hne
      refine ihG x lx pr _ lv lv1 st st' ex σ a w _ hx (hpo.kid (by omega) rfl) e R hF hm fun σ' a' w' q1 q2 q3 q4 => ?_
      have:=hK σ' a' w' q1 q2 q3 q4
      cases ex with
      | nor => exact absurd e (hne st')
      | exit id => exact this
      | ret => exact this
    ·cases hc
   ·cases hc
  | cond cd x y =>
   simp only [compC] at hc
   split at hc
   ·rename_i lx lv1 hx
    split at hc
    ·rename_i ly lv2 hy
     injection hc with hc; injection hc with hc1 hc2; subst hc1
     simp only [exec] at e
     split at e
     ·rename_i t ht
      have hr:=R.slr.av cd
      rw [ht] at hr
      refine wpIn_cond hr.sc_inv ?_
      cases t with
      | true =>
       simp only [if_true] at e ⊢
       exact ihG x lx pr _ lv lv1 st st' ex σ a w Q hx (hpo.kid (by omega) rfl) e R hF hm hK
      | false =>
       simp only [if_false,Bool.false_eq_true] at e ⊢
       exact ihG y ly pr _ lv1 lv2 st st' ex σ a w Q hy (hpo.kid (by omega) rfl) e R hF hm hK
     ·cases e
    ·cases hc
   ·cases hc
  | block id b =>
   simp only [compC] at hc
   split at hc
   ·rename_i lx lv1 hx
    injection hc with hc; injection hc with hc1 hc2; subst hc1
    simp only [exec] at e
    refine wpIn_block ?_
    split at e
    ·rename_i i s hs
     refine ihG b lx pr _ lv lv1 st s (.exit i) σ a w _ hx (hpo.kid (by omega) rfl) hs R hF hm fun σ' a' w' q1 q2 q3 q4 => ?_
     split at e
     ·rename_i hi
      injection e with e; injection e with e1 e2; subst e1; subst e2
      have:=hK σ' a' w' q1 q2 q3 q4
      simp only [Ex.out,Exit.inBlock,hi,if_true] at this ⊢
      exact this
     ·rename_i hi
      injection e with e; injection e with e1 e2; subst e1; subst e2
      have:=hK σ' a' w' q1 q2 q3 q4
      simp only [Ex.out,Exit.inBlock,hi,if_false] at this ⊢
      exact this
    ·rename_i hne
     refine ihG b lx pr _ lv lv1 st st' ex σ a w _ hx (hpo.kid (by omega) rfl) e R hF hm fun σ' a' w' q1 q2 q3 q4 => ?_
     have:=hK σ' a' w' q1 q2 q3 q4
     cases ex with
     | nor => exact this
     | exit id => exact absurd e (hne id st')
     | ret => exact this
   ·cases hc
  | loop b =>
   cases lv with
   | nil =>
    simp [compC] at hc
    rw [← hc.1] at e
    simp [exec] at e
   | cons l lv =>
    obtain ⟨cs,l⟩:=l
    simp only [compC] at hc
    split at hc
    ·rename_i lx lv1 hx
     injection hc with hc; injection hc with hc1 hc2; subst hc1
     unfold withCo at e
     split at e
     ·exact (hLoop b lx l pr _ lv lv1 st st' ex σ a w Q hx (hpo.kid (by omega) rfl) e R hF hm hK).wp
     ·simp only [exec] at e
      obtain ⟨σ1,R1,h1,h2,h3⟩:=coSts_sound (m:=m) cs R hF hm
      exact (ihL b lx l pr _ lv lv1 _ st' ex σ1 a w Q hx (hpo.kid (by omega) rfl) e R1 h2 h3 fun σ' a' w' q1 q2 q3 q4 => hK σ' a' w' q1 (fun b hb => by rw [q2 b hb,h1 b hb]) q3 q4).wp
    ·cases hc
  | rangeFunc g ps0 as bd =>
   cases ps with
   | none =>
    simp [compC] at hc
    rw [← hc.1] at e
    simp [exec] at e
   | some q =>
    obtain ⟨f,p⟩:=q
    cases lv with
    | nil =>
     simp [compC] at hc
     rw [← hc.1] at e
     simp [exec] at e
    | cons z lv =>
     obtain ⟨cs,l⟩:=z
     simp only [compC] at hc
     split at hc
     case isFalse =>
      injection hc with hc; injection hc with hc1 hc2; subst hc1
      simp [exec] at e
     rename_i hits
     injection hc with hc; injection hc with hc1 hc2; subst hc1
     obtain ⟨rfl,hf4,fn,b,g1,g2,g3,g4⟩:=hpo
     have hrcf:C.rc (4096 * p + f)=some (C.N,ps0,as,bd):=by
      rw [hrc]
      unfold rcOf
      have hf5 : @LT.lt Nat _ f 4096:=hf4
      have e1:(4096 * p + f) % 4096=f:=by omega
      have e2:(4096 * p + f) / 4096=p:=by
       have h1:=Nat.div_add_mod (4096 * p + f) 4096
       rw [e1] at h1
       have h2:4096 * ((4096 * p + f) / 4096)=4096 * p:=Nat.add_right_cancel h1
       exact Nat.eq_of_mul_eq_mul_left (by omega) h2
      rw [e1,e2,g1]
      simp only [g2,g4,g3]
     have main : ∀ (k:Nat) (st:St) (σ:Nat→Option Loc),exec C.G rf m k (.rfn (compX g) (4096 * p + f) l (lends cs)) st=some (ex,st')→Rel C σ st a w→Fresh σ st.nx→m≤st.nx →
      (∀ σ' a' w',Rel C σ' st' a' w'→(∀ b,b < m→σ' b=σ b)→Fresh σ' st'.nx→m≤st'.nx→Q ex.out a' w')→(Code.rangeFunc g ps0 as bd).wpIn (FW none) fu P Q a w:=by
      intro k st σ e R hF hm hK
      cases k with
      | zero => simp [exec] at e
      | succ k => exact rfn_sound RS hrc hrcf hits.1 (by simpa only [exec] using e) R hF hm hK
     unfold withCo at e
     split at e
     ·exact main (n + 1) st σ e R hF hm hK
     ·simp only [exec] at e
      obtain ⟨σ1,R1,h1,h2,h3⟩:=coSts_sound (m:=m) cs R hF hm
      exact main n _ σ1 e R1 h2 h3 fun σ' a' w' q1 q2 q3 q4 => hK σ' a' w' q1 (fun b hb => by rw [q2 b hb,h1 b hb]) q3 q4
  | exit id =>
   simp only [compC] at hc
   injection hc with hc; injection hc with hc1 hc2; subst hc1
   simp only [exec] at e
   injection e with e; injection e with e1 e2; subst e1; subst e2
   exact wpIn_exit (hK σ a w R (fun _ _ => rfl) hF hm)
  | ret =>
   simp only [compC] at hc
   injection hc with hc; injection hc with hc1 hc2; subst hc1
   simp only [exec] at e
   injection e with e; injection e with e1 e2; subst e1; subst e2
   exact wpIn_ret (hK σ a w R (fun _ _ => rfl) hF hm)
  | _ =>
   simp [compC] at hc
   rw [← hc.1] at e
   simp [exec] at e
end
end Go.Vai
