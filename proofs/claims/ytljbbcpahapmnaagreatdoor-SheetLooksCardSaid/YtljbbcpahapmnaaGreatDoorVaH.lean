/-
  A part of the abstract run of Go functions and of the proof that it tells the truth.
-/
import Derived.Test.YtljbbcpahapmnaaGreatDoorVaFs
set_option linter.unusedVariables false
set_option linter.unusedSimpArgs false
namespace Go.Vai
variable {P:Program} {C:Ctx} {σ:Nat→Option Loc} {w:World} {a:Act} {nm:Nat}
theorem isByte_inv {e:TypeId} (h:isByte P e=true):P.underlying e=some (.int .u8):=by
 unfold isByte at h
 split at h
 ·assumption
 ·cases h
theorem heap_slca_ok {hp:HW} {sl:List (Nat × AV)} {t e:TypeId} {n:Nat} {x:Operand} {lo hi mx:Option Operand} {b:Nat} {cs:List AV} {es:List (List FV)} {l h:Int} (ht:P.underlying t=some (.array n e)) (he:sizeC P e=some 1) (hm:mx.isNone=true) (H:Sl C.G σ (frz (hk hp) σ C.X w) sl a) (R:HRel C σ (hk hp) w) (hn:σ nm=none)
 (h1:loI (LX.av C.G sl) (lo.map compX)=some l) (h2:hiI (LX.av C.G sl) n (hi.map compX)=some h) (hx:LX.av C.G sl (compX x)=.bp b 0) (hb:hk hp b=some (.box cs)) (hes:boxFV cs=some es) (hc:cs.length=n∧0≤l∧l≤h∧h≤n) :
 HeapOk P C σ hp a w nm (.slice t x lo hi mx) (.osl nm 1 l.toNat (h - l).toNat) [(nm,some (.arr 1 es)),(b,none)]:=by
 obtain rfl:mx=none:=by simpa using hm
 obtain ⟨c1,c2,c3,c4⟩:=hc
 have hv:=H.av x
 rw [hx] at hv
 obtain ⟨k,n',hσ,hev⟩:=hv.bp_inv
 have hn':n'=n:=by
  cases R.bk b _ hb with
  | box _ k1 cc ty z g1 g2 g3 g4 g5 =>
   rw [hσ] at g1
   injection g1 with g1; injection g1 with q1 q2 q3 q4
   omega
 subst hn'
 obtain ⟨g1,g2⟩:=R.unbox hb hσ hn hes
 have hbd:(Instr.sliceBounds false n' n' (lo.map a.eval) (hi.map a.eval) none).run P w=.ok (l.toNat,h.toNat,n') w:=by
  cases hi with
  | none =>
   simp only [hiI,Option.map_none] at h2
   injection h2 with h2
   have:=run_bounds (P:=P) H (lo:=lo) (hi:=none) (l:=l) (hh:=none) h1 rfl false n' n' c2 (by simpa using (by omega:l≤(n':Int))) (by simp) (Nat.le_refl _) w
   simp only [Option.getD_none,Int.toNat_natCast] at this
   rw [this]
   have:h.toNat=n':=by omega
   rw [this]
  | some y =>
   have h2':(match (some y:Option Operand).map compX with | none => some none | some y => (intOf' (LX.av C.G sl y)).map some)=some (some h):=by
    simp only [hiI,Option.map_some] at h2 ⊢
    rw [h2]; rfl
   have:=run_bounds (P:=P) H (lo:=lo) (hi:=some y) (l:=l) (hh:=some h) h1 h2' false n' n' c2 (by simpa using c3) (by simpa using c4) (Nat.le_refl _) w
   simpa using this
 refine ⟨.slice (some (if n'=l.toNat then ⟨k,0,none⟩ else Addr.add ⟨k,0,none⟩ (l.toNat * 1))) (h.toNat - l.toNat) (n' - l.toNat),upd σ nm (some (.here k 0 n' 1)),w,fun ob ho => .inl ?_,?_,?_,SLe.upd hn _,?_,upd_none⟩
 ·simp only [execOp,ho,Instr.sliceAt,Sem.run_bind,run_und ht,Result.andThen_ok,hev,Instr.sureAddr,Sem.run_pure,Option.map_none,hbd,run_size he]
 ·have hlen:h.toNat - l.toNat=(h - l).toNat:=by omega
  rw [hlen]
  refine .osl nm 1 l.toNat (h - l).toNat k 0 n' _ (n' - l.toNat) (upd_same _ _ _) (by omega) ?_ (by omega)
  by_cases hz:n'=l.toNat
  ·exact .inl (by omega)
  ·refine .inr ?_
   rw [if_neg hz]
   simp [Addr.add]
   omega
 ·simp only [List.cons_append,List.nil_append,hk_cons]; exact g1
 ·simp only [List.cons_append,List.nil_append,hk_cons]; exact g2
theorem heap_clr_ok {t e:TypeId} {sz b off len:Nat} {z:List Value} {x:Operand} {xs:Array Operand} {ts:Array TypeId} {hp:HW} {sl:List (Nat × AV)} {es:List (List FV)} (hxs:xs.toList=[x]) (hts:ts.toList=[t]) (ht:P.underlying t=some (.slice e)) (hz:zeroC P e=some z) (hzl:z.length=sz) (H:Sl C.G σ (frz (hk hp) σ C.X w) sl a) (R:HRel C σ (hk hp) w)
 (hx:LX.av C.G sl (compX x)=.osl b sz off len) (hb:hk hp b=some (.arr sz es)) (hle:off + len≤es.length) :
 HeapOk P C σ hp a w nm (.call { callee:=.builtin .clear,args:=xs,argTypes:=ts }) .dead [(b,some (.arr sz (setAt es off (List.replicate len (z.map cellFV)))))]:=by
 obtain rfl:xs = #[x]:=by apply Array.ext'; simpa using hxs
 obtain rfl:ts = #[t]:=by apply Array.ext'; simpa using hts
 obtain ⟨zv,hzc,hzl2,hzr⟩:=zeroC_inv hz
 have hv:=H.av x
 rw [hx] at hv
 by_cases hl0:len=0
 ·subst hl0
  have : ∃ A cap,a.eval x=.slice A 0 cap:=by
   rcases hv.osl_inv with ⟨_,_,A,e1⟩ | ⟨k,d,n,A,cap,_,_,_,_,e1⟩
   ·exact ⟨A,0,e1⟩
   ·exact ⟨some A,cap,e1⟩
  obtain ⟨A,cap,e1⟩:=this
  have hup:upd (hk hp) b (some (.arr sz (setAt es off (List.replicate 0 (z.map cellFV)))))=hk hp:=by
   funext i
   by_cases hi:i=b
   ·subst hi; rw [upd_same,hb]; simp [setAt]
   ·rw [upd_ne _ _ hi]
  refine ⟨.tuple #[],σ,w,fun ob ho => .inl ?_,.dead _,?_,SLe.refl _,?_,fun _ _ h => h⟩
  ·simp only [execOp,ho,resolve,invoke,Sem.run_bind,Sem.run_pure,Result.andThen_ok,builtin,Builtin.clear_]
   cases A <;> simp [Sem.run_bind,run_und ht,e1]
  ·simp only [List.cons_append,List.nil_append,hk_cons,hup]; exact R
  ·simp only [List.cons_append,List.nil_append,hk_cons,hup]; exact HLe.refl _
 ·rcases hv.osl_inv with ⟨_,h0,_⟩ | ⟨k,d,n,A,cap,hσ,h1,h2,h3,e1⟩
  ·omega
  ·have hA:=h2.resolve_left (by omega)
   subst hA
   subst hzl
   have F:=FlatR.zeros (h:=frz (hk hp) σ C.X w) z hzl2 len
   have hmul:len * z.length≤cap * z.length:=Nat.mul_le_mul_right _ h1
   obtain ⟨w',q1,q2,q3,q4⟩:=R.overwrite (P:=P) (off:=off) (xs:=List.replicate len (z.map cellFV)) hb hσ F (by rw [F.len]; simp; omega) (by omega) (setAt_cases (by simpa using hle))
   refine ⟨.tuple #[],σ,w',fun ob ho => .inl ?_,.dead _,?_,SLe.refl _,?_,fun _ _ h => h⟩
   ·have hst:=q1 ⟨k,d + off * z.length,none⟩ (.inl rfl)
    have hzz:(Builtin.zeroCells z.toArray len).toList=(List.range (len * z.length)).map fun i => z.getD (i % z.length) default:=by
     unfold Builtin.zeroCells
     have:=zeros_arr z len
     simp only [List.size_toArray] at this ⊢
     have h9 : ∀ n,n=len * z.length→((Array.range n).map fun i => z.toArray[i % z.length]!)=((List.range (len * z.length)).map fun i => z.getD (i % z.length) default).toArray:=by
      rintro n rfl
      apply Array.ext'
      simp [getElem!_def,List.getD]
      intro i hi
      cases z[i % z.length]? <;> rfl
     rw [h9 _ rfl]
    generalize (List.range (len * z.length)).map (fun i => z.getD (i % z.length) default)=us at hst hzz
    simp only [execOp,ho,resolve,invoke,Sem.run_bind,Sem.run_pure,Result.andThen_ok,builtin,Builtin.clear_]
    cases len with
    | zero => exact absurd rfl hl0
    | succ len => simp [Sem.run_bind,run_und ht,e1,hzr,hzc,hzz,hst]
   ·simp only [List.cons_append,List.nil_append,hk_cons]; exact q3
   ·simp only [List.cons_append,List.nil_append,hk_cons]; exact q4
theorem heap_sound {op : Op} {l : LOp} {st : St} {rf : RF} {v : AV} {ws : HW} {nn : Nat} (hc : compOp P op = some l) (hh : l.isHeap = true) (hnc : l.isCall = false) (H : Sl C.G σ (frz (hk st.hp) σ C.X w) st.sl a) (R : HRel C σ (hk st.hp) w) (hn : σ nm = none)
 (e:heapOp rf (LX.av C.G st.sl) nm st l=some (v,ws,nn)):HeapOk P C σ st.hp a w nm op v ws∧nn=0:=by
 obtain ⟨sl,hp,nx⟩:=st
 cases op with
 | move x => simp only [compOp] at hc; injection hc with hc; subst hc; simp [LOp.isHeap] at hh
 | assign x => simp only [compOp] at hc; injection hc with hc; subst hc; simp [LOp.isHeap] at hh
 | pick c x y => simp only [compOp] at hc; injection hc with hc; subst hc; simp [LOp.isHeap] at hh
 | alloc e0 =>
  simp only [compOp] at hc
  split at hc
  ·rename_i u hu
   injection hc with hc; subst hc
   simp only [heapOp] at e
   injection e with e; injection e with e1 e2; injection e2 with e2 e3
   subst e1; subst e2; subst e3
   exact ⟨heap_abld_ok hu R hn,rfl⟩
  ·obtain ⟨z,hz,rfl⟩:=Option.map_eq_some_iff.1 hc
   simp only [heapOp] at e
   injection e with e; injection e with e1 e2; injection e2 with e2 e3
   subst e1; subst e2; subst e3
   exact ⟨heap_alloc_ok hz R hn,rfl⟩
 | box e0 x =>
  simp only [compOp] at hc
  injection hc with hc; subst hc
  simp only [heapOp] at e
  split at e
  ·rename_i l hl
   injection e with e; injection e with e1 e2; injection e2 with e2 e3
   subst e1; subst e2; subst e3
   exact ⟨heap_box_ok H hl R hn,rfl⟩
  ·cases e
 | load t x =>
  simp only [compOp] at hc
  obtain ⟨g,hg,rfl⟩:=Option.map_eq_some_iff.1 hc
  simp only [heapOp] at e
  by_cases hrw : ∃ b i f sz es,LX.av C.G sl (compX x)=.ep b i f∧hk hp b=some (.row sz es)
  ·obtain ⟨b,i,f,sz,es,hx,hb⟩:=hrw
   simp only [hx,hb] at e
   split at e
   ·rename_i c hc
    split at e
    ·rename_i y hy
     split at e
     ·rename_i hok
      injection e with e; injection e with e1 e2; injection e2 with e2 e3
      subst e1; subst e2; subst e3
      exact ⟨heap_load_row_ok hg H R hx hb hc hy hok,rfl⟩
     ·cases e
    ·cases e
   ·cases e
  have : ws = [] ∧ nn = 0 ∧ (match LX.av C.G sl (compX x) with
   | .bp b o => match hk hp b with
    | some (.box cs) => loadC g cs o
    | _ => none
   | .ep b i f => match hk hp b with
    | some (.arr _ es) => match es[i]? with
     | some c => loadC g (c.map .fz) f
     | none => none
    | _ => none
   | .fp c f => loadC g (c.map .fz) f
   | _ => none)=some v:=by
   split at e
   ·rename_i b o hx
    split at e
    ·rename_i cs hb
     split at e
     ·rename_i y hy
      injection e with e; injection e with e1 e2; injection e2 with e2 e3
      subst e1; subst e2; subst e3
      exact ⟨rfl,rfl,by simp [hx,hb,hy]⟩
     ·cases e
    ·cases e
   ·rename_i b i f hx
    split at e
    ·rename_i s es hb
     split at e
     ·rename_i c he
      split at e
      ·rename_i y hy
       injection e with e; injection e with e1 e2; injection e2 with e2 e3
       subst e1; subst e2; subst e3
       exact ⟨rfl,rfl,by simp [hx,hb,he,hy]⟩
      ·cases e
     ·cases e
    ·rename_i s es hb
     exact absurd ⟨b,i,f,s,es,hx,hb⟩ hrw
    ·cases e
   ·rename_i c f hx
    split at e
    ·rename_i y hy
     injection e with e; injection e with e1 e2; injection e2 with e2 e3
     subst e1; subst e2; subst e3
     exact ⟨rfl,rfl,by simp [hx,hy]⟩
    ·cases e
   ·cases e
  obtain ⟨rfl,rfl,h⟩:=this
  exact ⟨heap_load_ok hg H R h,rfl⟩
 | store t x y =>
  simp only [compOp] at hc
  split at hc
  ·rename_i n hnn
   ·injection hc with hc; subst hc
    simp only [heapOp] at e
    split at e
    ·rename_i l hl
     split at e
     ·rename_i hlen
      split at e
      ·rename_i b o hx
       split at e
       ·rename_i cs hb
        split at e
        ·rename_i hle
         injection e with e; injection e with e1 e2; injection e2 with e2 e3
         subst e1; subst e2; subst e3
         exact ⟨heap_store_box hnn H R hx hl hlen.1 hlen.2 hb hle,rfl⟩
        ·cases e
       ·cases e
      ·rename_i b i f hx
       split at e
       ·rename_i s es hb
        split at e
        ·rename_i c he
         split at e
         ·rename_i hle
          injection e with e; injection e with e1 e2; injection e2 with e2 e3
          subst e1; subst e2; subst e3
          exact ⟨heap_store_row_ok hnn H R hx hl hlen.1 hlen.2 hle.1 hb he hle.2,rfl⟩
         ·cases e
        ·cases e
       ·split at e
        ·rename_i ys w1 hy
         split at e
         ·rename_i s es hb
          split at e
          ·rename_i c he
           split at e
           ·rename_i hle
            injection e with e; injection e with e1 e2; injection e2 with e2 e3
            subst e1; subst e2; subst e3
            exact ⟨heap_store_arr hnn hle.1 H R hx hl hlen.1 hlen.2 hy hb he hle.2,rfl⟩
           ·cases e
          ·cases e
         ·cases e
        ·cases e
      ·cases e
     ·cases e
    ·cases e
  ·cases hc
 | binOp op t x y yt =>
  simp only [compOp,compBin] at hc
  split at hc
  ·injection hc with hc; subst hc; simp [LOp.isHeap] at hh
  ·injection hc with hc; subst hc; simp [LOp.isHeap] at hh
  ·split at hc
   ·injection hc with hc; subst hc; simp [LOp.isHeap] at hh
   ·split at hc
    ·injection hc with hc; subst hc; simp [LOp.isHeap] at hh
    ·cases hc
  ·split at hc
   ·split at hc
    ·split at hc
     ·injection hc with hc; subst hc; simp [LOp.isHeap] at hh
     ·split at hc
      ·injection hc with hc; subst hc; simp [LOp.isHeap] at hh
      ·cases hc
    ·cases hc
   ·cases hc
  ·unfold compNil at hc
   split at hc
   ·split at hc
    ·injection hc with hc; subst hc; simp [LOp.isHeap] at hh
    ·split at hc
     ·injection hc with hc; subst hc; simp [LOp.isHeap] at hh
     ·cases hc
   ·split at hc
    ·split at hc
     ·injection hc with hc; subst hc; simp [LOp.isHeap] at hh
     ·split at hc
      ·injection hc with hc; subst hc; simp [LOp.isHeap] at hh
      ·cases hc
    ·cases hc
  ·cases hc
 | unOp op t x => simp only [compOp] at hc; injection hc with hc; subst hc; simp [LOp.isHeap] at hh
 | convert s d x =>
  simp only [compOp,compConv] at hc
  split at hc
  ·injection hc with hc; subst hc; simp [LOp.isHeap] at hh
  ·injection hc with hc; subst hc; simp [LOp.isHeap] at hh
  ·injection hc with hc; subst hc; simp [LOp.isHeap] at hh
  ·rename_i e0 hs hd
   split at hc
   ·rename_i hb
    injection hc with hc; subst hc
    simp only [heapOp] at e
    split at e
    ·rename_i q hq
     injection e with e; injection e with e1 e2; injection e2 with e2 e3
     subst e1; subst e2; subst e3
     have hr:=H.av x
     rw [hq] at hr
     exact ⟨heap_s2b_ok hs hd (isByte_inv hb) hr.sc_inv R hn,rfl⟩
    ·cases e
   ·cases hc
  ·rename_i e0 hs hd
   split at hc
   ·rename_i hb
    injection hc with hc; subst hc
    simp only [heapOp] at e
    split at e
    ·rename_i es hes
     split at e
     ·rename_i l hl
      injection e with e; injection e with e1 e2; injection e2 with e2 e3
      subst e1; subst e2; subst e3
      exact ⟨heap_b2s_ok hs (isByte_inv hb) hd H R hes hl,rfl⟩
     ·cases e
    ·cases e
   ·cases hc
  ·rename_i e0 e1 hs hd
   split at hc
   ·rename_i hb
    injection hc with hc; subst hc
    obtain ⟨rfl,hb⟩:=hb
    simp only [heapOp] at e
    split at e
    ·rename_i b sz off len hx
     split at e
     ·rename_i s es hbk
      split at e
      ·rename_i hpos
       injection e with e; injection e with e1 e2; injection e2 with e2 e3
       subst e1; subst e2; subst e3
       exact ⟨heap_cv2_ok hd (isByte_inv hb) H R hx hbk hpos,rfl⟩
      ·cases e
     ·cases e
    ·cases e
   ·cases hc
  ·cases hc
 | makeSlice t x y =>
  simp only [compOp] at hc
  split at hc
  ·rename_i e0 ht
   split at hc
   ·rename_i i z hi hz
    split at hc
    ·rename_i hcc
     injection hc with hc; subst hc
     simp only [heapOp] at e
     split at e
     ·rename_i k1 n k2 m hl hm
      split at e
      ·rename_i hb
       injection e with e; injection e with e1 e2; injection e2 with e2 e3
       subst e1; subst e2; subst e3
       have hr1:=H.av x
       have hr2:=H.av y
       rw [hl] at hr1
       rw [hm] at hr2
       exact ⟨heap_mks_ok ht hi hz hcc hr1.sc_inv hr2.sc_inv hb R hn,rfl⟩
      ·cases e
     ·cases e
    ·cases hc
   ·cases hc
  ·cases hc
 | slice t x lo hi mx =>
  simp only [compOp] at hc
  split at hc
  ·split at hc
   ·injection hc with hc; subst hc; simp [LOp.isHeap] at hh
   ·cases hc
  ·split at hc
   ·split at hc
    ·injection hc with hc; subst hc; simp [LOp.isHeap] at hh
    ·cases hc
   ·cases hc
  ·rename_i n0 e0 ht
   split at hc
   ·rename_i hcc
    injection hc with hc; subst hc
    simp only [heapOp] at e
    split at e
    ·rename_i l h h1 h2
     split at e
     ·rename_i b hx
      split at e
      ·rename_i cs hbx
       split at e
       ·rename_i es hes
        split at e
        ·rename_i hb
         injection e with e; injection e with e1 e2; injection e2 with e2 e3
         subst e1; subst e2; subst e3
         exact ⟨heap_slca_ok ht hcc.1 hcc.2 H R hn h1 h2 hx hbx hes hb,rfl⟩
        ·cases e
       ·cases e
      ·cases e
     ·cases e
    ·cases e
   ·cases hc
  ·cases hc
 | fieldAddr s x k =>
  simp only [compOp] at hc
  split at hc
  ·split at hc
   ·split at hc
    ·split at hc
     ·injection hc with hc; subst hc; simp [LOp.isHeap] at hh
     ·cases hc
    ·cases hc
   ·cases hc
  ·cases hc
 | field s x k =>
  simp only [compOp] at hc
  split at hc
  ·split at hc
   ·obtain ⟨g,hg,rfl⟩:=Option.map_eq_some_iff.1 hc
    simp [LOp.isHeap] at hh
   ·cases hc
  ·cases hc
 | indexAddr t x i =>
  simp only [compOp] at hc
  split at hc
  ·split at hc
   ·split at hc
    ·injection hc with hc; subst hc; simp [LOp.isHeap] at hh
    ·cases hc
   ·cases hc
  ·split at hc
   ·split at hc
    ·injection hc with hc; subst hc; simp [LOp.isHeap] at hh
    ·cases hc
   ·cases hc
  ·cases hc
 | index t x i =>
  simp only [compOp] at hc
  split at hc
  ·injection hc with hc; subst hc; simp [LOp.isHeap] at hh
  ·split at hc
   ·injection hc with hc; subst hc; simp [LOp.isHeap] at hh
   ·cases hc
  ·cases hc
 | extract x i => simp only [compOp] at hc; injection hc with hc; subst hc; simp [LOp.isHeap] at hh
 | makeFunc fn first caps =>
  cases fn with
  | func f =>
   obtain ⟨first⟩:=first
   cases first with
   | nil => simp only [compOp] at hc; injection hc with hc; subst hc; simp [LOp.isHeap] at hh
   | cons =>
    obtain ⟨caps⟩:=caps
    cases caps with
    | nil => simp only [compOp] at hc; injection hc with hc; subst hc; simp [LOp.isHeap] at hh
    | cons => simp [compOp] at hc
  | _ => simp [compOp] at hc
 | nilCheck x => simp only [compOp] at hc; injection hc with hc; subst hc; simp [LOp.isHeap] at hh
 | build t ps =>
  simp only [compOp] at hc
  split at hc
  ·split at hc
   ·obtain ⟨g,hg,rfl⟩:=Option.map_eq_some_iff.1 hc
    simp [LOp.isHeap] at hh
   ·cases hc
  ·split at hc
   ·obtain ⟨g,hg,rfl⟩:=Option.map_eq_some_iff.1 hc
    simp [LOp.isHeap] at hh
   ·cases hc
  ·cases hc
 | buildSlice t n ps =>
  simp only [compOp] at hc
  split at hc
  ·rename_i e0 ht
   split at hc
   ·rename_i sz z hs hz
    split at hc
    ·rename_i hcc
     injection hc with hc; subst hc
     simp only [heapOp] at e
     split at e
     ·rename_i es w1 hb
      injection e with e; injection e with e1 e2; injection e2 with e2 e3
      subst e1; subst e2; subst e3
      exact ⟨heap_bsl_ok ht hs hz hcc H R hn hb,rfl⟩
     ·cases e
    ·cases hc
   ·cases hc
  ·cases hc
 | call c =>
  obtain ⟨callee,xs,ts⟩:=c
  cases callee with
  | value f => simp only [compOp] at hc; injection hc with hc; subst hc; simp [LOp.isCall] at hnc
  | invoke r m => simp only [compOp] at hc; injection hc with hc; subst hc; simp [LOp.isCall] at hnc
  | builtin b =>
   simp only [compOp] at hc
   unfold compBuiltin at hc
   split at hc
   ·split at hc
    ·injection hc with hc; subst hc; simp [LOp.isHeap] at hh
    ·injection hc with hc; subst hc; simp [LOp.isHeap] at hh
    ·injection hc with hc; subst hc; simp [LOp.isHeap] at hh
    ·split at hc
     ·injection hc with hc; subst hc; simp [LOp.isHeap] at hh
     ·cases hc
    ·cases hc
   ·injection hc with hc; subst hc; simp [LOp.isHeap] at hh
   ·injection hc with hc; subst hc; simp [LOp.isHeap] at hh
   ·rename_i t u s x ets exs
    split at hc
    ·rename_i e0 ht
     split at hc
     ·rename_i e' i hu hi
      split at hc
      ·rename_i hcc
       injection hc with hc; subst hc
       obtain ⟨z,hz,hzl⟩:=Option.map_eq_some_iff.1 hcc.2.2
       cases hir:isRow hp (LX.av C.G sl (compX x)) with
       | none => exact heap_app_ok exs ets ht (.inl ⟨rfl,e',hu⟩) hi hz hzl hcc.2.1 H R hn hir e
       | some q =>
        obtain ⟨bx,er⟩:=q
        simp only [heapOp,hir,Bool.false_eq_true,if_false] at e
        exact heap_rapp_ok exs ets ht ⟨e',hu⟩ hi hz hzl hcc.2.1 H R hn hir e
      ·cases hc
     ·rename_i i hu hi
      split at hc
      ·rename_i hcc
       injection hc with hc; subst hc
       obtain ⟨z,hz,hzl⟩:=Option.map_eq_some_iff.1 hcc.2.2
       cases hir:isRow hp (LX.av C.G sl (compX x)) with
       | none => exact heap_app_ok exs ets ht (.inr ⟨rfl,hcc.1,hu⟩) hi hz hzl hcc.2.1 H R hn hir e
       | some q =>
        simp only [heapOp,hir,if_true] at e
        cases e
      ·cases hc
     ·cases hc
    ·cases hc
   ·rename_i t u d x ets exs
    split at hc
    ·rename_i e0 ht
     split at hc
     ·rename_i n hs
      split at hc
      ·injection hc with hc; subst hc
       simp only [heapOp] at e
       split at e
       ·rename_i ex hex
        split at e
        ·rename_i b sz' off len hd
         split at e
         ·rename_i sz2 es hb
          split at e
          ·rename_i hcc
           obtain ⟨rfl,rfl,hle⟩:=hcc
           injection e with e; injection e with e1 e2; injection e2 with e2 e3
           subst e1; subst e2; subst e3
           exact ⟨heap_cpy_ok exs ets ht hs H R hex hd hb hle,rfl⟩
          ·cases e
         ·cases e
        ·cases e
       ·cases e
      ·cases hc
     ·cases hc
    ·cases hc
   ·rename_i t x ets exs
    split at hc
    ·rename_i e0 ht
     split at hc
     ·rename_i n z hs hz
      split at hc
      ·rename_i hcc
       injection hc with hc; subst hc
       simp only [heapOp] at e
       split at e
       ·rename_i b sz' off len hx
        split at e
        ·rename_i sz2 es hb
         split at e
         ·rename_i hle
          obtain ⟨rfl,rfl,hle⟩:=hle
          injection e with e; injection e with e1 e2; injection e2 with e2 e3
          subst e1; subst e2; subst e3
          exact ⟨heap_clr_ok exs ets ht hz hcc.2 H R hx hb hle,rfl⟩
         ·cases e
        ·cases e
       ·cases e
      ·cases hc
     ·cases hc
    ·cases hc
   ·rename_i t u m k ets exs
    split at hc
    ·rename_i q hq
     injection hc with hc; subst hc
     obtain ⟨q,et⟩:=q
     exact heap_mdel_ok (st:=⟨sl,hp,nx⟩) exs ets rfl hq H R e
    ·cases hc
   ·cases hc
 | makeInterface t x =>
  simp only [compOp] at hc
  split at hc
  ·injection hc with hc; subst hc; simp [LOp.isHeap] at hh
  ·cases hc
 | typeAssert x xt t ok =>
  cases ok with
  | false => simp [compOp] at hc
  | true =>
   simp only [compOp] at hc
   split at hc
   ·split at hc
    ·injection hc with hc; subst hc; simp [LOp.isHeap] at hh
    ·cases hc
   ·cases hc
 | makeMap t r =>
  cases r with
  | none =>
   simp only [compOp] at hc
   injection hc with hc; subst hc
   simp only [heapOp] at e
   injection e with e; injection e with e1 e2; injection e2 with e2 e3
   subst e1; subst e2; subst e3
   exact ⟨heap_mkm_ok R hn,rfl⟩
  | some r => simp [compOp] at hc
 | insert t m k x =>
  simp only [compOp] at hc
  obtain ⟨⟨q,et⟩,hq,rfl⟩:=Option.map_eq_some_iff.1 hc
  exact heap_mset_ok (st:=⟨sl,hp,nx⟩) (.inr rfl) rfl hq H R e
 | mapUpdate t m k x =>
  simp only [compOp] at hc
  obtain ⟨⟨q,et⟩,hq,rfl⟩:=Option.map_eq_some_iff.1 hc
  exact heap_mset_ok (st:=⟨sl,hp,nx⟩) (.inl rfl) rfl hq H R e
 | range t m =>
  simp only [compOp] at hc
  obtain ⟨⟨q,et⟩,hq,rfl⟩:=Option.map_eq_some_iff.1 hc
  exact heap_mrng_ok (st:=⟨sl,hp,nx⟩) rfl hq H R hn e
 | entry it =>
  simp only [compOp] at hc
  injection hc with hc; subst hc
  exact heap_ment_ok (st:=⟨sl,hp,nx⟩) rfl H R e
 | lookup t m k c =>
  simp only [compOp] at hc
  split at hc
  ·rename_i q et hq
   obtain ⟨z,hz,rfl⟩:=Option.map_eq_some_iff.1 hc
   exact heap_mget_ok (st:=⟨sl,hp,nx⟩) rfl hq hz H R e
  ·cases hc
 | next it s =>
  cases s with
  | false => simp only [compOp] at hc; injection hc with hc; subst hc; simp [LOp.isHeap] at hh
  | true => simp [compOp] at hc
 | _ => simp [compOp] at hc
theorem heap_sound_var {op : Op} {l l0 : LOp} {st : St} {rf : RF} {v : AV} {ws : HW} {nn : Nat} (hc : compOp P op = some l0) (hv : l = l0 ∨ l = varOp l0) (hh : l.isHeap = true) (hnc : l.isCall = false) (hnl : ∀ f xs, l ≠ .lcall f xs) (H : Sl C.G σ (frz (hk st.hp) σ C.X w) st.sl a) (R : HRel C σ (hk st.hp) w) (hn : σ nm = none)
 (e:heapOp rf (LX.av C.G st.sl) nm st l=some (v,ws,nn)):HeapOk P C σ st.hp a w nm op v ws∧nn=0:=by
 have base:l=l0→HeapOk P C σ st.hp a w nm op v ws∧nn=0:=fun h => by
  subst h; exact heap_sound hc hh hnc H R hn e
 rcases hv with h | h
 ·exact base h
 subst h
 have h0:=hc
 cases op with
 | load t x =>
  simp only [compOp] at hc
  obtain ⟨g,hg,rfl⟩:=Option.map_eq_some_iff.1 hc
  cases g with
  | some n => exact base rfl
  | none =>
   simp only [varOp,heapOp] at e
   split at e
   ·rename_i b i f hx
    split at e
    ·rename_i sz es hb
     split at e
     ·rename_i c hcc
      split at e
      ·rename_i sz' ys hy
       injection e with e; injection e with e1 e2; injection e2 with e2 e3
       subst e1; subst e2; subst e3
       exact ⟨heap_loadr_ok hg H R hn hx hb hcc hy,rfl⟩
      ·rename_i y _ hy
       split at e
       ·rename_i hok
        injection e with e; injection e with e1 e2; injection e2 with e2 e3
        subst e1; subst e2; subst e3
        exact ⟨heap_load_row_ok hg H R hx hb hcc hy hok,rfl⟩
       ·cases e
      ·cases e
     ·cases e
    ·cases e
   ·cases e
 | buildSlice t n ps =>
  simp only [compOp] at hc
  split at hc
  ·rename_i e0 ht
   split at hc
   ·rename_i sz z hs hz
    split at hc
    ·rename_i hcc
     injection hc with hc; subst hc
     simp only [varOp,heapOp] at e
     split at e
     ·rename_i es hb
      injection e with e; injection e with e1 e2; injection e2 with e2 e3
      subst e1; subst e2; subst e3
      exact ⟨heap_bslr_ok ht hs hz hcc H R hn hb,rfl⟩
     ·cases e
    ·cases hc
   ·cases hc
  ·cases hc
 | makeSlice t x y =>
  simp only [compOp] at hc
  split at hc
  ·rename_i e0 ht
   split at hc
   ·rename_i i z hi hz
    split at hc
    ·rename_i hcc
     injection hc with hc; subst hc
     simp only [varOp,heapOp] at e
     split at e
     ·rename_i k1 n k2 m hl hm
      split at e
      ·rename_i hb
       injection e with e; injection e with e1 e2; injection e2 with e2 e3
       subst e1; subst e2; subst e3
       have hr1:=H.av x
       have hr2:=H.av y
       rw [hl] at hr1
       rw [hm] at hr2
       exact ⟨heap_mksr_ok ht hi hz hcc hr1.sc_inv hr2.sc_inv hb R hn,rfl⟩
      ·cases e
     ·cases e
    ·cases hc
   ·cases hc
  ·cases hc
 | call c =>
  obtain ⟨callee,xs,ts⟩:=c
  cases callee with
  | value f => simp only [compOp] at hc; injection hc with hc; subst hc; exact absurd rfl (hnl _ _)
  | invoke r m => simp only [compOp] at hc; injection hc with hc; subst hc; simp [varOp,LOp.isCall] at hnc
  | builtin b =>
   refine base ?_
   simp only [compOp] at hc
   unfold compBuiltin at hc
   repeat' (first | (cases hc; done) | (injection hc with hc; subst hc; rfl) | split at hc)
 | binOp op t x y yt =>
  refine base ?_
  simp only [compOp,compBin,compNil] at hc
  repeat' (first | (cases hc; done) | (injection hc with hc; subst hc; rfl) | split at hc)
 | convert s d x =>
  refine base ?_
  simp only [compOp,compConv] at hc
  repeat' (first | (cases hc; done) | (injection hc with hc; subst hc; rfl) | split at hc)
 | makeFunc fn first caps =>
  refine base ?_
  cases fn with
  | func f =>
   obtain ⟨first⟩:=first
   cases first with
   | nil => simp only [compOp] at hc; injection hc with hc; subst hc; rfl
   | cons =>
    obtain ⟨caps⟩:=caps
    cases caps with
    | nil => simp only [compOp] at hc; injection hc with hc; subst hc; rfl
    | cons => simp [compOp] at hc
  | _ => simp [compOp] at hc
 | typeAssert x xt t ok =>
  refine base ?_
  cases ok with
  | false => simp [compOp] at hc
  | true =>
   simp only [compOp] at hc
   repeat' (first | (cases hc; done) | (injection hc with hc; subst hc; rfl) | split at hc)
 | makeMap t r =>
  refine base ?_
  cases r with
  | none => simp only [compOp] at hc; injection hc with hc; subst hc; rfl
  | some r => simp [compOp] at hc
 | next it s =>
  refine base ?_
  cases s with
  | false => simp only [compOp] at hc; injection hc with hc; subst hc; rfl
  | true => simp [compOp] at hc
 | _ =>
  refine base ?_
  simp only [compOp] at hc
  repeat' (first | (cases hc; done) | (obtain ⟨z,_,rfl⟩:=Option.map_eq_some_iff.1 hc; rfl) | (injection hc with hc; subst hc; rfl) | split at hc)
end Go.Vai
