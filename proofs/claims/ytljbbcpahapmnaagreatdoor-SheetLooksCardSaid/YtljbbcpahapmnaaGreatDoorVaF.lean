/-
  A part of the abstract run of Go functions and of the proof that it tells the truth.
-/
import Derived.Test.YtljbbcpahapmnaaGreatDoorVaE
set_option linter.unusedVariables false
set_option linter.unusedSimpArgs false
namespace Go.Vai
variable {P:Program} {C:Ctx} {σ:Nat→Option Loc} {w:World} {hp:HW} {a:Act} {nm:Nat} {sl:List (Nat × AV)}
theorem CellsAt.heap {w w2:World} (e:w2.heap=w.heap) {k o:Nat} {us:List Value} (h:CellsAt w k o us):CellsAt w2 k o us:=by
 intro j u hj
 have:=h j u hj
 unfold World.cell? at this ⊢
 rw [e]; exact this
theorem firstCells_any {A:Option Addr} {n cap:Nat} {h:PH} {sz:Nat} {es:List (List FV)} (hlen:n≤es.length) (hel:es≠[]→∃ k o,A=some ⟨k,o,none⟩∧ElemsAt w h k o sz es) :
 ∃ us:List Value,us.length=n * sz∧FlatR h sz (es.take n) us∧∀ w2:World,w2.heap=w.heap→(Builtin.firstCells sz n (.slice A es.length cap)).run P w2=.ok us.toArray w2:=by
 by_cases hne:es=[]
 ·subst hne
  have h0:n=0:=by simpa using hlen
  subst h0
  refine ⟨[],by simp,⟨by simp,fun i c e => by simp at e,fun i c j x e => by simp at e⟩,fun w2 _ => ?_⟩
  cases A with
  | none => rfl
  | some A => simp [Builtin.firstCells,loadCells,loadCellsFrom]
 ·obtain ⟨k,o,rfl,E⟩:=hel hne
  obtain ⟨us,h1,h2,h3⟩:=elems_cells E n hlen
  refine ⟨us,h1,h3,fun w2 e => ?_⟩
  have:=run_loadCells_at (P:=P) (h2.heap e)
  rw [h1] at this
  exact this
theorem FlatR.append {h:PH} {sz:Nat} {xs ys:List (List FV)} {us vs:List Value} (F:FlatR h sz xs us) (G:FlatR h sz ys vs):FlatR h sz (xs ++ ys) (us ++ vs):=by
 have hu:=F.len
 refine ⟨by simp [F.len,G.len,Nat.add_mul],fun i c e => ?_,fun i c j x e1 e2 => ?_⟩
 ·rw [List.getElem?_append] at e
  split at e
  ·exact F.el _ _ e
  ·exact G.el _ _ e
 ·rw [List.getElem?_append] at e1
  split at e1
  ·rename_i hi
   obtain ⟨v,h1,h2⟩:=F.rel _ _ _ _ e1 e2
   have hlt:=(List.getElem?_eq_some_iff.1 h1).1
   exact ⟨v,by rw [List.getElem?_append_left hlt]; exact h1,h2⟩
  ·rename_i hi
   obtain ⟨v,h1,h2⟩:=G.rel _ _ _ _ e1 e2
   refine ⟨v,?_,h2⟩
   have hge:xs.length * sz≤i * sz:=Nat.mul_le_mul_right _ (by omega)
   have hs:(i - xs.length) * sz=i * sz - xs.length * sz:=Nat.sub_mul _ _ _
   rw [List.getElem?_append_right (by omega),← h1]
   congr 1; omega
structure AppX (P:Program) (w:World) (h:PH) (sz:Nat) (xv:Value) (ex:List (List FV)) (us:List Value):Prop where
 flat:FlatR h sz ex us
 len : ∀ w2:World,(Builtin.lenOf xv).run P w2=.ok ex.length w2
 cells : ∀ w2:World,w2.heap=w.heap→(Builtin.firstCells sz ex.length xv).run P w2=.ok us.toArray w2
theorem zeroCells_size (z:Array Value) (n:Nat):(Builtin.zeroCells z n).size=n * z.size:=by simp [Builtin.zeroCells]
section
variable {t u e:TypeId} {i:TypeInfo} {sz:Nat} {z:List Value} {h:PH} {xv:Value} {ex:List (List FV)} {us:List Value}
theorem run_append_in (ht:P.underlying t=some (.slice e)) (hu:(∃ e',P.underlying u=some (.slice e'))∨P.underlying u=some .string) (hi:P.info? e=some i) (hsz:i.size=sz) (X:AppX P w h sz xv ex us) {B:Option Addr} {n0 cap:Nat} (hneed:n0 + ex.length≤cap) {w':World}
 (hst : ∀ A,B=some A→(storeCells (A.add (n0 * sz)) us).run P w=.ok () w') (hno:B=none→w'=w) (ty:TypeId):(Builtin.append_ #[t,u] ty #[.slice B n0 cap,xv]).run P w=.ok (.slice B (n0 + ex.length) cap) w':=by
 have hs:sizeC P e=some sz:=by simp [sizeC,hi,hsz]
 have hc:=X.cells w rfl
 have hl:=X.len w
 rcases hu with ⟨e',hu⟩ | hu
 ·cases B with
  | none =>
   obtain rfl:=hno rfl
   simp [Builtin.append_,Sem.run_bind,run_und ht,run_und hu,run_size hs,hl,hneed,hc]
  | some A =>
   simp [Builtin.append_,Sem.run_bind,run_und ht,run_und hu,run_size hs,hl,hneed,hc,hst A rfl]
 ·cases B with
  | none =>
   obtain rfl:=hno rfl
   simp [Builtin.append_,Sem.run_bind,run_und ht,run_und hu,run_size hs,hl,hneed,hc]
  | some A =>
   simp [Builtin.append_,Sem.run_bind,run_und ht,run_und hu,run_size hs,hl,hneed,hc,hst A rfl]
theorem run_append_grow (ht:P.underlying t=some (.slice e)) (hu:(∃ e',P.underlying u=some (.slice e'))∨P.underlying u=some .string) (hi:P.info? e=some i) (hsz:i.size=sz) (hz:zeroC P e=some z) (hzl:z.length=sz) (hb0:0 < i.bytes) (X:AppX P w h sz xv ex us) {B:Option Addr} {n0 cap:Nat} (hneed:cap < n0 + ex.length)
 (hb:(n0 + ex.length) * i.bytes≤140737488355328) {us0:List Value} (h0 : ∀ w2:World,w2.heap=w.heap→(Builtin.firstCells sz n0 (.slice B n0 cap)).run P w2=.ok us0.toArray w2) :
 ∃ cap' w1 rest,n0 + ex.length≤cap'∧w1={ w with drawn:=w.drawn + 1 }∧rest.size=(cap' - (n0 + ex.length)) * sz ∧
  ∀ ty,(Builtin.append_ #[t,u] ty #[.slice B n0 cap,xv]).run P w=.ok (.slice (some ⟨w.heap.size,0,none⟩) (n0 + ex.length) cap') (w1.alloc (.cells (us0.toArray ++ us.toArray ++ rest) e)):=by
 have hs:sizeC P e=some sz:=by simp [sizeC,hi,hsz]
 obtain ⟨zv,hzc,_,hzr⟩:=zeroC_inv hz
 have hg:=growslice_fits (bytes:=i.bytes) hneed hb
 have hl:=X.len w
 have hb1:i.bytes≠0:=by omega
 have hng : ¬ (281474976710656 < Builtin.nextslicecap (n0 + ex.length) cap * i.bytes):=by omega
 have c0:=h0 w.drew rfl
 have c1:=X.cells w.drew rfl
 have hcap:n0 + ex.length≤(Question.appendCap (n0 + ex.length) cap e).cut (w.tape w.drawn (.appendCap (n0 + ex.length) cap e)):=by
  simp [Question.cut]
 refine ⟨_,w.drew,Builtin.zeroCells z.toArray ((Question.appendCap (n0 + ex.length) cap e).cut (w.tape w.drawn (.appendCap (n0 + ex.length) cap e)) - (n0 + ex.length)),hcap,rfl,by rw [zeroCells_size]; simp [hzl],fun ty => ?_⟩
 have hnr:=fun c => run_newRow (P:=P) (t:=e) (c:=c) (w:=w.drew)
 have hf:(Question.appendCap (n0 + ex.length) cap e).forced=false:=rfl
 have hd:w.drew.heap=w.heap:=rfl
 rcases hu with ⟨e',hu⟩ | hu
 ·simp [Builtin.append_,Sem.run_bind,run_und ht,run_und hu,run_size hs,hl,show ¬ n0 + ex.length≤cap by omega,run_info hi,hb1,hng,c0,c1,hzr,hzc,hnr,hf,hd,hsz]
  congr 2
  apply Array.ext'
  simp [List.append_assoc]
 ·simp [Builtin.append_,Sem.run_bind,run_und ht,run_und hu,run_size hs,hl,show ¬ n0 + ex.length≤cap by omega,run_info hi,hb1,hng,c0,c1,hzr,hzc,hnr,hf,hd,hsz]
  congr 2
  apply Array.ext'
  simp [List.append_assoc]
end
theorem HRel.rename {hp:Nat→Option Blk} (R:HRel C σ hp w) {b k d n sz:Nat} {es es':List (List FV)} {off:Nat} (h0:hp b=some (.arr sz es)) (hσ:σ b=some (.here k d n sz)) (hn:σ nm=none)
 (he : ∀ (i:Nat) (cl:List FV),es'[i]? = some cl→es[off + i]? = some cl) :
 HRel C (upd σ nm (some (.here k (d + off * sz) n sz))) (upd (upd hp b none) nm (some (.arr sz es'))) w∧HLe (frz hp σ C.X w) (frz (upd (upd hp b none) nm (some (.arr sz es'))) (upd σ nm (some (.here k (d + off * sz) n sz))) C.X w):=by
 refine R.retell h0 hn (.here k (d + off * sz) n sz) (.arr sz es') (fun q h => ?_) fun hl => ?_
 ·rw [h.plain ⟨(by intro _ _ h; cases h),(by intro _ _ _ h; cases h)⟩ (upd_same _ _ _)]; exact .at _ _ _ _ _ hσ
 ·have B:=R.bk b _ h0
  cases B with
  | vir _ g1 => rw [hσ] at g1; cases g1
  | arr _ _ k1 d1 cc ty z g1 g2 g3 g4 g5 =>
   have hkm:k=k1∧d=d1∧n=cc.size:=by
    rw [hσ] at g1
    injection g1 with g1; injection g1 with q1 q2 q3 q4
    exact ⟨q1,q2,q3⟩
   obtain ⟨rfl,rfl,rfl⟩:=hkm
   refine .arr sz es' k (d + off * sz) cc ty z (upd_same _ _ _) g2 g3 (fun i cl h => g4 _ _ (he i cl h)) fun i cl j x q1 q2 => ?_
   obtain ⟨v,r1,r2⟩:=g5 _ _ j x (he i cl q1) q2
   refine ⟨v,?_,r2.mono hl⟩
   rw [← r1]; congr 1
   rw [Nat.add_mul]; omega
theorem boxFV_get : ∀ {cs:List AV} {es:List (List FV)},boxFV cs=some es→es.length=cs.length∧∀ (i:Nat) (cl:List FV),es[i]? = some cl→∃ x,cl=[x]∧cs[i]? = some (.fz x)
 | [],es,h => by
  simp only [boxFV] at h
  injection h with h; subst h
  exact ⟨rfl,fun i cl h => by simp at h⟩
 | c :: r, es, h => by
  unfold boxFV at h
  split at h
  ·rename_i h0; cases h0
  ·rename_i x r' h0
   injection h0 with h1 h2
   subst h1; subst h2
   split at h
   ·rename_i l hl
    injection h with h; subst h
    obtain ⟨i1,i2⟩:=boxFV_get hl
    refine ⟨by simp [i1],fun i cl hcl => ?_⟩
    cases i with
    | zero => simp at hcl; subst hcl; exact ⟨x,rfl,rfl⟩
    | succ i => simpa using i2 i cl (by simpa using hcl)
   ·cases h
  ·cases h
theorem HRel.unbox {hp:Nat→Option Blk} (R:HRel C σ hp w) {b k n:Nat} {cs:List AV} {es:List (List FV)} (h0:hp b=some (.box cs)) (hσ:σ b=some (.here k 0 n 1)) (hn:σ nm=none) (he:boxFV cs=some es) :
 HRel C (upd σ nm (some (.here k 0 n 1))) (upd (upd hp b none) nm (some (.arr 1 es))) w∧HLe (frz hp σ C.X w) (frz (upd (upd hp b none) nm (some (.arr 1 es))) (upd σ nm (some (.here k 0 n 1))) C.X w):=by
 refine R.retell h0 hn (.here k 0 n 1) (.arr 1 es) (fun q h => ?_) fun hl => ?_
 ·rw [h.plain ⟨(by intro _ _ h; cases h),(by intro _ _ _ h; cases h)⟩ (upd_same _ _ _)]; exact .at _ _ _ _ _ hσ
 ·have B:=R.bk b _ h0
  cases B with
  | box _ k1 cc ty z g1 g2 g3 g4 g5 =>
   have hkm:k=k1∧n=cs.length:=by
    rw [hσ] at g1
    injection g1 with g1; injection g1 with q1 q2 q3 q4
    exact ⟨q1,q3⟩
   obtain ⟨rfl,rfl⟩:=hkm
   obtain ⟨l1,l2⟩:=boxFV_get he
   refine .arr 1 es k 0 cc ty z (by rw [upd_same,g4]) g2 g3 (fun i cl h => ?_) fun i cl j x q1 q2 => ?_
   ·obtain ⟨x,rfl,_⟩:=l2 i cl h; rfl
   ·obtain ⟨y,rfl,hy⟩:=l2 i cl q1
    cases j with
    | zero =>
     simp at q2; subst q2
     have hi:i < cc.size:=by rw [g4]; exact (List.getElem?_eq_some_iff.1 hy).1
     have hv:=g5 i (.fz y) cc[i] hy (Array.getElem?_eq_getElem hi)
     refine ⟨cc[i],by simp [hi],?_⟩
     cases hv with
     | fz _ _ r => exact r.mono hl
    | succ j => simp at q2
section
variable {t u e:TypeId} {i:TypeInfo} {sz:Nat} {z:List Value} {s x:Operand} {xs:Array Operand} {ts:Array TypeId} {ex:List (List FV)} {us:List Value}
theorem run_app (hxs:xs.toList=[s,x]) (hts:ts.toList=[t,u]) {v:Value} {w':World} (h : ∀ ty,(Builtin.append_ #[t,u] ty #[a.eval s,a.eval x]).run P w=.ok v w') (ob:Oper) (ho:ob.op=.call { callee:=.builtin .append,args:=xs,argTypes:=ts }) :
 (execOp a.eval ob).run P w=.ok (.value v) w':=by
 obtain rfl:=arr2 hxs
 obtain rfl:=arr2 hts
 simp only [execOp,ho,resolve,invoke,Sem.run_bind,Sem.run_pure,Result.andThen_ok,builtin]
 simp [Sem.run_bind,h]
theorem app_empty (hxs:xs.toList=[s,x]) (hts:ts.toList=[t,u]) (ht:P.underlying t=some (.slice e)) (hu:(∃ e',P.underlying u=some (.slice e'))∨P.underlying u=some .string) (hi:P.info? e=some i) (hz:zeroC P e=some z) (hzl:z.length=i.size) (hb0:0 < i.bytes) (R:HRel C σ (hk hp) w) (hn:σ nm=none)
 (X:AppX P w (frz (hk hp) σ C.X w) i.size (a.eval x) ex us) {B:Option Addr} (hv:a.eval s=.slice B 0 0) {ws:HW} (hsub : ∀ b' blk,hk (ws ++ hp) b'=some blk→hk hp b'=some blk) (hb:ex.length * i.bytes≤140737488355328) :
 HeapOk P C σ hp a w nm (.call { callee:=.builtin .append,args:=xs,argTypes:=ts }) (.osl nm i.size 0 ex.length) ((nm,some (.arr i.size ex)) :: ws):=by
 by_cases h0:ex.length=0
 ·have hex:ex=[]:=List.eq_nil_of_length_eq_zero h0
  subst hex
  have hus:us=[]:=List.eq_nil_of_length_eq_zero (by have:=X.flat.len; simpa using this)
  have hr:=run_append_in ht hu hi rfl X (B:=B) (n0:=0) (cap:=0) (w':=w) (Nat.le_refl _) (fun A _ => by rw [hus]; rfl) (fun _ => rfl)
  have V:=(R.shrink hsub).virt hn i.size
  refine ⟨.slice B 0 0,upd σ nm (some .vir),w,fun ob ho => .inl (run_app hxs hts (fun ty => by rw [hv]; exact hr ty) ob ho),.vir nm i.size 0 B (upd_same _ _ _),?_,SLe.upd hn _,?_,upd_none⟩
  ·simp only [List.cons_append,hk_cons]; exact V.1
  ·simp only [List.cons_append,hk_cons]; exact (frz_shrink hsub C.X).trans V.2
 ·obtain ⟨cap',w1,rest,h1,rfl,h2,hr⟩:=run_append_grow ht hu hi rfl hz hzl hb0 X (B:=B) (n0:=0) (cap:=0) (by omega) (by simpa using hb) (us0:=[]) (fun w2 _ => by
   cases B with
   | none => rfl
   | some A => simp [Builtin.firstCells,loadCells,loadCellsFrom])
  have hl:=X.flat.len
  refine heap_row' (w1:={ w with drawn:=w.drawn + 1 }) (c:=(([]:List Value).toArray ++ us.toArray ++ rest)) (z:=(0,0)) (t:=e) (cap:=cap') rfl (R.drewn rfl rfl rfl rfl) hn hsub (.inl rfl) ?_ rfl (by omega) ?_ fun ob ho => ?_
  ·have:(([]:List Value).toArray ++ us.toArray ++ rest).toList.take (ex.length * i.size)=us:=by
    rw [← hl]; simp
   rw [this]; exact X.flat.mono (frz_shrink hsub C.X)
  ·simp only [Array.size_append,h2,List.size_toArray,hl,Array.size_empty]
   have:cap'=ex.length + (cap' - ex.length):=by omega
   simp only [List.length_nil,Nat.zero_add]
   rw [← Nat.add_mul]
   exact Nat.mul_le_mul_right _ (by omega)
  ·rw [Nat.zero_add] at hr
   exact run_app hxs hts (fun ty => by rw [hv]; exact hr ty) ob ho
theorem app_here (hxs : xs.toList = [s, x]) (hts : ts.toList = [t, u]) (ht : P.underlying t = some (.slice e)) (hu : (∃ e', P.underlying u = some (.slice e')) ∨ P.underlying u = some .string) (hi : P.info? e = some i) (hz : zeroC P e = some z) (hzl : z.length = i.size) (hb0 : 0 < i.bytes) (H : Sl C.G σ (frz (hk hp) σ C.X w) sl a) (R : HRel C σ (hk hp) w) (hn : σ nm = none)
 (X:AppX P w (frz (hk hp) σ C.X w) i.size (a.eval x) ex us) {b sz off len:Nat} {es:List (List FV)} (hs:LX.av C.G sl (compX s)=.osl b sz off len) (hes:rdArr hp i.size (.osl b sz off len)=some es) (hb:(es.length + ex.length) * i.bytes≤140737488355328) :
 HeapOk P C σ hp a w nm (.call { callee:=.builtin .append,args:=xs,argTypes:=ts }) (.osl nm i.size 0 (es.length + ex.length)) [(nm,some (.arr i.size (es ++ ex))),(b,none)]:=by
 have hv:=H.av s
 rw [hs] at hv
 obtain ⟨A0,cap0,hA0,hcap0,hel⟩:=rdArr_sound R hes hv
 have hsub : ∀ b' blk,hk ([(b,none)] ++ hp) b'=some blk→hk hp b'=some blk:=by
  intro b' blk h
  simp only [List.cons_append,List.nil_append,hk_cons] at h
  by_cases e:b'=b
  ·subst e; rw [upd_same] at h; cases h
  ·rwa [upd_ne _ _ e] at h
 simp only [rdArr] at hes
 split at hes
 ·rename_i sz2 es2 hbk
  split at hes
  ·rename_i hc
   obtain ⟨rfl,rfl,hle⟩:=hc
   injection hes with hes
   have hlen:es.length=len:=by rw [← hes]; simp; omega
   rcases hv.osl_inv with ⟨hσ,hl0,A',e1⟩ | ⟨k,d,n,A',cap',hσ,h1,h2,h3,e1⟩
   ·subst hl0
    have:es=[]:=List.eq_nil_of_length_eq_zero hlen
    subst this
    simpa using app_empty hxs hts ht hu hi hz hzl hb0 R hn X e1 hsub (by simpa using hb)
   ·have hA:A0=some A'∧cap0=cap':=by
     rw [hA0] at e1
     injection e1 with q1 q2 q3
     exact ⟨q1,q3⟩
    obtain ⟨rfl,rfl⟩:=hA
    have hxl:=X.flat.len
    by_cases hneed:len + ex.length≤cap0
    ·have hmul:(len + ex.length) * i.size≤cap0 * i.size:=Nat.mul_le_mul_right _ hneed
     rw [Nat.add_mul] at hmul
     have hoff:(off + len) * i.size=off * i.size + len * i.size:=Nat.add_mul _ _ _
     obtain ⟨w',q1,q2,q3,q4⟩:=R.overwrite (P:=P) (off:=off + len) (xs:=ex) (us:=us) (es':=es2.take (off + len) ++ ex) hbk hσ X.flat (by omega) (by omega) (fun i' cl h => by
      rw [List.getElem?_append] at h
      have htl:(es2.take (off + len)).length=off + len:=by simp; omega
      rw [htl] at h
      split at h
      ·rename_i hi'
       rw [List.getElem?_take,if_pos hi'] at h
       exact .inl ⟨hi',h⟩
      ·rename_i hi'
       have:=(List.getElem?_eq_some_iff.1 h).1
       exact .inr (.inl ⟨by omega,by omega,h⟩))
     have hst : ∀ A,some A'=some A→(storeCells (A.add (len * i.size)) us).run P w=.ok () w':=by
      rintro A ⟨⟩
      rcases h2 with h2 | h2
      ·subst h2
       exact q1 _ (.inr (List.eq_nil_of_length_eq_zero (by
        have h00:ex.length=0:=by omega
        rw [hxl,h00,Nat.zero_mul])))
      ·subst h2
       refine q1 _ (.inl ?_)
       rw [add_at]; congr 1; omega
     have hr:=run_append_in ht hu hi rfl X (B:=some A') (n0:=len) (cap:=cap0) hneed hst (fun h => by cases h)
     have hee : ∀ (i':Nat) (cl:List FV),(es ++ ex)[i']? = some cl→(es2.take (off + len) ++ ex)[off + i']? = some cl:=by
      intro i' cl h
      have:(es2.take (off + len) ++ ex).drop off=es ++ ex:=by
       rw [List.drop_append_of_le_length (by simp; omega),← hes,List.drop_take]
       congr 2; omega
      rw [← this,List.getElem?_drop] at h
      exact h
     have V:=q3.rename (off:=off) (upd_same _ _ _) hσ hn hee
     have hup:upd (upd (upd (hk hp) b (some (.arr i.size (es2.take (off + len) ++ ex)))) b none) nm (some (.arr i.size (es ++ ex)))=upd (upd (hk hp) b none) nm (some (.arr i.size (es ++ ex))):=by
      funext j
      simp only [upd]
      split
      ·rfl
      ·split <;> rfl
     rw [hup] at V
     refine ⟨.slice (some A') (len + ex.length) cap0,upd σ nm (some (.here k (d + off * i.size) n i.size)),w',fun ob ho => .inl (run_app hxs hts (fun ty => by rw [hA0,hlen]; exact hr ty) ob ho),?_,?_,SLe.upd hn _,?_,upd_none⟩
     ·rw [hlen]
      refine .osl nm i.size 0 (len + ex.length) k (d + off * i.size) n A' cap0 (upd_same _ _ _) hneed ?_ (by omega)
      rcases h2 with h2 | h2
      ·exact .inl h2
      ·exact .inr (by rw [h2]; simp)
     ·simp only [List.cons_append,List.nil_append,hk_cons]; exact V.1
     ·simp only [List.cons_append,List.nil_append,hk_cons]; exact q4.trans V.2
    ·obtain ⟨us0,u1,u2,u3⟩:=firstCells_any (P:=P) (cap:=cap0) (n:=es.length) (Nat.le_refl _) hel
     rw [List.take_length] at u2
     obtain ⟨cap',w1,rest,g1,rfl,g2,hr⟩:=run_append_grow ht hu hi rfl hz hzl hb0 X (B:=some A') (n0:=es.length) (cap:=cap0) (by omega) hb u3
     refine heap_row' (ws:=[(b,none)]) (w1:={ w with drawn:=w.drawn + 1 }) (c:=(us0.toArray ++ us.toArray ++ rest)) (z:=(0,0)) (t:=e) (cap:=cap') rfl (R.drewn rfl rfl rfl rfl) hn hsub (.inl rfl) ?_ (by simp) (by omega) ?_ fun ob ho => ?_
     ·have:(us0.toArray ++ us.toArray ++ rest).toList.take ((es ++ ex).length * i.size)=us0 ++ us:=by
       have:(es ++ ex).length * i.size=(us0 ++ us).length:=by simp [u1,hxl,Nat.add_mul]
       rw [this]
       have h9:(us0.toArray ++ us.toArray ++ rest).toList=(us0 ++ us) ++ rest.toList:=by simp
       rw [h9,List.take_left']
       rfl
      rw [this]; exact (u2.append X.flat).mono (frz_shrink hsub C.X)
     ·simp only [Array.size_append,g2,List.size_toArray,hxl,u1]
      rw [← Nat.add_mul,← Nat.add_mul]
      exact Nat.mul_le_mul_right _ (by omega)
     ·exact run_app hxs hts (fun ty => by rw [hA0]; exact hr ty) ob ho
  ·cases hes
 ·cases hes
end
theorem appX_arr {h:PH} {sz:Nat} {A:Option Addr} {cap:Nat} {ex:List (List FV)} (hel:ex≠[]→∃ k o,A=some ⟨k,o,none⟩∧ElemsAt w h k o sz ex) : ∃ us,AppX P w h sz (.slice A ex.length cap) ex us:=by
 obtain ⟨us,u1,u2,u3⟩:=firstCells_any (P:=P) (cap:=cap) (n:=ex.length) (Nat.le_refl _) hel
 rw [List.take_length] at u2
 exact ⟨us,u2,fun _ => rfl,u3⟩
theorem appX_str {h:PH} (q:ByteArray):AppX P w h 1 (.string q) (bytesFV q) (q.data.toList.map fun b => Value.int .u8 b.toNat):=by
 have hq:q.data.size=q.size:=rfl
 have hlen:(bytesFV q).length=q.size:=by rw [bytesFV,List.length_map,Array.length_toList]; exact hq
 refine ⟨flat_bytes q,fun w2 => by rw [hlen]; rfl,fun w2 _ => ?_⟩
 rw [hlen]
 simp only [Builtin.firstCells]
 have:q.extract 0 q.size=q:=by simp
 rw [this,← Array.toArray_toList (xs:=q.data.map fun b => Value.int .u8 b.toNat),Array.toList_map]
 rfl
theorem heap_app_ok {t u e:TypeId} {i:TypeInfo} {z:List Value} {s x:Operand} {xs:Array Operand} {ts:Array TypeId} {str:Bool} {v:AV} {ws:HW} {nn:Nat} {nx:Nat} {rf:RF} (hxs:xs.toList=[s,x]) (hts:ts.toList=[t,u]) (ht:P.underlying t=some (.slice e))
 (hu:(str=false∧∃ e',P.underlying u=some (.slice e'))∨(str=true∧i.size=1∧P.underlying u=some .string)) (hi:P.info? e=some i) (hz:zeroC P e=some z) (hzl:z.length=i.size) (hb0:0 < i.bytes) (H:Sl C.G σ (frz (hk hp) σ C.X w) sl a) (R:HRel C σ (hk hp) w) (hn:σ nm=none)
 (hnr:isRow hp (LX.av C.G sl (compX x))=none) (hop:heapOp rf (LX.av C.G sl) nm ⟨sl,hp,nx⟩ (.app i.size i.bytes str (compX s) (compX x))=some (v,ws,nn)) :
 HeapOk P C σ hp a w nm (.call { callee:=.builtin .append,args:=xs,argTypes:=ts }) v ws∧nn=0:=by
 simp only [heapOp,hnr] at hop
 split at hop
 ·rename_i ex hex
  have hX : ∃ us,AppX P w (frz (hk hp) σ C.X w) i.size (a.eval x) ex us:=by
   rcases hu with ⟨rfl,_⟩ | ⟨rfl,h1,_⟩
   ·simp only [Bool.false_eq_true,if_false] at hex
    obtain ⟨A,cap,hA,_,hel⟩:=rdArr_sound R hex (H.av x)
    rw [hA]; exact appX_arr hel
   ·simp only [if_true] at hex
    split at hex
    ·rename_i q hq
     injection hex with hex; subst hex
     have hr:=H.av x
     rw [hq] at hr
     rw [hr.sc_inv,h1]
     exact ⟨_,appX_str q⟩
    ·cases hex
  obtain ⟨us,X⟩:=hX
  have hu':(∃ e',P.underlying u=some (.slice e'))∨P.underlying u=some .string:=hu.imp (fun h => h.2) (fun h => h.2.2)
  split at hop
  ·rename_i hs
   split at hop
   ·rename_i hb
    injection hop with hop; injection hop with e1 e2; injection e2 with e2 e3
    subst e1; subst e2; subst e3
    have hv:=H.av s
    rw [hs] at hv
    have : ∃ B,a.eval s=.slice B 0 0:=let ⟨A,h⟩:=hv.emp_inv; ⟨_,h⟩
    obtain ⟨B,hB⟩:=this
    exact ⟨app_empty hxs hts ht hu' hi hz hzl hb0 R hn X hB (fun _ _ h => h) hb,rfl⟩
   ·cases hop
  ·rename_i b sz' off len hs
   split at hop
   ·rename_i es hes
    split at hop
    ·rename_i hb
     injection hop with hop; injection hop with e1 e2; injection e2 with e2 e3
     subst e1; subst e2; subst e3
     exact ⟨app_here hxs hts ht hu' hi hz hzl hb0 H R hn X hs hes hb,rfl⟩
    ·cases hop
   ·cases hop
  ·cases hop
 ·cases hop
end Go.Vai
