/-
  A part of the abstract run of Go functions and of the proof that it tells the truth.
-/
import Derived.Laws.BytesArg
import Derived.Laws.Append
import Derived.Test.YtljbbcpahapmnaaGreatDoorVaC
set_option linter.unusedVariables false
set_option linter.unusedSimpArgs false
namespace Go.Vai
variable {P:Program} {C:Ctx} {σ:Nat→Option Loc} {w:World} {hp:HW} {a:Act} {nm:Nat} {sl:List (Nat × AV)}
theorem wrap64_id {n:Int} (h0 : -9223372036854775808≤n) (h1:n≤9223372036854775807):IntKind.i64.wrap n=n:=by
 simp only [IntKind.wrap,IntKind.bits,IntKind.signed]
 simp
 omega
theorem run_askRoom (n:Nat) (w:World):(askRoom n).run P w=.ok () w:=by
 unfold askRoom
 split <;> rfl
theorem frz_heap {hp:Nat→Option Blk} {X:Nat→Prop} {w w':World} (e:w'.heap=w.heap):frz hp σ X w'=frz hp σ X w:=by
 funext k
 have hlv : ∀ b,Live hp σ w' b k↔Live hp σ w b k:=fun b =>
  ⟨fun ⟨blk,h1,h2⟩ => ⟨blk,h1,h2.keep rfl fun _ _ _ _ _ => by rw [e]⟩,fun ⟨blk,h1,h2⟩ => ⟨blk,h1,h2.keep rfl fun _ _ _ _ _ => by rw [e]⟩⟩
 unfold frz
 by_cases h:(∃ b,Live hp σ w b k)∨X k
 ·rw [if_pos h,if_pos (h.imp (fun ⟨b,hb⟩ => ⟨b,(hlv b).2 hb⟩) id)]
 ·rw [if_neg h,if_neg (fun h' => h (h'.imp (fun ⟨b,hb⟩ => ⟨b,(hlv b).1 hb⟩) id)),e]
theorem BR.heap {rc:RC} {h:PH} {w w':World} (e:w'.heap=w.heap) {b:Nat} {blk:Blk} (B:BR rc σ h w b blk):BR rc σ h w' b blk :=
 B.mono (SLe.refl _) (HLe.refl _) fun k _ => by rw [e]
theorem HRel.drewn {hp:Nat→Option Blk} (R:HRel C σ hp w) {w':World} (e:w'.heap=w.heap) (e1:w'.os=w.os) (e2:w'.tape=w.tape) (e3:w'.output=w.output):HRel C σ hp w':=by
 have hf:=frz_heap (σ:=σ) (hp:=hp) (X:=C.X) e
 have hlv : ∀ b k,Live hp σ w' b k→Live hp σ w b k:=fun b k ⟨blk,h1,h2⟩ => ⟨blk,h1,h2.keep rfl fun _ _ _ _ _ => by rw [e]⟩
 refine ⟨fun b blk h => by rw [hf]; exact (R.bk b blk h).heap e,fun b b' k h1 h2 => R.inj b b' k (hlv _ _ h1) (hlv _ _ h2),fun b k h => by rw [e]; exact R.ow b k (hlv _ _ h),⟨by rw [e]; exact R.fr.size,fun k h1 h2 => by rw [e]; exact R.fr.keep k h1 h2,e1.trans R.fr.os,e2.trans R.fr.tape,e3.trans R.fr.output⟩,by rw [hf]; exact R.gl,R.xl⟩
theorem HeapOk.from {o:Op} {v:AV} {ws:HW} {w':World} (e:w'.heap=w.heap) (h:HeapOk P C σ hp a w' nm o v ws) (hr : ∀ ob:Oper,ob.op=o→∀ r,(execOp a.eval ob).run P w'=r→(execOp a.eval ob).run P w=r):HeapOk P C σ hp a w nm o v ws:=by
 obtain ⟨u,σ',w2,h1,h2,h3,h4,h5,h6⟩:=h
 refine ⟨u,σ',w2,fun ob ho => (h1 ob ho).imp (fun h => hr ob ho _ h) (fun h => ⟨hr ob ho _ h.1,h.2⟩),h2,h3,h4,?_,h6⟩
 rw [← frz_heap (σ:=σ) (hp:=hk hp) (X:=C.X) e]; exact h5
theorem heap_row' {o:Op} {t:TypeId} {c:Array Value} {z:Nat × Nat} {sz len cap:Nat} {es:List (List FV)} {ws:HW} {w1:World} (e:w1.heap=w.heap) (R:HRel C σ (hk hp) w1) (hn:σ nm=none) (hsub : ∀ b' blk,hk (ws ++ hp) b'=some blk→hk hp b'=some blk) (hz:NoFz c z)
 (F:FlatR (frz (hk (ws ++ hp)) σ C.X w) sz es (c.toList.take (es.length * sz))) (hlen:len=es.length) (hcap:len≤cap) (hc:cap * sz≤c.size)
 (hrun : ∀ ob:Oper,ob.op=o→(execOp a.eval ob).run P w=.ok (.value (.slice (some ⟨w.heap.size,0,none⟩) len cap)) (w1.alloc (.cells c t z))) :
 HeapOk P C σ hp a w nm o (.osl nm sz 0 len) ((nm,some (.arr sz es)) :: ws):=by
 have R1:=R.shrink hsub
 have hl1:=frz_shrink (σ:=σ) (w:=w1) hsub C.X
 rw [← frz_heap (w':=w1) e] at F
 rw [← e] at hrun
 refine ⟨_,upd σ nm (some (.here w1.heap.size 0 c.size sz)),_,fun ob ho => .inl (hrun ob ho),?_,?_,SLe.upd hn _,?_,upd_none⟩
 ·exact .osl nm sz 0 len w1.heap.size 0 c.size _ cap (upd_same _ _ _) hcap (.inr (by simp)) (by omega)
 ·simp only [List.cons_append,hk_cons]
  refine R1.freshArr hn t c z hz sz es F.el fun i cl j x e1 e2 => ?_
  obtain ⟨v,hv,hr⟩:=F.rel i cl j x e1 e2
  refine ⟨v,?_,hr⟩
  rw [List.getElem?_take] at hv
  split at hv
  ·simpa using hv
  ·cases hv
 ·simp only [List.cons_append,hk_cons]
  rw [← frz_heap (σ:=σ) (hp:=hk hp) (X:=C.X) e]
  exact hl1.trans (frz_fresh R1 nm _ 0 _ sz _)
theorem heap_mks_ok {t e:TypeId} {i:TypeInfo} {z:List Value} {l c:Operand} {n m:Int} {k1 k2:IntKind} (ht:P.underlying t=some (.slice e)) (hi:P.info? e=some i) (hz:zeroC P e=some z) (hc:0 < i.bytes∧0 < i.size∧z.length=i.size)
 (hl:a.eval l=.int k1 n) (hcv:a.eval c=.int k2 m) (hb:0≤n∧n≤m∧i.bytes * m≤281474976710656) (R:HRel C σ (hk hp) w) (hn:σ nm=none) :
 HeapOk P C σ hp a w nm (.makeSlice t l c) (.osl nm i.size 0 n.toNat) [(nm,some (.arr i.size (List.replicate n.toNat (z.map cellFV))))]:=by
 obtain ⟨h0,h1,h2⟩:=hc
 obtain ⟨b0,b1,b2⟩:=hb
 obtain ⟨zv,hzc,hzl,hzr⟩:=zeroC_inv hz
 have hm:m≤281474976710656:=by
  have:(1:Int) * m≤i.bytes * m:=Int.mul_le_mul_of_nonneg_right (by omega) (by omega)
  omega
 have hsize:sizeC P e=some i.size:=by simp [sizeC,hi]
 refine heap_row' (w1:=w) (ws:=[]) (c:=((List.range (m.toNat * z.length)).map fun i => z.getD (i % z.length) default).toArray) (z:=(0,0)) (t:=e) (cap:=m.toNat) rfl R hn (fun _ _ h => h) (.inl rfl) ?_ (by simp) (by omega) (by simp [h2]) fun ob ho => ?_
 ·rw [← h2]
  have F:=FlatR.zeros (h:=frz (hk ([] ++ hp)) σ C.X w) z hzl n.toNat
  have hle:n.toNat * z.length≤m.toNat * z.length:=Nat.mul_le_mul_right _ (by omega)
  have:(((List.range (m.toNat * z.length)).map fun i => z.getD (i % z.length) default).toArray.toList.take ((List.replicate n.toNat (z.map cellFV)).length * z.length))=(List.range (n.toNat * z.length)).map fun i => z.getD (i % z.length) default:=by
   simp only [List.length_replicate]
   rw [← List.map_take]
   congr 1
   apply List.ext_getElem?
   intro q
   rw [List.getElem?_take]
   by_cases hq:q < n.toNat * z.length
   ·rw [if_pos hq,List.getElem?_range (by omega),List.getElem?_range hq]
   ·rw [if_neg hq,List.getElem?_eq_none (by simp; omega)]
  rw [this]; exact F
 ·have w1:IntKind.i64.wrap n=n:=wrap64_id (by omega) (by omega)
  have w2:IntKind.i64.wrap m=m:=wrap64_id (by omega) (by omega)
  have hcond:((decide (m < 0) || decide (↑i.bytes * m > 2 ^ 48)) || decide (n < 0) || decide (n > m))=false:=by
   simp; omega
  have hnz : ¬ (m.toNat * i.size=0)∨m.toNat * i.size=0:=by omega
  simp only [execOp,ho,Instr.makeSlice,Sem.run_bind,run_und ht,Result.andThen_ok,hl,hcv,asInt,asIntOf,Sem.run_pure,run_info hi,w1,w2]
  rw [if_neg (by rw [Bool.or_eq_true,Bool.or_eq_true] ; simp; omega)]
  simp only [Sem.run_bind,run_askRoom,Result.andThen_ok,run_size hsize]
  by_cases h00:m.toNat * i.size=0
  ·rw [if_pos h00]
   have e0:m.toNat * z.length=0:=by rw [h2]; exact h00
   have er:Array.range 0 = #[]:=rfl
   simp only [Sem.run_bind,Sem.run_pure,Result.andThen_ok,run_newRow,h00,e0,er]
   simp
  ·rw [if_neg h00]
   simp only [Sem.run_bind,Sem.run_pure,Result.andThen_ok,hzr,hzc,run_newRow]
   rw [← h2,zeros_arr]
theorem elems_cells {h:PH} {k o sz:Nat} {es:List (List FV)} (E:ElemsAt w h k o sz es) (n:Nat) (hn:n≤es.length) : ∃ us:List Value,us.length=n * sz∧CellsAt w k o us∧FlatR h sz (es.take n) us:=by
 refine ⟨(List.range (n * sz)).map fun q => (w.cell? ⟨k,o + q,none⟩).getD undef,by simp,fun j u e => ?_,⟨by simp [Nat.min_eq_left hn],fun i c e => ?_,fun i c j x e1 e2 => ?_⟩⟩
 ·rw [List.getElem?_map] at e
  by_cases hj:j < n * sz
  ·rw [List.getElem?_range hj] at e
   simp at e
   have hpos:0 < sz:=by
    rcases Nat.eq_zero_or_pos sz with h | h
    ·rw [h] at hj; omega
    ·exact h
   have hi:j / sz < n:=Nat.div_lt_of_lt_mul (by rw [Nat.mul_comm]; exact hj)
   have hi':j / sz < es.length:=by omega
   have hc:=E.1 _ _ (List.getElem?_eq_getElem hi')
   have hm:j % sz < (es[j / sz]).length:=by rw [hc]; exact Nat.mod_lt _ hpos
   obtain ⟨v,hv,_⟩:=E.2 _ _ _ _ (List.getElem?_eq_getElem hi') (List.getElem?_eq_getElem hm)
   have:j / sz * sz + j % sz=j:=by rw [Nat.mul_comm]; exact Nat.div_add_mod j sz
   rw [this] at hv
   rw [hv] at e
   simp at e
   rw [← e]; exact hv
  ·rw [List.getElem?_eq_none (by simp; omega)] at e; cases e
 ·rw [List.getElem?_take] at e
  split at e
  ·exact E.1 _ _ e
  ·cases e
 ·rw [List.getElem?_take] at e1
  split at e1
  ·rename_i hi
   obtain ⟨v,hv,hr⟩:=E.2 _ _ _ _ e1 e2
   have hc:=E.1 _ _ e1
   have hj:=(List.getElem?_eq_some_iff.1 e2).1
   have hlt:i * sz + j < n * sz:=by
    have:(i + 1) * sz≤n * sz:=Nat.mul_le_mul_right _ hi
    rw [Nat.add_mul] at this; omega
   refine ⟨v,?_,hr⟩
   rw [List.getElem?_map,List.getElem?_range hlt]
   simp [hv]
  ·cases e1
theorem FlatR.leaf {h:PH} {sz:Nat} {es:List (List FV)} {us:List Value} (F:FlatR h sz es us) : ∀ u∈us,leafV u=true:=by
 intro u hu
 obtain ⟨q,hq,rfl⟩:=List.getElem_of_mem hu
 have hq':=hq
 rw [F.len] at hq'
 have hpos:0 < sz:=by
  rcases Nat.eq_zero_or_pos sz with h | h
  ·rw [h] at hq'; omega
  ·exact h
 have hi:q / sz < es.length:=Nat.div_lt_of_lt_mul (by rw [Nat.mul_comm]; exact hq')
 have hc:=F.el _ _ (List.getElem?_eq_getElem hi)
 have hm:q % sz < (es[q / sz]).length:=by rw [hc]; exact Nat.mod_lt _ hpos
 obtain ⟨v,hv,hr⟩:=F.rel _ _ _ _ (List.getElem?_eq_getElem hi) (List.getElem?_eq_getElem hm)
 have:q / sz * sz + q % sz=q:=by rw [Nat.mul_comm]; exact Nat.div_add_mod q sz
 rw [this,List.getElem?_eq_getElem hq] at hv
 injection hv with hv
 rw [hv]; exact hr.leaf
theorem bytesOf_sound {h:PH} : ∀ (es:List (List FV)) (l:List UInt8) (us:List Value),bytesOf' es=some l→FlatR h 1 es us→∃ xs:List Int,us=xs.map (Value.int .u8)∧l=xs.map fun n => UInt8.ofNat n.toNat
 | [],l,us,e,F => by
  simp only [bytesOf'] at e
  injection e with e; subst e
  have:us=[]:=List.eq_nil_of_length_eq_zero (by simpa using F.len)
  exact ⟨[],by simp [this],rfl⟩
 | c :: es, l, us, e, F => by
  simp only [bytesOf'] at e
  split at e
  ·rename_i b r hb hr
   injection e with e; subst e
   unfold byteOf' at hb
   split at hb
   ·rename_i n
    injection hb with hb; subst hb
    obtain ⟨v,hv,hvr⟩:=F.rel 0 _ 0 _ rfl rfl
    cases us with
    | nil => simp at hv
    | cons u us =>
     simp at hv
     subst hv
     cases hvr
     have F':FlatR h 1 es us:=⟨by have:=F.len; simp at this ⊢; omega,fun i c e => F.el (i + 1) c (by simpa using e),fun i c j x e1 e2 => by
      obtain ⟨v,h1,h2⟩:=F.rel (i + 1) c j x (by simpa using e1) e2
      refine ⟨v,?_,h2⟩
      have:(i + 1) * 1 + j=(i * 1 + j) + 1:=by omega
      rw [this] at h1
      simpa using h1⟩
     obtain ⟨xs,h1,h2⟩:=bytesOf_sound es r us hr F'
     exact ⟨n :: xs,by simp [h1],by simp [h2]⟩
   ·cases hb
  ·cases e
theorem heap_b2s_ok {s d e:TypeId} {x:Operand} {es:List (List FV)} {l:List UInt8} (hs:P.underlying s=some (.slice e)) (he:P.underlying e=some (.int .u8)) (hd:P.underlying d=some .string) (H:Sl C.G σ (frz (hk hp) σ C.X w) sl a) (R:HRel C σ (hk hp) w)
 (hes:rdArr hp 1 (LX.av C.G sl (compX x))=some es) (hl:bytesOf' es=some l):HeapOk P C σ hp a w nm (.convert s d x) (.fz (.sc (.string ⟨l.toArray⟩))) []:=by
 obtain ⟨A,cap,hv,hcap,hel⟩:=rdArr_sound R hes (H.av x)
 have fin:(convert s d (a.eval x)).run P w=.ok (.string ⟨l.toArray⟩) w:=by
  by_cases hne:es=[]
  ·subst hne
   simp only [bytesOf'] at hl
   injection hl with hl; subst hl
   rw [hv]
   cases A with
   | none => exact run_convert_bytes_nil w s e hs he _ _ d hd
   | some A =>
    rw [run_convert_bytes_string w s d e _ _ _ hs he hd,run_bytesToString w A _ cap [] rfl]
    rfl
  ·obtain ⟨k,o,rfl,E⟩:=hel hne
   obtain ⟨us,h1,h2,h3⟩:=elems_cells E es.length (Nat.le_refl _)
   rw [List.take_length] at h3
   obtain ⟨xs,h4,h5⟩:=bytesOf_sound es l us hl h3
   rw [hv]
   have hlen:xs.length=es.length:=by have:=h3.len; rw [h4] at this; simpa using this
   have:=run_convert_bytes_arg (P:=P) w s e hs he k o es.length cap xs hlen (fun i hi => h2 i _ (by rw [h4]; simp [List.getD,List.getElem?_eq_getElem (show i < xs.length by omega)])) d hd
   rw [this,h5]; rfl
 exact heap_same R (fun ob ho => by simp only [execOp,ho,Sem.run_bind,fin,Result.andThen_ok,Sem.run_pure]) (.sc _)
theorem freeze_block {k n:Nat} {c:Array Value} {e:TypeId} {z:Nat × Nat} (hb:w.heap[k]? = some (.cells c e z)):w.freeze ⟨k,n,none⟩ 1=World.setBlock w k (.cells c e (if z.1 == z.2 then (n,n + 1) else (min z.1 n,max z.2 (n + 1)))):=by
 have hk:k < w.heap.size:=(Array.getElem?_eq_some_iff.1 hb).1
 unfold World.freeze World.setBlock
 rw [if_neg (by decide)]
 congr 1
 apply Array.ext_getElem?
 intro i
 rw [Array.getElem?_modify,Array.getElem?_setIfInBounds]
 split
 ·rename_i h; subst h; rw [hb]; try rw [if_pos hk]
  simp
 ·rfl
theorem run_markStringish {k o:Nat} {c:Array Value} {e:TypeId} {z:Nat × Nat} (hb:w.heap[k]? = some (.cells c e z)) :
 (markStringish ⟨k,o,none⟩).run P w=.ok () (World.setBlock w k (.cells c e (if z.1 == z.2 then (c.size,c.size + 1) else (min z.1 c.size,max z.2 (c.size + 1))))):=by
 have hs:w.shape? k=some (e,c.size):=by simp [World.shape?,hb]
 rw [← freeze_block (n:=c.size) hb]
 simp [markStringish,shape,Sem.run_bind,Sem.run,hs,freeze]
theorem NoFz.mark {c:Array Value} {z:Nat × Nat} (h:NoFz c z):NoFz c (if z.1 == z.2 then (c.size,c.size + 1) else (min z.1 c.size,max z.2 (c.size + 1))):=by
 split
 ·exact .inr (Nat.le_refl _)
 ·rename_i hne
  rcases h with rfl | h
  ·simp at hne
  ·exact .inr (by simp only; omega)
end Go.Vai
