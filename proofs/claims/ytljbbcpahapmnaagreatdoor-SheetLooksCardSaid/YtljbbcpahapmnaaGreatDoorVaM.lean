/-
  A part of the abstract run of Go functions and of the proof that it tells the truth.
-/
import Derived.Test.YtljbbcpahapmnaaGreatDoorVaL
set_option linter.unusedVariables false
set_option linter.unusedSimpArgs false
namespace Go.Vai
def Ag (l:List Nat) (hp hp':HW):Prop := ∀ b∈l,hk hp b=hk hp' b
theorem Ag.sub {l l':List Nat} {hp hp':HW} (h:Ag l hp hp') (hs : ∀ b∈l',b∈l):Ag l' hp hp':=fun b hb => h b (hs b hb)
theorem hk_appm (w1 hp:HW) (b:Nat):hk (w1 ++ hp) b=if b∈w1.map (·.1) then hk w1 b else hk hp b:=by
 induction w1 with
 | nil => simp
 | cons q r ih =>
  obtain ⟨k,v⟩:=q
  simp only [List.cons_append,hk,List.map_cons,List.mem_cons]
  by_cases e:k=b
  ·subst e; simp
  ·rw [if_neg e,if_neg e,ih]
   by_cases h:b∈r.map (·.1)
   ·rw [if_pos h,if_pos (.inr h)]
   ·rw [if_neg h,if_neg (by rintro (h' | h'); exact e h'.symm; exact h h')]
theorem Ag.app {l:List Nat} {hp hp':HW} (h:Ag l hp hp') (w1:HW):Ag l (w1 ++ hp) (w1 ++ hp'):=fun b hb => by rw [hk_appm,hk_appm,h b hb]
theorem rdArr_ag {hp hp':HW} {sz:Nat} {x:AV} (h:Ag x.names hp hp'):rdArr hp sz x=rdArr hp' sz x:=by
 cases x with
 | osl b s o n => simp only [rdArr]; rw [h b (by simp [AV.names])]
 | fz x =>
  cases x with
  | sl es => rfl
  | sc v =>
   cases v with
   | slice A n c => cases n <;> rfl
   | _ => rfl
 | _ => rfl
theorem toFV_ag {hp hp':HW} {x:AV} (h:Ag x.names hp hp'):toFV hp x=toFV hp' x:=by
 cases x with
 | osl b s o n => simp only [toFV]; rw [rdArr_ag h]
 | fn f c => cases c <;> rfl
 | _ => rfl
theorem toFVs_ag : ∀ {l:List AV} {hp hp':HW},Ag (AV.namesL l) hp hp'→toFVs hp l=toFVs hp' l
 | [],hp,hp',h => rfl
 | x :: r,hp,hp',h => by
  simp only [toFVs]
  rw [toFV_ag (h.sub fun b hb => by simp [AV.namesL,hb])]
  have ih:=fun w1 => toFVs_ag (l:=r) ((h.sub fun b hb => by simp [AV.namesL,hb]:Ag (AV.namesL r) hp hp').app w1)
  simp only [ih]
theorem cellsOf_names {x:AV} {l:List AV} (h:cellsOf x=some l):AV.namesL l=x.names:=by
 cases x with
 | agg l' => simp only [cellsOf] at h; injection h with h; subst h; simp [AV.names]
 | _ => simp only [cellsOf,leaf] at h; first | (simp at h; done) | (simp at h; subst h; simp [AV.namesL])
theorem toFV_keys {hp:HW} {x:AV} {y:FV} {w1:HW} (h:toFV hp x=some (y,w1)) : ∀ q∈w1,q.1∈x.names:=by
 cases x with
 | osl b s o n =>
  simp only [toFV] at h
  split at h
  ·injection h with h; injection h with h1 h2; subst h2
   simp [AV.names]
  ·cases h
 | fn f c =>
  cases c with
  | nil => simp [toFV] at h; rw [h.2]; simp
  | cons => simp [toFV] at h
 | fz x => simp only [toFV] at h; injection h with h; injection h with h1 h2; subst h2; simp
 | emp => simp only [toFV] at h; injection h with h; injection h with h1 h2; subst h2; simp
 | _ => simp [toFV] at h
theorem toFVs_keys : ∀ {l:List AV} {hp:HW} {ys:List FV} {w1:HW},toFVs hp l=some (ys,w1)→∀ q∈w1,q.1∈AV.namesL l
 | [],hp,ys,w1,h => by simp only [toFVs] at h; injection h with h; injection h with h1 h2; subst h2; simp
 | x :: r, hp, ys, w1, h => by
  simp only [toFVs] at h
  split at h
  ·rename_i y v1 hy
   split at h
   ·rename_i ys2 v2 hys
    injection h with h; injection h with h1 h2; subst h2
    intro q hq
    simp only [AV.namesL,List.mem_append]
    rcases List.mem_append.1 hq with hq | hq
    ·exact .inr (toFVs_keys hys q hq)
    ·exact .inl (toFV_keys hy q hq)
   ·cases h
  ·cases h
theorem bslGo_ag {sz:Nat} {av:LX→AV} : ∀ {ps:List (Nat × LX)} {hp hp':HW} {es:List (List FV)},Ag (AV.namesL (ps.map fun p => av p.2)) hp hp'→bslGo sz av hp es ps=bslGo sz av hp' es ps
 | [],hp,hp',es,h => rfl
 | (i, x) :: r, hp, hp', es, h => by
  simp only [bslGo]
  cases hc:cellsOf (av x) with
  | none => rfl
  | some l =>
   simp only
   rw [toFVs_ag (h.sub fun b hb => by rw [cellsOf_names hc] at hb; simp [AV.namesL,hb])]
   have ih:=fun w1 es => bslGo_ag (sz:=sz) (av:=av) (ps:=r) (es:=es) ((h.sub fun b hb => by simp [AV.namesL]; exact .inr hb:Ag (AV.namesL (r.map fun p => av p.2)) hp hp').app w1)
   simp only [ih]
theorem bslGo_keys {sz:Nat} {av:LX→AV} : ∀ {ps:List (Nat × LX)} {hp:HW} {es es2:List (List FV)} {w1:HW},bslGo sz av hp es ps=some (es2,w1)→∀ q∈w1,q.1∈AV.namesL (ps.map fun p => av p.2)
 | [],hp,es,es2,w1,h => by simp only [bslGo] at h; injection h with h; injection h with h1 h2; subst h2; simp
 | (i, x) :: r, hp, es, es2, w1, h => by
  simp only [bslGo] at h
  split at h
  ·rename_i l hc
   split at h
   ·rename_i ys v1 hy
    split at h
    ·split at h
     ·rename_i es3 v2 hg
      injection h with h; injection h with h1 h2; subst h2
      intro q hq
      simp only [List.map_cons,AV.namesL,List.mem_append]
      rcases List.mem_append.1 hq with hq | hq
      ·exact .inr (bslGo_keys hg q hq)
      ·have:=toFVs_keys hy q hq
       rw [cellsOf_names hc] at this
       exact .inl this
     ·cases h
    ·cases h
   ·cases h
  ·cases h
theorem clos_ag {hp hp':HW} : ∀ (n:Nat) (l acc:List Nat),Ag l hp hp'→(∀ b∈clos hp n l acc,∀ blk,hk hp b=some blk→Ag blk.names hp hp')→clos hp n l acc=clos hp' n l acc
 | 0,l,acc,h1,h2 => rfl
 | n + 1,[],acc,h1,h2 => rfl
 | n + 1, b :: r, acc, h1, h2 => by
  simp only [clos] at h2 ⊢
  rw [← h1 b (by simp)]
  split
  ·rename_i hc
   rw [if_pos hc] at h2
   exact clos_ag n r acc (h1.sub fun c hc => by simp [hc]) h2
  ·rename_i hc
   rw [if_neg hc] at h2
   cases hb:hk hp b with
   | none =>
    rw [hb] at h2
    exact clos_ag n r acc (h1.sub fun c hc => by simp [hc]) h2
   | some blk =>
    rw [hb] at h2
    simp only at h2 ⊢
    refine clos_ag n _ _ (fun c hcm => ?_) h2
    rcases List.mem_append.1 hcm with hcm | hcm
    ·refine h2 b ?_ blk hb c hcm
     obtain ⟨q,hq⟩:=clos_pre hp n (blk.names ++ r) (acc ++ [b])
     rw [hq]; simp
    ·exact h1 c (by simp [hcm])
theorem blks_ag {hp hp':HW} {ρ:Nat→Option Nat} : ∀ {ns:List Nat},Ag ns hp hp'→blks hp ρ ns=blks hp' ρ ns
 | [],h => rfl
 | b :: r,h => by
  simp only [blks]
  rw [h b (by simp),blks_ag (h.sub fun c hc => by simp [hc])]
theorem touchA_ag {st st':St} {xs:List AV} (h:Ag (touchA st xs) st.hp st'.hp):clos st.hp 1000 (AV.namesL xs) []=clos st'.hp 1000 (AV.namesL xs) []∧touchA st xs=touchA st' xs:=by
 have e:clos st.hp 1000 (AV.namesL xs) []=clos st'.hp 1000 (AV.namesL xs) []:=by
  refine clos_ag 1000 _ _ (h.sub fun b hb => by simp [touchA,hb]) fun b hb blk hblk => h.sub fun c hc => ?_
  simp only [touchA,List.mem_append,List.mem_flatMap]
  exact .inr ⟨b,hb,by rw [hblk]; exact hc⟩
 refine ⟨e,?_⟩
 simp only [touchA]
 rw [← e]
 congr 1
 have : ∀ b∈clos st.hp 1000 (AV.namesL xs) [],hk st.hp b=hk st'.hp b:=fun b hb => h b (by simp [touchA,hb])
 generalize clos st.hp 1000 (AV.namesL xs) []=ns at this
 induction ns with
 | nil => rfl
 | cons b r ih => simp only [List.flatMap_cons]; rw [this b (by simp),ih fun c hc => this c (by simp [hc])]
theorem callOp_ag {rf:RF} {f:FuncId} {st st':St} {xs:List AV} (h:Ag (touchA st xs) st.hp st'.hp) (hn:st.nx=st'.nx):callOp rf f xs st=callOp rf f xs st':=by
 obtain ⟨e,_⟩:=touchA_ag h
 simp only [callOp]
 rw [← e,blks_ag (ns:=clos st.hp 1000 (AV.namesL xs) []) (h.sub fun b hb => by simp [touchA,hb]),hn]
theorem Ag.drop1 {b:Nat} {l:List Nat} {hp hp':HW} (h:Ag l hp hp'):Ag l ((b,none) :: hp) ((b,none) :: hp'):=h.app [(b,none)]
theorem yld_ag {rf:RF} {b:Nat} {st st':St} {xs:List AV} (h:Ag (b :: touchA { st with hp:=(b,none) :: st.hp } ((match hk st.hp b with
 | some (.loop _ caps _) => capE caps
 | _ => .dead) :: xs)) st.hp st'.hp) (hn:st.nx=st'.nx):yldOp rf b xs st=yldOp rf b xs st':=by
 have hb:=h b (by simp)
 simp only [yldOp]
 rw [← hb]
 cases hx:hk st.hp b with
 | none => rfl
 | some blk =>
  cases blk with
  | loop pf caps ex =>
   rw [hx] at h
   cases ex with
   | none =>
    simp only
    rw [callOp_ag (st:={ st with hp:=(b,none) :: st.hp }) (st':={ st' with hp:=(b,none) :: st'.hp }) (Ag.drop1 (h.sub (l':=touchA { st with hp:=(b,none) :: st.hp } _) fun c hc => List.mem_cons_of_mem _ hc)) hn]
   | some e => rfl
  | _ => rfl
theorem yld_touch {b:Nat} {st st':St} {xs:List AV} (h:Ag (b :: touchA { st with hp:=(b,none) :: st.hp } ((match hk st.hp b with
 | some (.loop _ caps _) => capE caps
 | _ => .dead) :: xs)) st.hp st'.hp):touchA { st with hp:=(b,none) :: st.hp } ((match hk st.hp b with
 | some (.loop _ caps _) => capE caps
 | _ => .dead) :: xs)=touchA { st' with hp:=(b,none) :: st'.hp } ((match hk st'.hp b with
 | some (.loop _ caps _) => capE caps
 | _ => .dead) :: xs):=by
 have hb:=h b (by simp)
 rw [← hb]
 exact (touchA_ag (st:={ st with hp:=(b,none) :: st.hp }) (st':={ st' with hp:=(b,none) :: st'.hp }) (Ag.drop1 (h.sub (l':=touchA { st with hp:=(b,none) :: st.hp } _) fun c hc => List.mem_cons_of_mem _ hc))).2
theorem isRow_ag {hp hp':HW} {x:AV} (h:Ag x.names hp hp'):isRow hp x=isRow hp' x:=by
 cases x with
 | osl b s o n => simp only [isRow]; rw [h b (by simp [AV.names])]
 | _ => rfl
theorem lendC_ag {hp hp':HW} {x:AV} (h:Ag x.names hp hp'):lendC hp x=lendC hp' x:=by
 cases x with
 | osl b s o n => simp only [lendC]; rw [h b (by simp [AV.names]),rdArr_ag h]
 | fn f c => cases c <;> rfl
 | _ => rfl
theorem lendCs_ag {hp hp':HW} : ∀ {l:List AV},Ag (AV.namesL l) hp hp'→lendCs hp l=lendCs hp' l
 | [],h => rfl
 | x :: r,h => by
  simp only [lendCs]
  rw [lendC_ag (h.sub fun b hb => by simp [AV.namesL,hb]),lendCs_ag (l:=r) (h.sub fun b hb => by simp [AV.namesL,hb])]
theorem lendA_ag {hp hp':HW} {x:AV} (h:Ag x.names hp hp'):lendA hp x=lendA hp' x:=by
 cases x with
 | agg l => simp only [lendA]; rw [lendCs_ag (by simpa [AV.names] using h)]
 | _ => exact lendC_ag h
theorem lendAs_ag {hp hp':HW} : ∀ {l:List AV},Ag (AV.namesL l) hp hp'→lendAs hp l=lendAs hp' l
 | [],h => rfl
 | x :: r,h => by
  simp only [lendAs]
  rw [lendA_ag (h.sub fun b hb => by simp [AV.namesL,hb]),lendAs_ag (l:=r) (h.sub fun b hb => by simp [AV.namesL,hb])]
theorem rowApp_ag {hp hp':HW} {sz bytes nm bx:Nat} {s x:AV} {er:List (List AV)} (h:Ag s.names hp hp'):rowApp sz bytes nm hp s x bx er=rowApp sz bytes nm hp' s x bx er:=by
 cases x with
 | osl b1 s1 o1 n1 =>
  cases s with
  | osl b s o n => simp only [rowApp]; rw [h b (by simp [AV.names])]
  | _ => rfl
 | _ => rfl
theorem heapOp_ag {rf:RF} {av:LX→AV} {nm:Nat} {st st':St} {l:LOp} (h:l.mkOnly=false→Ag (touch av nm st l) st.hp st'.hp) (hn:l.isCall=true→st.nx=st'.nx):heapOp rf av nm st l=heapOp rf av nm st' l:=by
 cases l with
 | load ag p =>
  have h:=h rfl
  simp only [touch] at h
  simp only [heapOp]
  cases hp:av p with
  | bp b o => rw [hp] at h; simp only; rw [h b (by simp [AV.names])]
  | ep b i f => rw [hp] at h; simp only; rw [h b (by simp [AV.names])]
  | _ => rfl
 | store n p x =>
  have h:=h rfl
  simp only [touch] at h
  simp only [heapOp]
  cases hc:cellsOf (av x) with
  | none => rfl
  | some l =>
   simp only
   cases hp:av p with
   | bp b o => rw [hp] at h; simp only; rw [h b (by simp [AV.names])]
   | ep b i f =>
    rw [hp] at h
    have hx:Ag (AV.namesL l) st.hp st'.hp:=by rw [cellsOf_names hc]; exact h.sub fun b hb => by simp [hb]
    simp only
    rw [toFVs_ag hx,h b (by simp [AV.names])]
    have : ∀ w1,hk (w1 ++ st.hp) b=hk (w1 ++ st'.hp) b:=fun w1 => (h.app w1) b (by simp [AV.names])
    simp only [this]
   | _ => rfl
 | bsl sz z len ps =>
  have h:=h rfl
  simp only [touch] at h
  simp only [heapOp]
  rw [bslGo_ag (h.sub fun b hb => by simp [hb])]
 | app sz bytes str s x =>
  have h:=h rfl
  simp only [touch] at h
  simp only [heapOp]
  rw [isRow_ag (x:=av x) (h.sub fun b hb => by simp [hb])]
  cases isRow st'.hp (av x) with
  | some q => simp only; rw [rowApp_ag (h.sub fun b hb => by simp [hb])]
  | none =>
  simp only
  rw [rdArr_ag (x:=av x) (h.sub fun b hb => by simp [hb])]
  cases hs:av s with
  | osl b s' o n =>
   rw [hs] at h
   simp only
   rw [rdArr_ag (x:=.osl b s' o n) (h.sub fun b hb => by simp [hb])]
  | _ => rfl
 | cpy sz d x =>
  have h:=h rfl
  simp only [touch] at h
  simp only [heapOp]
  rw [rdArr_ag (x:=av x) (h.sub fun b hb => by simp [hb])]
  cases hs:av d with
  | osl b s' o n =>
   rw [hs] at h
   simp only
   rw [h b (by simp [AV.names])]
  | _ => rfl
 | clr sz z x =>
  have h:=h rfl
  simp only [touch] at h
  simp only [heapOp]
  cases hs:av x with
  | osl b s' o n =>
   rw [hs] at h
   simp only
   rw [h b (by simp [AV.names])]
  | _ => rfl
 | b2s x =>
  have h:=h rfl
  simp only [touch] at h
  simp only [heapOp]
  rw [rdArr_ag h]
 | slca n x lo hi =>
  have h:=h rfl
  simp only [touch] at h
  simp only [heapOp]
  cases hs:av x with
  | bp b o =>
   rw [hs] at h
   cases o with
   | zero =>
    simp only
    rw [h b (by simp [AV.names])]
   | succ o => rfl
  | _ => rfl
 | cv2 x =>
  have h:=h rfl
  simp only [touch] at h
  simp only [heapOp]
  cases hs:av x with
  | osl b s' o n =>
   rw [hs] at h
   simp only
   rw [h b (by simp [AV.names])]
  | _ => rfl
 | call f xs =>
  have h:=h rfl
  simp only [touch] at h
  simp only [heapOp]
  cases hf:av f with
  | fn g caps =>
   rw [hf] at h
   simp only [callV]
   rw [callOp_ag h (hn rfl)]
  | bm g fst =>
   rw [hf] at h
   simp only [callV]
   rw [callOp_ag h (hn rfl)]
  | yl b =>
   rw [hf] at h
   simp only [callV]
   exact yld_ag h (hn rfl)
  | _ => rfl
 | inv tb x xs =>
  have h:=h rfl
  simp only [touch] at h
  simp only [heapOp]
  cases hf:av x with
  | ifc t y =>
   rw [hf] at h
   simp only
   cases lkT tb t with
   | none => rfl
   | some g => exact callOp_ag h (hn rfl)
  | _ => rfl
 | mdel k m key =>
  have h:=h rfl
  simp only [touch] at h
  simp only [heapOp]
  cases hs:av m with
  | mp b =>
   rw [hs] at h
   cases keyV k (av key) with
   | some kv => simp only; rw [h b (by simp [AV.names])]
   | none => rfl
  | _ => cases keyV k (av key) <;> rfl
 | lcall f xs =>
  have h:=h rfl
  simp only [touch] at h
  simp only [heapOp]
  rw [lendAs_ag h]
 | mset k m key x =>
  have h:=h rfl
  simp only [touch] at h
  simp only [heapOp]
  rw [toFV_ag (h.sub fun b hb => by simp [hb])]
  cases hs:av m with
  | mp b =>
   rw [hs] at h
   cases keyV k (av key) with
   | some kv => simp only; rw [h b (by simp [AV.names])]
   | none => rfl
  | _ => cases keyV k (av key) <;> rfl
 | mget k z c m key =>
  have h:=h rfl
  simp only [touch] at h
  simp only [heapOp]
  cases hs:av m with
  | mp b =>
   rw [hs] at h
   cases keyV k (av key) with
   | some kv => simp only; rw [h b (by simp [AV.names])]
   | none => rfl
  | _ => cases keyV k (av key) <;> rfl
 | mrng m =>
  have h:=h rfl
  simp only [touch] at h
  simp only [heapOp]
  cases hs:av m with
  | mp b =>
   rw [hs] at h
   simp only
   rw [h b (by simp [AV.names])]
  | _ => rfl
 | ment m =>
  have h:=h rfl
  simp only [touch] at h
  simp only [heapOp]
  cases hs:av m with
  | bp b o =>
   rw [hs] at h
   cases o with
   | succ o => rfl
   | zero =>
    simp only at h ⊢
    have hb:=h b (by simp [AV.names])
    rw [← hb]
    cases hb2:hk st.hp b with
    | none => rfl
    | some blk =>
     cases blk with
     | iter mb s seen last =>
      cases mb with
      | none => rfl
      | some mb =>
       rw [hb2] at h
       simp only
       rw [h mb (by simp)]
     | _ => rfl
  | _ => rfl
 | loadr p =>
  have h:=h rfl
  simp only [touch] at h
  simp only [heapOp]
  cases hs:av p with
  | ep b i f =>
   rw [hs] at h
   simp only
   rw [h b (by simp [AV.names])]
  | _ => rfl
 | _ => rfl
theorem touch_ag {av:LX→AV} {nm:Nat} {st st':St} {l:LOp} (h:l.mkOnly=false→Ag (touch av nm st l) st.hp st'.hp):touch av nm st l=touch av nm st' l:=by
 cases l with
 | call f xs =>
  have h:=h rfl
  simp only [touch] at h ⊢
  cases hf:av f with
  | fn g caps => rw [hf] at h; exact (touchA_ag h).2
  | bm g fst => rw [hf] at h; exact (touchA_ag h).2
  | yl b => rw [hf] at h; simp only; congr 1; exact yld_touch h
  | _ => rfl
 | inv tb x xs =>
  have h:=h rfl
  simp only [touch] at h ⊢
  cases hf:av x with
  | ifc t y => rw [hf] at h; exact (touchA_ag h).2
  | _ => rfl
 | ment m =>
  have h:=h rfl
  simp only [touch] at h ⊢
  congr 1
  cases hs:av m with
  | bp b o =>
   rw [hs] at h
   cases o with
   | succ o => rfl
   | zero =>
    simp only at h ⊢
    rw [h b (by simp [AV.names])]
  | _ => rfl
 | _ => rfl
theorem backHp_keys {ns:List Nat} {base:Nat} {ρ:Nat→Option Nat} : ∀ (bl:List (Option Blk)) (j:Nat),∀ q∈backHp ns base ρ j bl,∃ i,j≤i∧i < j + bl.length∧q.1=backName ns base i
 | [],j,q,h => by simp [backHp] at h
 | b :: r, j, q, h => by
  simp only [backHp,List.mem_cons] at h
  rcases h with rfl | h
  ·exact ⟨j,Nat.le_refl _,by simp,rfl⟩
  ·obtain ⟨i,h1,h2,h3⟩:=backHp_keys r (j + 1) q h
   exact ⟨i,by omega,by simp; omega,h3⟩
theorem callOp_keys {rf:RF} {g:FuncId} {xs:List AV} {st:St} {v:AV} {ws:HW} {nn:Nat} (e:callOp rf g xs st=some (v,ws,nn)) (q:Nat × Option Blk) (hq:q∈ws):q.1∈touchA st xs ++ List.range' st.nx nn:=by
 simp only [callOp] at e
 split at e
 ·rename_i r bl hrf
  injection e with e; injection e with e1 e2; injection e2 with e2 e3; subst e2; subst e3
  obtain ⟨i,h1,h2,h3⟩:=backHp_keys bl 0 q hq
  simp only [touchA,List.mem_append,List.mem_range'_1]
  rw [h3]
  rcases Nat.lt_or_ge i (clos st.hp 1000 (AV.namesL xs) []).length with hh | hh
  ·exact .inl (.inl (.inr (List.mem_of_getElem? (backName_lt hh))))
  ·rw [backName_ge hh]
   exact .inr ⟨by omega,by omega⟩
 ·cases e
theorem heapOp_keys {rf : RF} {av : LX → AV} {nm : Nat} {st : St} {l : LOp} {v : AV} {ws : HW} {nn : Nat} (e : heapOp rf av nm st l = some (v, ws, nn)) : (∀ q ∈ ws, q.1 ∈ touch av nm st l ++ List.range' st.nx nn) ∧ (l.ro = true → ws = []) ∧ (l.isCall = false → nn = 0) := by
 cases l with
 | alloc z =>
  simp only [heapOp] at e
  injection e with e; injection e with e1 e2; injection e2 with e2 e3; subst e2; subst e3
  exact ⟨by simp [touch],by simp [LOp.ro],fun _ => rfl⟩
 | abld T U =>
  simp only [heapOp] at e
  injection e with e; injection e with e1 e2; injection e2 with e2 e3; subst e2; subst e3
  exact ⟨by simp [touch],by simp [LOp.ro],fun _ => rfl⟩
 | box x =>
  simp only [heapOp] at e
  split at e
  ·injection e with e; injection e with e1 e2; injection e2 with e2 e3; subst e2; subst e3
   exact ⟨by simp [touch],by simp [LOp.ro],fun _ => rfl⟩
  ·cases e
 | load ag p =>
  simp only [heapOp] at e
  have:ws=[]∧nn=0:=by
   repeat' (first | (cases e; done) | (injection e with e; injection e with e1 e2; injection e2 with e2 e3; exact ⟨e2.symm,e3.symm⟩) | split at e)
  obtain ⟨rfl,rfl⟩:=this
  exact ⟨by simp,fun _ => rfl,fun _ => rfl⟩
 | store n p x =>
  simp only [heapOp] at e
  split at e
  ·rename_i l hl
   split at e
   ·split at e
    ·rename_i b o hp
     split at e
     ·split at e
      ·injection e with e; injection e with e1 e2; injection e2 with e2 e3; subst e2; subst e3
       exact ⟨by simp [touch,hp,AV.names],by simp [LOp.ro],fun _ => rfl⟩
      ·cases e
     ·cases e
    ·rename_i b i f hp
     split at e
     ·split at e
      ·split at e
       ·injection e with e; injection e with e1 e2; injection e2 with e2 e3; subst e2; subst e3
        exact ⟨by simp [touch,hp,AV.names],by simp [LOp.ro],fun _ => rfl⟩
       ·cases e
      ·cases e
     ·split at e
      ·rename_i ys w1 hy
       split at e
       ·split at e
        ·split at e
         ·injection e with e; injection e with e1 e2; injection e2 with e2 e3; subst e2; subst e3
          refine ⟨fun q hq => ?_,by simp [LOp.ro],fun _ => rfl⟩
          simp only [touch,hp,AV.names,List.mem_append,List.mem_cons] at hq ⊢
          rcases hq with rfl | hq
          ·simp
          ·have:=toFVs_keys hy q hq
           rw [cellsOf_names hl] at this
           simp [this]
         ·cases e
        ·cases e
       ·cases e
      ·cases e
    ·cases e
   ·cases e
  ·cases e
 | loadr p =>
  simp only [heapOp] at e
  split at e
  ·rename_i b i f hp
   split at e
   ·split at e
    ·split at e
     ·injection e with e; injection e with e1 e2; injection e2 with e2 e3; subst e2; subst e3
      exact ⟨by simp [touch,hp,AV.names],by simp [LOp.ro],fun _ => rfl⟩
     ·split at e
      ·injection e with e; injection e with e1 e2; injection e2 with e2 e3; subst e2; subst e3
       exact ⟨by simp,fun _ => rfl,fun _ => rfl⟩
      ·cases e
     ·cases e
    ·cases e
   ·cases e
  ·cases e
 | bslr sz z len ps =>
  simp only [heapOp] at e
  split at e
  ·injection e with e; injection e with e1 e2; injection e2 with e2 e3; subst e2; subst e3
   exact ⟨by simp [touch],by simp [LOp.ro],fun _ => rfl⟩
  ·cases e
 | mksr sz bytes z l c =>
  simp only [heapOp] at e
  split at e
  ·split at e
   ·injection e with e; injection e with e1 e2; injection e2 with e2 e3; subst e2; subst e3
    exact ⟨by simp [touch],by simp [LOp.ro],fun _ => rfl⟩
   ·cases e
  ·cases e
 | lcall f xs =>
  simp only [heapOp] at e
  repeat' (first | (cases e; done) | (injection e with e; injection e with e1 e2; injection e2 with e2 e3; subst e2; subst e3; exact ⟨by simp,fun _ => rfl,fun _ => rfl⟩) | split at e)
 | mkm =>
  simp only [heapOp] at e
  injection e with e; injection e with e1 e2; injection e2 with e2 e3; subst e2; subst e3
  exact ⟨by simp [touch],by simp [LOp.ro],fun _ => rfl⟩
 | mset k m key x =>
  simp only [heapOp] at e
  split at e
  ·rename_i b kv hm hkv
   split at e
   ·split at e
    ·split at e
     ·injection e with e; injection e with e1 e2; injection e2 with e2 e3; subst e2; subst e3
      exact ⟨by simp [touch,hm,AV.names],by simp [LOp.ro],fun _ => rfl⟩
     ·injection e with e; injection e with e1 e2; injection e2 with e2 e3; subst e2; subst e3
      exact ⟨by simp [touch,hm,AV.names],by simp [LOp.ro],fun _ => rfl⟩
     ·cases e
    ·cases e
   ·cases e
  ·cases e
 | mdel k m key =>
  simp only [heapOp] at e
  split at e
  ·rename_i b kv hm hkv
   split at e
   ·split at e
    ·injection e with e; injection e with e1 e2; injection e2 with e2 e3; subst e2; subst e3
     exact ⟨by simp [touch,hm,AV.names],by simp [LOp.ro],fun _ => rfl⟩
    ·injection e with e; injection e with e1 e2; injection e2 with e2 e3; subst e2; subst e3
     exact ⟨by simp [touch,hm,AV.names],by simp [LOp.ro],fun _ => rfl⟩
    ·cases e
   ·cases e
  ·cases e
 | mget k z c m key =>
  simp only [heapOp] at e
  have:ws=[]∧nn=0:=by
   repeat' (first | (cases e; done) | (injection e with e; injection e with e1 e2; injection e2 with e2 e3; exact ⟨e2.symm,e3.symm⟩) | split at e)
  obtain ⟨rfl,rfl⟩:=this
  exact ⟨by simp,by simp [LOp.ro],fun _ => rfl⟩
 | mrng m =>
  simp only [heapOp] at e
  split at e
  ·rename_i b hm
   split at e
   ·split at e
    ·injection e with e; injection e with e1 e2; injection e2 with e2 e3; subst e2; subst e3
     exact ⟨by simp [touch],by simp [LOp.ro],fun _ => rfl⟩
    ·cases e
   ·cases e
  ·cases e
 | ment it =>
  simp only [heapOp] at e
  have:ws=[]∧nn=0:=by
   repeat' (first | (cases e; done) | (injection e with e; injection e with e1 e2; injection e2 with e2 e3; exact ⟨e2.symm,e3.symm⟩) | split at e)
  obtain ⟨rfl,rfl⟩:=this
  exact ⟨by simp,by simp [LOp.ro],fun _ => rfl⟩
 | bsl sz z len ps =>
  simp only [heapOp] at e
  split at e
  ·rename_i es w1 hb
   injection e with e; injection e with e1 e2; injection e2 with e2 e3; subst e2; subst e3
   refine ⟨fun q hq => ?_,by simp [LOp.ro],fun _ => rfl⟩
   simp only [touch,List.mem_append,List.mem_cons] at hq ⊢
   rcases hq with rfl | hq
   ·simp
   ·simp [bslGo_keys hb q hq]
  ·cases e
 | mks sz bytes z l c =>
  simp only [heapOp] at e
  split at e
  ·split at e
   ·injection e with e; injection e with e1 e2; injection e2 with e2 e3; subst e2; subst e3
    exact ⟨by simp [touch],by simp [LOp.ro],fun _ => rfl⟩
   ·cases e
  ·cases e
 | app sz bytes str s x =>
  simp only [heapOp] at e
  split at e
  ·rename_i bx er hir
   split at e
   ·cases e
   ·obtain ⟨szx,offx,lenx,szr,hax,_⟩ : ∃ szx offx lenx szr,av x=.osl bx szx offx lenx∧hk st.hp bx=some (.row szr er):=by
     unfold isRow at hir
     split at hir
     ·split at hir
      ·rename_i hb
       injection hir with hir; injection hir with h1 h2; subst h1; subst h2
       exact ⟨_,_,_,_,by assumption,hb⟩
      ·cases hir
     ·cases hir
    rw [hax] at e
    simp only [rowApp] at e
    split at e
    ·split at e
     ·split at e
      ·injection e with e; injection e with e1 e2; injection e2 with e2 e3; subst e2; subst e3
       exact ⟨by simp [touch,hax,AV.names],by simp [LOp.ro],fun _ => rfl⟩
      ·cases e
     ·rename_i hs
      split at e
      ·split at e
       ·injection e with e; injection e with e1 e2; injection e2 with e2 e3; subst e2; subst e3
        exact ⟨by simp [touch,hs,hax,AV.names],by simp [LOp.ro],fun _ => rfl⟩
       ·cases e
      ·cases e
     ·cases e
    ·cases e
  ·split at e
   ·split at e
    ·split at e
     ·injection e with e; injection e with e1 e2; injection e2 with e2 e3; subst e2; subst e3
      exact ⟨by simp [touch],by simp [LOp.ro],fun _ => rfl⟩
     ·cases e
    ·rename_i hs
     split at e
     ·split at e
      ·injection e with e; injection e with e1 e2; injection e2 with e2 e3; subst e2; subst e3
       exact ⟨by simp [touch,hs,AV.names],by simp [LOp.ro],fun _ => rfl⟩
      ·cases e
     ·cases e
    ·cases e
   ·cases e
 | cpy sz d x =>
  simp only [heapOp] at e
  split at e
  ·split at e
   ·rename_i hd
    split at e
    ·split at e
     ·injection e with e; injection e with e1 e2; injection e2 with e2 e3; subst e2; subst e3
      exact ⟨by simp [touch,hd,AV.names],by simp [LOp.ro],fun _ => rfl⟩
     ·cases e
    ·cases e
   ·cases e
  ·cases e
 | clr sz z x =>
  simp only [heapOp] at e
  split at e
  ·rename_i hd
   split at e
   ·split at e
    ·injection e with e; injection e with e1 e2; injection e2 with e2 e3; subst e2; subst e3
     exact ⟨by simp [touch,hd,AV.names],by simp [LOp.ro],fun _ => rfl⟩
    ·cases e
   ·cases e
  ·cases e
 | s2b x =>
  simp only [heapOp] at e
  split at e
  ·injection e with e; injection e with e1 e2; injection e2 with e2 e3; subst e2; subst e3
   exact ⟨by simp [touch],by simp [LOp.ro],fun _ => rfl⟩
  ·cases e
 | b2s x =>
  simp only [heapOp] at e
  split at e
  ·split at e
   ·injection e with e; injection e with e1 e2; injection e2 with e2 e3; subst e2; subst e3
    exact ⟨by simp,fun _ => rfl,fun _ => rfl⟩
   ·cases e
  ·cases e
 | slca n x lo hi =>
  simp only [heapOp] at e
  split at e
  ·split at e
   ·rename_i hx
    split at e
    ·split at e
     ·split at e
      ·injection e with e; injection e with e1 e2; injection e2 with e2 e3; subst e2; subst e3
       exact ⟨by simp [touch,hx,AV.names],by simp [LOp.ro],fun _ => rfl⟩
      ·cases e
     ·cases e
    ·cases e
   ·cases e
  ·cases e
 | cv2 x =>
  simp only [heapOp] at e
  split at e
  ·split at e
   ·split at e
    ·injection e with e; injection e with e1 e2; injection e2 with e2 e3; subst e2; subst e3
     exact ⟨by simp,by simp [LOp.ro],fun _ => rfl⟩
    ·cases e
   ·cases e
  ·cases e
 | call f xs =>
  refine ⟨fun q hq => ?_,by simp [LOp.ro],by simp [LOp.isCall]⟩
  simp only [heapOp] at e
  cases hf:av f with
  | fn g caps =>
   rw [hf] at e
   simp only [callV] at e
   split at e
   ·simp only [touch,hf]; exact callOp_keys e q hq
   ·cases e
  | bm g fst =>
   rw [hf] at e
   simp only [callV] at e
   split at e
   ·simp only [touch,hf]; exact callOp_keys e q hq
   ·cases e
  | yl b =>
   rw [hf] at e
   simp only [callV,yldOp] at e
   split at e
   ·rename_i pf caps hb
    split at e
    ·rename_i r ws0 nn0 hcall
     split at e
     ·injection e with e; injection e with e1 e2; injection e2 with e2 e3; subst e2; subst e3
      simp only [touch,hf,hb,List.mem_append,List.mem_cons] at hq ⊢
      rcases hq with hq | rfl | hq
      ·rcases List.mem_append.1 (callOp_keys hcall q hq) with h | h
       ·exact .inl (.inr h)
       ·exact .inr h
      ·exact .inl (.inl rfl)
      ·cases hq
     ·cases e
    ·cases e
   ·cases e
  | _ => rw [hf] at e; simp [callV] at e
 | inv tb x xs =>
  refine ⟨fun q hq => ?_,by simp [LOp.ro],by simp [LOp.isCall]⟩
  simp only [heapOp] at e
  cases hf:av x with
  | ifc t y =>
   rw [hf] at e
   simp only at e
   split at e
   ·simp only [touch,hf]; exact callOp_keys e q hq
   ·cases e
  | _ => rw [hf] at e; simp at e
 | _ => simp [heapOp] at e
end Go.Vai
