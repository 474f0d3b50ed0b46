/-
  A part of the abstract run of Go functions and of the proof that it tells the truth.
-/
import Derived.Test.YtljbbcpahapmnaaGreatDoorVa1
set_option linter.unusedVariables false
set_option linter.unusedSimpArgs false
namespace Go.Vai
structure Env where
 G:Nat→Option (List FV)
 T:FuncId→Option LFunc
 E:RF
theorem upd_some {α:Type} {f:Nat→Option α} (hm : ∀ n r,f n=some r→f (n + 1)=some r) {n m:Nat} (h:n≤m) {r:α} (e:f n=some r):f m=some r:=by
 induction h with
 | refl => exact e
 | step _ ih => exact hm _ _ ih
open Classical in
noncomputable def limit {α:Type} (f:Nat→Option α):Option α :=
 if h : ∃ n r,f n=some r then some (Classical.choose (Classical.choose_spec h)) else none
theorem limit_some {α:Type} {f:Nat→Option α} (hm : ∀ n r,f n=some r→f (n + 1)=some r) {r:α}:limit f=some r↔∃ n,f n=some r:=by
 unfold limit
 split
 ·rename_i h
  have h1:=Classical.choose_spec (Classical.choose_spec h)
  constructor
  ·intro e
   injection e with e
   exact ⟨Classical.choose h,e ▸ h1⟩
  ·rintro ⟨n,e⟩
   have a:=upd_some hm (Nat.le_max_left n (Classical.choose h)) e
   have b:=upd_some hm (Nat.le_max_right n (Classical.choose h)) h1
   rw [b] at a
   exact a
 ·rename_i h
  constructor
  ·intro e; cases e
  ·rintro ⟨n,e⟩; exact absurd ⟨n,r,e⟩ h
def RFle (a b:RF):Prop := ∀ f xs bl r,a f xs bl=some r→b f xs bl=some r
theorem RFle.refl (a:RF):RFle a a:=fun _ _ _ _ e => e
theorem callOp_mono {a b:RF} (h:RFle a b) {f:FuncId} {xs:List AV} {st:St} {r:AV × HW × Nat} (e:callOp a f xs st=some r):callOp b f xs st=some r:=by
 unfold callOp at *
 simp only at *
 split at e
 ·rename_i x bl he
  rw [h _ _ _ _ he]; exact e
 ·cases e
theorem yldOp_mono {a b:RF} (h:RFle a b) {n:Nat} {xs:List AV} {st:St} {r:AV × HW × Nat} (e:yldOp a n xs st=some r):yldOp b n xs st=some r:=by
 unfold yldOp at *
 split at e
 ·rename_i pf caps hb
  split at e
  ·rename_i x ws nn he
   rw [callOp_mono h he]; exact e
  ·cases e
 ·cases e
theorem callV_mono {a b:RF} (h:RFle a b) {f:AV} {xs:List AV} {st:St} {r:AV × HW × Nat} (e:callV a f xs st=some r):callV b f xs st=some r:=by
 cases f <;> simp only [callV] at * <;> first | exact yldOp_mono h e | (cases e; done) | (split at e <;> first | (rename_i hg; rw [if_pos hg]; exact callOp_mono h e) | cases e)
theorem rfnOp_mono {G:Nat→Option (List FV)} {a b:RF} (h:RFle a b) {g:LX} {pf:FuncId} {caps its:List Nat} {st:St} {r:Ex × St} (e:rfnOp G a g pf caps its st=some r):rfnOp G b g pf caps its st=some r:=by
 unfold rfnOp at *
 by_cases hi:itOk its (LX.av G st.sl g)=true
 ·rw [if_pos hi] at e ⊢
  split at e
  ·rename_i x ws nn he
   rw [callV_mono h he]; exact e
  ·cases e
 ·rw [if_neg hi] at e; cases e
theorem heapOp_mono {a b:RF} (h:RFle a b) {av:LX→AV} {nm:Nat} {st:St} {o:LOp} {r:AV × HW × Nat} (e:heapOp a av nm st o=some r):heapOp b av nm st o=some r:=by
 cases o <;> try exact e
 case call f xs =>
  simp only [heapOp] at *
  exact callV_mono h e
 case inv tb x xs =>
  simp only [heapOp] at *
  split at e
  ·split at e
   ·exact callOp_mono h e
   ·cases e
  ·cases e
 case lcall f xs =>
  simp only [heapOp] at *
  split at e
  ·split at e
   ·rename_i ys hys
    split at e
    ·rename_i x he
     split at he
     ·rename_i hg
      rw [if_pos hg,h _ _ _ _ he]; exact e
     ·cases he
    ·cases e
   ·cases e
  ·cases e
theorem coreOp_mono {G:Nat→Option (List FV)} {a b:RF} (h:RFle a b) {o:LOper} {nm:Nat} {st:St} {s:AV × HW × Nat} (e:coreOp G a o nm st=some s):coreOp G b o nm st=some s:=by
 have key : ∀ r,heapOp a (LX.av G st.sl) nm st o.op=some r→heapOp b (LX.av G st.sl) nm st o.op=some r:=fun r e => heapOp_mono h e
 unfold coreOp at *
 simp only at *
 split at e
 ·split at e
  ·rename_i hh; rw [if_pos hh]; exact key _ e
  ·rename_i hh; rw [if_neg hh]; exact e
 ·split at e
  ·split at e
   ·rename_i h1
    rw [if_pos h1]
    split at e
    ·rename_i hh; rw [if_pos hh]; exact key _ e
    ·rename_i hh; rw [if_neg hh]; exact e
   ·rename_i h1; rw [if_neg h1]; exact e
  ·exact e
  ·cases e
theorem stepOp_mono {G:Nat→Option (List FV)} {a b:RF} (h:RFle a b) {o:LOper} {nm:Nat} {st s:St} (e:stepOp G a o nm st=some s):stepOp G b o nm st=some s:=by
 unfold stepOp at *
 cases hr:coreOp G a o nm st with
 | none => rw [hr] at e; cases e
 | some r => rw [hr] at e; rw [coreOp_mono h hr]; exact e
theorem stepOps_mono {G:Nat→Option (List FV)} {a b:RF} (h:RFle a b) : ∀ {l:List LOper} {nm:Nat} {st s:St},stepOps G a l nm st=some s→stepOps G b l nm st=some s
 | [],_,_,_,e => e
 | o :: r, nm, st, s, e => by
  simp only [stepOps] at *
  split at e
  ·rename_i s1 h1
   rw [stepOp_mono h h1]
   exact stepOps_mono h e
  ·cases e
theorem drawOps_mono {G:Nat→Option (List FV)} {a b:RF} (h:RFle a b) {prs:List (Nat × Nat)} : ∀ {l:List LOper} {i nm:Nat} {st:St} {s:St × List (Nat × List Nat)},drawOps G a prs l i nm st=some s→drawOps G b prs l i nm st=some s
 | [],_,_,_,_,e => e
 | o :: r, i, nm, st, s, e => by
  simp only [drawOps] at *
  cases h1:coreOp G a o nm st with
  | none => rw [h1] at e; cases e
  | some p =>
   rw [h1] at e
   rw [coreOp_mono h h1]
   simp only at e ⊢
   cases h2:drawOps G a prs r (i + 1) (nm + 1) (st.put o.dst p) with
   | none => rw [h2] at e; cases e
   | some q => rw [h2] at e; rw [drawOps_mono h h2]; exact e
theorem runDraw_mono {G:Nat→Option (List FV)} {a b:RF} (h:RFle a b) {prs:List (Nat × Nat)} {l:List LOper} {st s:St} (e:runDraw G a l prs st=some s):runDraw G b l prs st=some s:=by
 unfold runDraw at *
 cases h2:drawOps G a prs l 0 st.nx { st with nx:=st.nx + l.length } with
 | none => rw [h2] at e; cases e
 | some q => rw [h2] at e; rw [drawOps_mono h h2]; exact e
theorem rngR_mono {m:Nat} {live:List Nat} {nx more it:Nat} {s1 f1 s2 f2:St→Option (Ex × St)} (hs : ∀ st r,s1 st=some r→s2 st=some r) (hf : ∀ st r,f1 st=some r→f2 st=some r) :
 ∀ {n n':Nat} {st:St} {r:Ex × St},n≤n'→rngR m live nx more it s1 f1 n st r→rngR m live nx more it s2 f2 n' st r:=by
 intro n
 induction n with
 | zero => intro n' st r _ h; exact h.elim
 | succ n ih =>
  intro n' st r hn h
  cases n' with
  | zero => omega
  | succ n' =>
   obtain ⟨hd,e,h1,h2⟩:=h
   refine ⟨hd,e,fun hl => hf _ _ (h1 hl),fun p hp => ?_⟩
   obtain ⟨s,g1,g2⟩:=h2 p hp
   exact ⟨s,hs _ _ g1,ih (by omega) g2⟩
theorem rngR_uniq {m:Nat} {live:List Nat} {nx more it:Nat} {step fin:St→Option (Ex × St)} : ∀ {n n':Nat} {st:St} {r r':Ex × St},rngR m live nx more it step fin n st r→rngR m live nx more it step fin n' st r'→r=r':=by
 intro n
 induction n with
 | zero => intro n' st r r' h; exact h.elim
 | succ n ih =>
  intro n' st r r' h h'
  cases n' with
  | zero => exact h'.elim
  | succ n' =>
   obtain ⟨hd,e,h1,h2⟩:=h
   obtain ⟨hd',e',h1',h2'⟩:=h'
   rw [e] at e'
   injection e' with e'
   subst e'
   cases hl:hd.left with
   | nil =>
    have a:=h1 hl
    rw [h1' hl] at a
    injection a with a
    exact a.symm
   | cons p q =>
    obtain ⟨s,g1,g2⟩:=h2 p (by rw [hl]; exact List.mem_cons_self)
    obtain ⟨s',g1',g2'⟩:=h2' p (by rw [hl]; exact List.mem_cons_self)
    rw [g1] at g1'
    injection g1' with g1'
    injection g1' with _ g1'
    subst g1'
    exact ih g2 g2'
theorem rngO_some {R:Ex × St→Prop} (hu : ∀ r r',R r→R r'→r=r') {r:Ex × St}:rngO R=some r↔R r:=by
 unfold rngO
 constructor
 ·intro e
  split at e
  ·rename_i h
   injection e with e
   rw [← e]
   exact Classical.choose_spec h
  ·cases e
 ·intro h
  have hx : ∃ r,R r:=⟨r,h⟩
  rw [dif_pos hx,hu _ _ (Classical.choose_spec hx) h]
theorem finR_mono {m:Nat} {live2:List Nat} {x y:Option (Ex × St)} (h : ∀ r,x=some r→y=some r) {r:Ex × St} (e:finR m live2 x=some r):finR m live2 y=some r:=by
 cases x with
 | none => cases e
 | some p => rw [h p rfl]; exact e
theorem list_bound {α:Type} {Q:Nat→α→Prop} (hm : ∀ k k' a,k≤k'→Q k a→Q k' a) : ∀ l:List α,(∀ a,a∈l→∃ k,Q k a)→∃ k,∀ a,a∈l→Q k a
 | [],_ => ⟨0,fun a h => by cases h⟩
 | b :: l,h => by
  obtain ⟨k1,h1⟩:=h b List.mem_cons_self
  obtain ⟨k2,h2⟩:=list_bound hm l fun a ha => h a (List.mem_cons_of_mem _ ha)
  refine ⟨max k1 k2,fun a ha => ?_⟩
  rcases List.mem_cons.1 ha with rfl | ha
  ·exact hm _ _ _ (Nat.le_max_left _ _) h1
  ·exact hm _ _ _ (Nat.le_max_right _ _) (h2 a ha)
theorem rngR_lim {m:Nat} {live:List Nat} {nx more it:Nat} {s f:St→Option (Ex × St)} {sk fk:Nat→St→Option (Ex × St)}
 (ms : ∀ k k' st r,k≤k'→sk k st=some r→sk k' st=some r) (mf : ∀ k k' st r,k≤k'→fk k st=some r→fk k' st=some r)
 (ls : ∀ st r,s st=some r→∃ k,sk k st=some r) (lf : ∀ st r,f st=some r→∃ k,fk k st=some r) :
 ∀ {n:Nat} {st:St} {r:Ex × St},rngR m live nx more it s f n st r→∃ k,rngR m live nx more it (sk k) (fk k) n st r:=by
 intro n
 induction n with
 | zero => intro st r h; exact h.elim
 | succ n ih =>
  intro st r h
  obtain ⟨hd,e,h1,h2⟩:=h
  have key:=list_bound (Q:=fun k p => ∃ s1,sk k (rngTake (norm m live st) nx more hd p)=some (.nor,s1)∧rngR m live nx more it (sk k) (fk k) n s1 r)
   (fun k k' p hk ⟨s1,g1,g2⟩ => ⟨s1,ms _ _ _ _ hk g1,rngR_mono (fun st r => ms _ _ st r hk) (fun st r => mf _ _ st r hk) (Nat.le_refl _) g2⟩) hd.left
   (fun p hp => by
     obtain ⟨s1,g1,g2⟩:=h2 p hp
     obtain ⟨k1,e1⟩:=ls _ _ g1
     obtain ⟨k2,e2⟩:=ih g2
     exact ⟨max k1 k2,s1,ms _ _ _ _ (Nat.le_max_left _ _) e1,rngR_mono (fun st r => ms _ _ st r (Nat.le_max_right _ _)) (fun st r => mf _ _ st r (Nat.le_max_right _ _)) (Nat.le_refl _) e2⟩)
  obtain ⟨k1,hk1⟩:=key
  by_cases hl:hd.left=[]
  ·obtain ⟨k2,e2⟩:=lf _ _ (h1 hl)
   exact ⟨k2,hd,e,fun _ => e2,fun p hp => by rw [hl] at hp; cases hp⟩
  ·exact ⟨k1,hd,e,fun h => absurd h hl,hk1⟩
theorem exec_mono {G:Nat→Option (List FV)} {a b:RF} (h:RFle a b) {m:Nat} : ∀ {n:Nat} {c:LCode} {st:St} {r:Ex × St},exec G a m n c st=some r→exec G b m (n + 1) c st=some r:=by
 intro n
 induction n with
 | zero => intro c st r e; simp [exec] at e
 | succ n ih =>
  intro c st r e
  cases c with
  | skip => simpa [exec] using e
  | pre cs x => simp only [exec] at *; exact ih e
  | ops l =>
   simp only [exec,runOps] at *
   split at e
   ·rename_i s hs; rw [stepOps_mono h hs]; exact e
   ·cases e
  | draw l prs =>
   simp only [exec] at *
   split at e
   ·rename_i s hs; rw [runDraw_mono h hs]; exact e
   ·cases e
  | seq x y =>
   rw [exec] at e ⊢
   cases hx:exec G a m n x st with
   | none => rw [hx] at e; simp at e
   | some p =>
    obtain ⟨ex,s⟩:=p
    rw [hx] at e
    rw [ih hx]
    cases ex <;> simp only at e ⊢
    ·exact ih e
    ·exact e
    ·exact e
  | cond c x y =>
   simp only [exec] at *
   split at e
   ·split at e
    ·rename_i ht; rw [if_pos ht]; exact ih e
    ·rename_i ht; rw [if_neg ht]; exact ih e
   ·cases e
  | block id x =>
   rw [exec] at e ⊢
   cases hx:exec G a m n x st with
   | none => rw [hx] at e; simp at e
   | some p => rw [hx] at e; rw [ih hx]; exact e
  | loop live x =>
   rw [exec] at e ⊢
   cases hx:exec G a m n x (norm m live st) with
   | none => rw [hx] at e; simp at e
   | some p =>
    obtain ⟨ex,s⟩:=p
    rw [hx] at e
    rw [ih hx]
    cases ex <;> simp only at e ⊢
    ·exact ih e
    ·exact e
    ·exact e
  | rng live nx more it out x y live2 =>
   simp only [exec] at *
   have e:=(rngO_some fun _ _ => rngR_uniq).1 e
   exact (rngO_some fun _ _ => rngR_uniq).2 (rngR_mono (fun st r => ih) (fun st r => finR_mono fun r => ih) (Nat.le_succ _) e)
  | rfn g pf caps its => simp only [exec] at *; exact rfnOp_mono h e
  | exit id => simpa [exec] using e
  | ret => simpa [exec] using e
  | bad => simp [exec] at e
theorem exec_mono' {G:Nat→Option (List FV)} {a b:RF} (h:RFle a b) {m n n':Nat} (hn:n≤n') {c:LCode} {st:St} {r:Ex × St} (e:exec G a m n c st=some r):exec G b m n' c st=some r:=by
 induction hn with
 | refl =>
  have h1 : ∀ {n:Nat} {c:LCode} {st:St} {r:Ex × St},exec G a m n c st=some r→exec G b m n c st=some r:=by
   intro n
   induction n with
   | zero => intro c st r e; simp [exec] at e
   | succ n ih =>
    intro c st r e
    cases c with
    | skip => simpa [exec] using e
    | pre cs x => simp only [exec] at *; exact ih e
    | ops l =>
     simp only [exec,runOps] at *
     split at e
     ·rename_i s hs; rw [stepOps_mono h hs]; exact e
     ·cases e
    | draw l prs =>
     simp only [exec] at *
     split at e
     ·rename_i s hs; rw [runDraw_mono h hs]; exact e
     ·cases e
    | seq x y =>
     rw [exec] at e ⊢
     cases hx:exec G a m n x st with
     | none => rw [hx] at e; simp at e
     | some p =>
      obtain ⟨ex,s⟩:=p
      rw [hx] at e
      rw [ih hx]
      cases ex <;> simp only at e ⊢
      ·exact ih e
      ·exact e
      ·exact e
    | cond c x y =>
     simp only [exec] at *
     split at e
     ·split at e
      ·rename_i ht; rw [if_pos ht]; exact ih e
      ·rename_i ht; rw [if_neg ht]; exact ih e
     ·cases e
    | block id x =>
     rw [exec] at e ⊢
     cases hx:exec G a m n x st with
     | none => rw [hx] at e; simp at e
     | some p => rw [hx] at e; rw [ih hx]; exact e
    | loop live x =>
     rw [exec] at e ⊢
     cases hx:exec G a m n x (norm m live st) with
     | none => rw [hx] at e; simp at e
     | some p =>
      obtain ⟨ex,s⟩:=p
      rw [hx] at e
      rw [ih hx]
      cases ex <;> simp only at e ⊢
      ·exact ih e
      ·exact e
      ·exact e
    | rng live nx more it out x y live2 =>
     simp only [exec] at *
     have e:=(rngO_some fun _ _ => rngR_uniq).1 e
     exact (rngO_some fun _ _ => rngR_uniq).2 (rngR_mono (fun st r => ih) (fun st r => finR_mono fun r => ih) (Nat.le_refl _) e)
    | rfn g pf caps its => simp only [exec] at *; exact rfnOp_mono h e
    | exit id => simpa [exec] using e
    | ret => simpa [exec] using e
    | bad => simp [exec] at e
  exact h1 e
 | step _ ih => exact exec_mono (RFle.refl b) ih
theorem runN_mono (v:Env) : ∀ n,RFle (runN v.G v.T v.E n) (runN v.G v.T v.E (n + 1)):=by
 intro n
 induction n with
 | zero => intro f xs bl r e; simp [runN] at e
 | succ n ih =>
  intro f xs bl r e
  rw [runN] at e ⊢
  split at e
  ·rename_i L hL
   split at e
   ·cases hx:exec v.G (runN v.G v.T v.E n) bl.length n L.body (coSts L.ent { sl:=slots0 0 xs,hp:=numd 0 bl,nx:=bl.length }) with
    | none => rw [hx] at e; simp at e
    | some p => rw [hx] at e; rw [exec_mono ih hx]; exact e
   ·split at e
    ·rename_i sl hsl
     cases hx:exec v.G (runN v.G v.T v.E n) bl.length n L.body (coSts L.ent { sl:=sl,hp:=numd 0 bl,nx:=bl.length }) with
     | none => rw [hx] at e; simp at e
     | some p => rw [hx] at e; rw [exec_mono ih hx]; exact e
    ·cases e
  ·exact e
noncomputable def Env.run (v:Env):RF:=fun f xs bl => limit fun n => runN v.G v.T v.E n f xs bl
noncomputable def Env.ex (v:Env) (m:Nat) (c:LCode) (st:St):Option (Ex × St):=limit fun n => exec v.G v.run m n c st
theorem Env.run_some (v:Env) {f:FuncId} {xs:List AV} {bl:List (Option Blk)} {r:AV × List (Option Blk)}:v.run f xs bl=some r↔∃ n,runN v.G v.T v.E n f xs bl=some r :=
 limit_some fun n r e => runN_mono v n _ _ _ _ e
theorem Env.ex_some (v:Env) {m:Nat} {c:LCode} {st:St} {r:Ex × St}:v.ex m c st=some r↔∃ n,exec v.G v.run m n c st=some r :=
 limit_some (f:=fun n => exec v.G v.run m n c st) fun n r e => exec_mono (RFle.refl _) e
theorem runN_le (v:Env) (n:Nat):RFle (runN v.G v.T v.E n) v.run:=fun f xs bl r e => v.run_some.2 ⟨n,e⟩
theorem runN_le' (v:Env) {n m:Nat} (h:n≤m):RFle (runN v.G v.T v.E n) (runN v.G v.T v.E m):=by
 induction h with
 | refl => exact RFle.refl _
 | step _ ih => exact fun f xs bl r e => runN_mono v _ _ _ _ _ (ih _ _ _ _ e)
theorem callOp_cont (v:Env) {f:FuncId} {xs:List AV} {st:St} {r:AV × HW × Nat} (e:callOp v.run f xs st=some r) : ∃ n,callOp (runN v.G v.T v.E n) f xs st=some r:=by
 unfold callOp at *
 simp only at *
 split at e
 ·rename_i x bl he
  obtain ⟨n,hn⟩:=v.run_some.1 he
  exact ⟨n,by rw [hn]; exact e⟩
 ·cases e
theorem callV_cont (v:Env) {f:AV} {xs:List AV} {st:St} {r:AV × HW × Nat} (e:callV v.run f xs st=some r) : ∃ n,callV (runN v.G v.T v.E n) f xs st=some r:=by
 cases f <;> simp only [callV] at * <;> first | (cases e; done) | (split at e <;> first | (cases e; done) | (rename_i hg; obtain ⟨n,hn⟩:=callOp_cont v e; exact ⟨n,by rw [if_pos hg]; exact hn⟩)) | skip
 unfold yldOp at *
 split at e
 ·rename_i pf caps hb
  split at e
  ·rename_i x ws nn he
   obtain ⟨n,hn⟩:=callOp_cont v he
   exact ⟨n,by rw [hn]; exact e⟩
  ·cases e
 ·cases e
theorem rfnOp_cont (v:Env) {g:LX} {pf:FuncId} {caps its:List Nat} {st:St} {r:Ex × St} (e:rfnOp v.G v.run g pf caps its st=some r) : ∃ n,rfnOp v.G (runN v.G v.T v.E n) g pf caps its st=some r:=by
 unfold rfnOp at *
 by_cases hi:itOk its (LX.av v.G st.sl g)=true
 ·simp only [if_pos hi] at e ⊢
  split at e
  ·rename_i x ws nn he
   obtain ⟨n,hn⟩:=callV_cont v he
   exact ⟨n,by rw [hn]; exact e⟩
  ·cases e
 ·rw [if_neg hi] at e; cases e
theorem coreOp_cont (v:Env) {o:LOper} {nm:Nat} {st:St} {s:AV × HW × Nat} (e:coreOp v.G v.run o nm st=some s) : ∃ n,coreOp v.G (runN v.G v.T v.E n) o nm st=some s:=by
 have key : ∀ r, heapOp v.run (LX.av v.G st.sl) nm st o.op = some r → ∃ n, heapOp (runN v.G v.T v.E n) (LX.av v.G st.sl) nm st o.op = some r := by
  intro r e
  cases ho:o.op <;> rw [ho] at e <;> try exact ⟨0,e⟩
  case call f xs =>
   simp only [heapOp] at *
   exact callV_cont v e
  case inv tb x xs =>
   simp only [heapOp] at *
   split at e
   ·split at e
    ·exact callOp_cont v e
    ·cases e
   ·cases e
  case lcall f xs =>
   simp only [heapOp] at *
   split at e
   ·split at e
    ·rename_i ys hys
     split at e
     ·rename_i x he
      split at he
      ·rename_i hg
       obtain ⟨n,hn⟩:=v.run_some.1 he
       exact ⟨n,by rw [if_pos hg,hn]; exact e⟩
      ·cases he
     ·cases e
    ·cases e
   ·cases e
 unfold coreOp at *
 simp only at *
 split at e
 ·split at e
  ·rename_i hh
   obtain ⟨n,hn⟩:=key _ e
   exact ⟨n,by rw [if_pos hh]; exact hn⟩
  ·rename_i hh; exact ⟨0,by rw [if_neg hh]; exact e⟩
 ·split at e
  ·split at e
   ·rename_i h1
    split at e
    ·rename_i hh
     obtain ⟨n,hn⟩:=key _ e
     exact ⟨n,by rw [if_pos h1,if_pos hh]; exact hn⟩
    ·rename_i hh; exact ⟨0,by rw [if_pos h1,if_neg hh]; exact e⟩
   ·rename_i h1; exact ⟨0,by rw [if_neg h1]; exact e⟩
  ·exact ⟨0,e⟩
  ·cases e
theorem stepOps_cont (v:Env) : ∀ {l:List LOper} {nm:Nat} {st s:St},stepOps v.G v.run l nm st=some s→∃ n,stepOps v.G (runN v.G v.T v.E n) l nm st=some s
 | [],_,_,_,e => ⟨0,e⟩
 | o :: r, nm, st, s, e => by
  simp only [stepOps,stepOp] at *
  cases h1:coreOp v.G v.run o nm st with
  | none => rw [h1] at e; cases e
  | some p =>
   rw [h1] at e
   simp only at e
   obtain ⟨n1,e1⟩:=coreOp_cont v h1
   obtain ⟨n2,e2⟩:=stepOps_cont v e
   refine ⟨max n1 n2,?_⟩
   rw [coreOp_mono (runN_le' v (Nat.le_max_left n1 n2)) e1]
   exact stepOps_mono (runN_le' v (Nat.le_max_right n1 n2)) e2
theorem drawOps_cont (v:Env) {prs:List (Nat × Nat)} : ∀ {l:List LOper} {i nm:Nat} {st:St} {s:St × List (Nat × List Nat)},drawOps v.G v.run prs l i nm st=some s→∃ n,drawOps v.G (runN v.G v.T v.E n) prs l i nm st=some s
 | [],_,_,_,_,e => ⟨0,e⟩
 | o :: r, i, nm, st, s, e => by
  simp only [drawOps] at *
  cases h1:coreOp v.G v.run o nm st with
  | none => rw [h1] at e; cases e
  | some p =>
   rw [h1] at e
   simp only at e
   cases h2:drawOps v.G v.run prs r (i + 1) (nm + 1) (st.put o.dst p) with
   | none => rw [h2] at e; cases e
   | some q =>
    rw [h2] at e
    obtain ⟨n1,e1⟩:=coreOp_cont v h1
    obtain ⟨n2,e2⟩:=drawOps_cont v h2
    refine ⟨max n1 n2,?_⟩
    rw [coreOp_mono (runN_le' v (Nat.le_max_left n1 n2)) e1]
    simp only
    rw [drawOps_mono (runN_le' v (Nat.le_max_right n1 n2)) e2]
    exact e
theorem runDraw_cont (v:Env) {prs:List (Nat × Nat)} {l:List LOper} {st s:St} (e:runDraw v.G v.run l prs st=some s) : ∃ n,runDraw v.G (runN v.G v.T v.E n) l prs st=some s:=by
 unfold runDraw at *
 cases h2:drawOps v.G v.run prs l 0 st.nx { st with nx:=st.nx + l.length } with
 | none => rw [h2] at e; cases e
 | some q =>
  rw [h2] at e
  obtain ⟨n,hn⟩:=drawOps_cont v h2
  exact ⟨n,by rw [hn]; exact e⟩
theorem exec_cont (v:Env) {m:Nat} : ∀ {n:Nat} {c:LCode} {st:St} {r:Ex × St},exec v.G v.run m n c st=some r→∃ k,exec v.G (runN v.G v.T v.E k) m n c st=some r:=by
 intro n
 induction n with
 | zero => intro c st r e; simp [exec] at e
 | succ n ih =>
  intro c st r e
  cases c with
  | skip => exact ⟨0,by simpa [exec] using e⟩
  | pre cs x =>
   simp only [exec] at *
   exact ih e
  | ops l =>
   simp only [exec,runOps] at *
   split at e
   ·rename_i s hs
    obtain ⟨k,hk⟩:=stepOps_cont v hs
    exact ⟨k,by rw [hk]; exact e⟩
   ·cases e
  | draw l prs =>
   simp only [exec] at *
   split at e
   ·rename_i s hs
    obtain ⟨k,hk⟩:=runDraw_cont v hs
    exact ⟨k,by rw [hk]; exact e⟩
   ·cases e
  | seq x y =>
   rw [exec] at e
   cases hx:exec v.G v.run m n x st with
   | none => rw [hx] at e; simp at e
   | some p =>
    obtain ⟨ex,s⟩:=p
    rw [hx] at e
    obtain ⟨k1,e1⟩:=ih hx
    cases ex <;> simp only at e
    ·obtain ⟨k2,e2⟩:=ih e
     refine ⟨max k1 k2,?_⟩
     rw [exec,exec_mono' (runN_le' v (Nat.le_max_left k1 k2)) (Nat.le_refl _) e1]
     exact exec_mono' (runN_le' v (Nat.le_max_right k1 k2)) (Nat.le_refl _) e2
    ·exact ⟨k1,by rw [exec,e1]; exact e⟩
    ·exact ⟨k1,by rw [exec,e1]; exact e⟩
  | cond c x y =>
   simp only [exec] at *
   split at e
   ·split at e
    ·rename_i ht
     obtain ⟨k,hk⟩:=ih e
     exact ⟨k,by rw [if_pos ht]; exact hk⟩
    ·rename_i ht
     obtain ⟨k,hk⟩:=ih e
     exact ⟨k,by rw [if_neg ht]; exact hk⟩
   ·cases e
  | block id x =>
   rw [exec] at e
   cases hx:exec v.G v.run m n x st with
   | none => rw [hx] at e; simp at e
   | some p =>
    rw [hx] at e
    obtain ⟨k,hk⟩:=ih hx
    exact ⟨k,by rw [exec,hk]; exact e⟩
  | loop live x =>
   rw [exec] at e
   cases hx:exec v.G v.run m n x (norm m live st) with
   | none => rw [hx] at e; simp at e
   | some p =>
    obtain ⟨ex,s⟩:=p
    rw [hx] at e
    obtain ⟨k1,e1⟩:=ih hx
    cases ex <;> simp only at e
    ·obtain ⟨k2,e2⟩:=ih e
     refine ⟨max k1 k2,?_⟩
     rw [exec,exec_mono' (runN_le' v (Nat.le_max_left k1 k2)) (Nat.le_refl _) e1]
     exact exec_mono' (runN_le' v (Nat.le_max_right k1 k2)) (Nat.le_refl _) e2
    ·exact ⟨k1,by rw [exec,e1]; exact e⟩
    ·exact ⟨k1,by rw [exec,e1]; exact e⟩
  | rng live nx more it out x y live2 =>
   simp only [exec] at *
   have e:=(rngO_some fun _ _ => rngR_uniq).1 e
   obtain ⟨k,hk⟩:=rngR_lim (sk:=fun k s => exec v.G (runN v.G v.T v.E k) m n x s) (fk:=fun k s => finR m live2 (exec v.G (runN v.G v.T v.E k) m n y s))
    (fun k k' st r hk => exec_mono' (runN_le' v hk) (Nat.le_refl _)) (fun k k' st r hk => finR_mono fun r => exec_mono' (runN_le' v hk) (Nat.le_refl _))
    (fun st r => ih) (fun st r e => by
      cases hx:exec v.G v.run m n y st with
      | none => rw [hx] at e; cases e
      | some p =>
       rw [hx] at e
       obtain ⟨k,hk⟩:=ih hx
       exact ⟨k,by rw [hk]; exact e⟩) e
   exact ⟨k,(rngO_some fun _ _ => rngR_uniq).2 hk⟩
  | rfn g pf caps its =>
   simp only [exec] at *
   obtain ⟨k,hk⟩:=rfnOp_cont v e
   exact ⟨k,hk⟩
  | exit id => exact ⟨0,by simpa [exec] using e⟩
  | ret => exact ⟨0,by simpa [exec] using e⟩
  | bad => simp [exec] at e
theorem eq_of_some {α:Type} {a b:Option α} (h : ∀ r,a=some r↔b=some r):a=b:=by
 cases a with
 | none => cases b with
  | none => rfl
  | some b => exact absurd ((h b).2 rfl) (by simp)
 | some a => exact ((h a).1 rfl).symm
variable (v:Env) (m:Nat)
theorem Env.ex_skip (st:St):v.ex m .skip st=some (.nor,st):=v.ex_some.2 ⟨1,rfl⟩
theorem Env.ex_pre (cs:List Co) (c:LCode) (st:St):v.ex m (.pre cs c) st=v.ex m c (coSts cs st):=by
 refine eq_of_some fun r => ?_
 rw [v.ex_some,v.ex_some]
 constructor
 ·rintro ⟨n,e⟩
  cases n with
  | zero => simp [exec] at e
  | succ n => exact ⟨n,by simpa only [exec] using e⟩
 ·rintro ⟨n,e⟩
  exact ⟨n + 1,by simpa only [exec] using e⟩
theorem Env.ex_exit (id:Nat) (st:St):v.ex m (.exit id) st=some (.exit id,st):=v.ex_some.2 ⟨1,rfl⟩
theorem Env.ex_ret (st:St):v.ex m .ret st=some (.ret,st):=v.ex_some.2 ⟨1,rfl⟩
def norR (s:Option St):Option (Ex × St):=match s with
 | some s => some (.nor,s)
 | none => none
theorem Env.ex_ops (l:List LOper) (st:St):v.ex m (.ops l) st=norR (runOps v.G v.run l st):=by
 refine eq_of_some fun r => ?_
 rw [v.ex_some]
 constructor
 ·rintro ⟨n,e⟩
  cases n with
  | zero => simp [exec] at e
  | succ n => simp only [exec] at e; exact e
 ·intro e; exact ⟨1,by simp only [exec]; exact e⟩
theorem Env.ex_draw (l:List LOper) (prs:List (Nat × Nat)) (st:St):v.ex m (.draw l prs) st=norR (runDraw v.G v.run l prs st):=by
 refine eq_of_some fun r => ?_
 rw [v.ex_some]
 constructor
 ·rintro ⟨n,e⟩
  cases n with
  | zero => simp [exec] at e
  | succ n => simp only [exec] at e; exact e
 ·intro e; exact ⟨1,by simp only [exec]; exact e⟩
def thenR (r:Option (Ex × St)) (k:St→Option (Ex × St)):Option (Ex × St):=match r with
 | some (.nor,s) => k s
 | r => r
theorem Env.ex_seq (a b:LCode) (st:St):v.ex m (.seq a b) st=thenR (v.ex m a st) (v.ex m b):=by
 refine eq_of_some fun r => ?_
 rw [v.ex_some]
 constructor
 ·rintro ⟨n,e⟩
  cases n with
  | zero => simp [exec] at e
  | succ n =>
   rw [exec] at e
   cases hx:exec v.G v.run m n a st with
   | none => rw [hx] at e; simp at e
   | some p =>
    obtain ⟨ex,s⟩:=p
    rw [hx] at e
    rw [v.ex_some.2 ⟨n,hx⟩]
    cases ex <;> simp only [thenR] at e ⊢
    ·exact v.ex_some.2 ⟨n,e⟩
    ·exact e
    ·exact e
 ·intro e
  cases hx:v.ex m a st with
  | none => rw [hx] at e; simp [thenR] at e
  | some p =>
   obtain ⟨ex,s⟩:=p
   rw [hx] at e
   obtain ⟨n1,e1⟩:=v.ex_some.1 hx
   cases ex <;> simp only [thenR] at e
   ·obtain ⟨n2,e2⟩:=v.ex_some.1 e
    refine ⟨max n1 n2 + 1,?_⟩
    rw [exec,exec_mono' (RFle.refl _) (Nat.le_max_left n1 n2) e1]
    exact exec_mono' (RFle.refl _) (Nat.le_max_right n1 n2) e2
   ·exact ⟨n1 + 1,by rw [exec,e1]; exact e⟩
   ·exact ⟨n1 + 1,by rw [exec,e1]; exact e⟩
def condR (c:AV) (a b:Option (Ex × St)):Option (Ex × St):=match c with
 | .fz (.sc (.bool t)) => if t then a else b
 | _ => none
theorem Env.ex_cond (c:LX) (a b:LCode) (st:St):v.ex m (.cond c a b) st=condR (LX.av v.G st.sl c) (v.ex m a st) (v.ex m b st):=by
 refine eq_of_some fun r => ?_
 rw [v.ex_some]
 constructor
 ·rintro ⟨n,e⟩
  cases n with
  | zero => simp [exec] at e
  | succ n =>
   simp only [exec,condR] at *
   split at e
   ·rename_i t hc
    rw [hc]
    split at e
    ·rename_i ht; simp only [ht,if_true]; exact v.ex_some.2 ⟨n,e⟩
    ·rename_i ht; simp only [ht,if_false]; exact v.ex_some.2 ⟨n,e⟩
   ·cases e
 ·intro e
  simp only [condR] at e
  split at e
  ·rename_i t hc
   split at e
   ·rename_i ht; obtain ⟨n,hn⟩:=v.ex_some.1 e; exact ⟨n + 1,by simp only [exec,hc]; simp only [ht,if_true]; exact hn⟩
   ·rename_i ht; obtain ⟨n,hn⟩:=v.ex_some.1 e; exact ⟨n + 1,by simp only [exec,hc]; simp only [ht,if_false]; exact hn⟩
  ·cases e
def blockR (id:Nat) (r:Option (Ex × St)):Option (Ex × St):=match r with
 | some (.exit i,s) => if i=id then some (.nor,s) else some (.exit i,s)
 | r => r
theorem Env.ex_block (id:Nat) (b:LCode) (st:St):v.ex m (.block id b) st=blockR id (v.ex m b st):=by
 refine eq_of_some fun r => ?_
 rw [v.ex_some]
 constructor
 ·rintro ⟨n,e⟩
  cases n with
  | zero => simp [exec] at e
  | succ n =>
   rw [exec] at e
   cases hx:exec v.G v.run m n b st with
   | none => rw [hx] at e; simp at e
   | some p => rw [hx] at e; rw [v.ex_some.2 ⟨n,hx⟩]; exact e
 ·intro e
  cases hx:v.ex m b st with
  | none => rw [hx] at e; simp [blockR] at e
  | some p =>
   rw [hx] at e
   obtain ⟨n,hn⟩:=v.ex_some.1 hx
   exact ⟨n + 1,by rw [exec,hn]; exact e⟩
theorem Env.ex_loop (live:List Nat) (b:LCode) (st:St):v.ex m (.loop live b) st=thenR (v.ex m b (norm m live st)) (v.ex m (.loop live b)):=by
 refine eq_of_some fun r => ?_
 rw [v.ex_some]
 constructor
 ·rintro ⟨n,e⟩
  cases n with
  | zero => simp [exec] at e
  | succ n =>
   rw [exec] at e
   cases hx:exec v.G v.run m n b (norm m live st) with
   | none => rw [hx] at e; simp at e
   | some p =>
    obtain ⟨ex,s⟩:=p
    rw [hx] at e
    rw [v.ex_some.2 ⟨n,hx⟩]
    cases ex <;> simp only [thenR] at e ⊢
    ·exact v.ex_some.2 ⟨n,e⟩
    ·exact e
    ·exact e
 ·intro e
  cases hx:v.ex m b (norm m live st) with
  | none => rw [hx] at e; simp [thenR] at e
  | some p =>
   obtain ⟨ex,s⟩:=p
   rw [hx] at e
   obtain ⟨n1,e1⟩:=v.ex_some.1 hx
   cases ex <;> simp only [thenR] at e
   ·obtain ⟨n2,e2⟩:=v.ex_some.1 e
    refine ⟨max n1 n2 + 1,?_⟩
    rw [exec,exec_mono' (RFle.refl _) (Nat.le_max_left n1 n2) e1]
    exact exec_mono' (RFle.refl _) (Nat.le_max_right n1 n2) e2
   ·exact ⟨n1 + 1,by rw [exec,e1]; exact e⟩
   ·exact ⟨n1 + 1,by rw [exec,e1]; exact e⟩
theorem Env.ex_rng {live:List Nat} {nx more it out:Nat} {b k:LCode} {live2:List Nat} {st:St} {r:Ex × St} {n:Nat}
 (h:rngR m live nx more it (fun s => v.ex m b s) (fun s => finR m live2 (v.ex m k s)) n st r):v.ex m (.rng live nx more it out b k live2) st=some r:=by
 obtain ⟨N,hN⟩:=rngR_lim (sk:=fun j s => exec v.G v.run m j b s) (fk:=fun j s => finR m live2 (exec v.G v.run m j k s))
  (fun j j' st r hj => exec_mono' (RFle.refl _) hj) (fun j j' st r hj => finR_mono fun r => exec_mono' (RFle.refl _) hj)
  (fun st r e => v.ex_some.1 e) (fun st r e => by
    cases hx:v.ex m k st with
    | none => rw [hx] at e; cases e
    | some p =>
     rw [hx] at e
     obtain ⟨j,hj⟩:=v.ex_some.1 hx
     exact ⟨j,by rw [hj]; exact e⟩) h
 refine v.ex_some.2 ⟨max N n + 1,?_⟩
 simp only [exec]
 exact (rngO_some fun _ _ => rngR_uniq).2 (rngR_mono (fun st r => exec_mono' (RFle.refl _) (Nat.le_max_left _ _)) (fun st r => finR_mono fun r => exec_mono' (RFle.refl _) (Nat.le_max_left _ _)) (Nat.le_max_right _ _) hN)
def doneR (L:LFunc) (m:Nat) (r:Option (Ex × St)):Option (AV × List (Option Blk)):=match r with
 | some (.nor,st) => finish L m (coSts L.fin st)
 | some (.ret,st) => finish L m (coSts L.fin st)
 | _ => none
theorem Env.ex_rfn (g:LX) (pf:FuncId) (caps its:List Nat) (st:St):v.ex m (.rfn g pf caps its) st=rfnOp v.G v.run g pf caps its st:=by
 refine eq_of_some fun r => ?_
 rw [v.ex_some]
 constructor
 ·rintro ⟨n,e⟩
  cases n with
  | zero => simp [exec] at e
  | succ n => simp only [exec] at e; exact e
 ·intro e; exact ⟨1,by simp only [exec]; exact e⟩
theorem Env.run_code {f:FuncId} {L:LFunc} (hT:v.T f=some L) (hp:L.prm=none) (xs:List AV) (bl:List (Option Blk)) :
 v.run f xs bl=doneR L bl.length (v.ex bl.length L.body (coSts L.ent { sl:=slots0 0 xs,hp:=numd 0 bl,nx:=bl.length })):=by
 refine eq_of_some fun r => ?_
 rw [v.run_some]
 constructor
 ·rintro ⟨n,e⟩
  cases n with
  | zero => simp [runN] at e
  | succ n =>
   rw [runN,hT] at e
   simp only [hp] at e
   cases hx:exec v.G (runN v.G v.T v.E n) bl.length n L.body (coSts L.ent { sl:=slots0 0 xs,hp:=numd 0 bl,nx:=bl.length }) with
   | none => rw [hx] at e; simp at e
   | some p =>
    rw [hx] at e
    rw [v.ex_some.2 ⟨n,exec_mono' (runN_le v n) (Nat.le_refl _) hx⟩]
    exact e
 ·intro e
  cases hx:v.ex bl.length L.body (coSts L.ent { sl:=slots0 0 xs,hp:=numd 0 bl,nx:=bl.length }) with
  | none => rw [hx] at e; simp [doneR] at e
  | some p =>
   rw [hx] at e
   obtain ⟨n1,e1⟩:=v.ex_some.1 hx
   obtain ⟨n2,e2⟩:=exec_cont v e1
   refine ⟨max n1 n2 + 1,?_⟩
   rw [runN,hT]
   simp only [hp]
   rw [exec_mono' (runN_le' v (Nat.le_max_right n1 n2)) (Nat.le_max_left n1 n2) e2]
   exact e
theorem Env.run_round {f:FuncId} {L:LFunc} {ps:List Nat} (hT:v.T f=some L) (hp:L.prm=some ps) {xs:List AV} {bl:List (Option Blk)} {sl:List (Nat × AV)} (hs:slotsP ps xs=some sl) {ex:Ex} {st:St}
 (h:v.ex bl.length L.body (coSts L.ent { sl:=sl,hp:=numd 0 bl,nx:=bl.length })=some (ex,st)):v.run f xs bl=some (finishR L bl.length ex (coSts L.fin st)):=by
 rw [v.run_some]
 obtain ⟨n1,e1⟩:=v.ex_some.1 h
 obtain ⟨n2,e2⟩:=exec_cont v e1
 refine ⟨max n1 n2 + 1,?_⟩
 rw [runN,hT]
 simp only [hp,hs]
 rw [exec_mono' (runN_le' v (Nat.le_max_right n1 n2)) (Nat.le_max_left n1 n2) e2]
end Go.Vai
