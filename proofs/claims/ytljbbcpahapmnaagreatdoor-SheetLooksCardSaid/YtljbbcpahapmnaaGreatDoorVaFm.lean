/-
  A part of the abstract run of Go functions and of the proof that it tells the truth.
-/
import Derived.Maps.RangeRun
import Derived.Test.YtljbbcpahapmnaaGreatDoorVaF
set_option linter.unusedVariables false
set_option linter.unusedSimpArgs false
namespace Go.Vai
open Go.MapKept (run_setObj_map run_findKey heap_set)
variable {P:Program} {C:Ctx} {σ:Nat→Option Loc} {w:World} {a:Act} {nm:Nat} {hp:HW} {sl:List (Nat × AV)}
def KeyD (P:Program) (q:Nat) (kt:TypeId) (d:TypeDesc):Prop:=P.underlying kt=some d∧((q=0∧∃ kd,d=.int kd)∨(q=1∧d=.string)∨(q=3∧∃ fs,d=.struct fs∧fieldKinds P 0 fs.toList=some [0,0]∧P.stoodInHeld kt=false))
theorem keyK_inv {t e:TypeId} {q:Nat} (h:keyK P t=some (q,e)) : ∃ k d,P.underlying t=some (.map k e)∧KeyD P q k d:=by
 unfold keyK at h
 split at h
 ·rename_i k e' ht
  split at h
  ·rename_i kd hk
   injection h with h; injection h with h1 h2; subst h1; subst h2
   exact ⟨k,_,ht,hk,.inl ⟨rfl,kd,rfl⟩⟩
  ·rename_i hk
   injection h with h; injection h with h1 h2; subst h1; subst h2
   exact ⟨k,_,ht,hk,.inr (.inl ⟨rfl,rfl⟩)⟩
  ·rename_i fs hk
   split at h
   ·rename_i hc
    injection h with h; injection h with h1 h2; subst h1; subst h2
    exact ⟨k,_,ht,hk,.inr (.inr ⟨rfl,fs,rfl,hc.1,hc.2⟩)⟩
   ·cases h
  ·cases h
 ·cases h
theorem same_eqK {q:Nat} {d:TypeDesc} (hd:(q=0∧∃ kd,d=.int kd)∨(q=1∧d=.string)) {x y:Value} {r:Bool} (h:eqK q x y=some r):Instr.sameNow d x y=some r:=by
 rcases hd with ⟨rfl,kd,rfl⟩ | ⟨rfl,rfl⟩
 ·cases x <;> simp only [eqK] at h <;> try (cases h; done)
  cases y <;> simp only [eqK] at h <;> try (cases h; done)
  simp only [Instr.sameNow]
  split at h
  ·rename_i hk
   injection h with h
   rw [if_pos hk,← h]
   rfl
  ·cases h
 ·cases x <;> simp only [eqK] at h <;> try (cases h; done)
  cases y <;> simp only [eqK] at h <;> try (cases h; done)
  simp only [Instr.sameNow]
  injection h with h
  rw [← h]
  rename_i s1 s2
  congr 1
  have:=Go.MapKept.bytes_beq s1 s2
  by_cases e:s1=s2
  ·simp [e,this]
   exact (Go.MapKept.bytes_beq s2 s2).2 rfl
  ·simp only [e,decide_false]
   cases hb:(s1 == s2) with
   | false => rfl
   | true => exact absurd (this.1 hb) e
def EntR (h:PH) (es:List (Nat × Value × FV)) (E:List MapEntry):Prop :=
 E.length=es.length∧∀ (i:Nat) (p:Nat × Value × FV) (e:MapEntry),es[i]? = some p→E[i]? = some e→e.born=p.1∧e.key=p.2.1∧FR h p.2.2 e.val
theorem EntR.tail {h:PH} {p:Nat × Value × FV} {e:MapEntry} {es:List (Nat × Value × FV)} {E:List MapEntry} (r:EntR h (p :: es) (e :: E)):EntR h es E :=
 ⟨by simpa using r.1,fun i q f e1 e2 => r.2 (i + 1) q f (by simpa using e1) (by simpa using e2)⟩
theorem findM_none {h:PH} {q:Nat} {d:TypeDesc} (hd:(q=0∧∃ kd,d=.int kd)∨(q=1∧d=.string)) {key:Value} : ∀ {es:List (Nat × Value × FV)} {E:List MapEntry} {i:Nat},EntR h es E→findM q key es i=some none→Instr.findNow d key E i=some none
 | [],[],_,_,_ => rfl
 | [],_ :: _,_,r,_ => by have:=r.1; simp at this
 | _ :: _,[],_,r,_ => by have:=r.1; simp at this
 | p :: es, e :: E, i, r, hf => by
  have hk:=(r.2 0 p e rfl rfl).2.1
  simp only [findM] at hf
  split at hf
  ·cases hf
  ·rename_i he
   simp only [Instr.findNow,hk,same_eqK hd he]
   exact findM_none hd r.tail hf
  ·cases hf
theorem findM_some {h:PH} {q:Nat} {d:TypeDesc} (hd:(q=0∧∃ kd,d=.int kd)∨(q=1∧d=.string)) {key:Value} : ∀ {es:List (Nat × Value × FV)} {E:List MapEntry} {i j:Nat} {y:FV},EntR h es E→findM q key es i=some (some (j,y)) →
 ∃ n e p,j=i + n∧es[n]? = some p∧E[n]? = some e∧p.2.2=y∧eqK q key p.2.1=some true∧Instr.findNow d key E i=some (some (j,e.val))
 | [],_,_,_,_,_,hf => by simp [findM] at hf
 | _ :: _,[],_,_,_,r,_ => by have:=r.1; simp at this
 | p :: es, e :: E, i, j, y, r, hf => by
  have hk:=(r.2 0 p e rfl rfl).2.1
  simp only [findM] at hf
  split at hf
  ·rename_i he
   injection hf with hf; injection hf with hf; injection hf with h1 h2
   subst h1; subst h2
   exact ⟨0,e,p,rfl,rfl,rfl,rfl,he,by simp only [Instr.findNow,hk,same_eqK hd he]⟩
  ·rename_i he
   obtain ⟨n,e',p',g1,g2,g3,g4,g5,g6⟩:=findM_some hd r.tail hf
   exact ⟨n + 1,e',p',by omega,by simpa using g2,by simpa using g3,g4,g5,by simp only [Instr.findNow,hk,same_eqK hd he]; exact g6⟩
  ·cases hf
theorem sem_bind_pure {α:Type} (x:Sem α):x.bind Sem.pure=x:=by
 induction x with
 | pure a => rfl
 | load m a k ih => simp only [Sem.bind]; congr 1; funext v; exact ih v
 | store m a v k ih => simp only [Sem.bind]; rw [ih]
 | new o k ih => simp only [Sem.bind]; congr 1; funext v; exact ih v
 | shape r k ih => simp only [Sem.bind]; congr 1; funext v; exact ih v
 | freeze a n k ih => simp only [Sem.bind]; rw [ih]
 | frozen a k ih => simp only [Sem.bind]; congr 1; funext v; exact ih v
 | getObj r k ih => simp only [Sem.bind]; congr 1; funext v; exact ih v
 | setObj r o k ih => simp only [Sem.bind]; rw [ih]
 | choose q k ih => simp only [Sem.bind]; congr 1; funext v; exact ih v
 | sys c k ih => simp only [Sem.bind]; congr 1; funext v; exact ih v
 | program k ih => simp only [Sem.bind]; congr 1; funext v; exact ih v
 | mark m k ih => simp only [Sem.bind]; rw [ih]
 | halt h => rfl
theorem sem_bind_assoc {α β γ:Type} (x:Sem α) (f:α→Sem β) (g:β→Sem γ):(x.bind f).bind g=x.bind fun a => (f a).bind g:=by
 induction x with
 | pure a => rfl
 | load m a k ih => simp only [Sem.bind]; congr 1; funext v; exact ih v
 | store m a v k ih => simp only [Sem.bind]; rw [ih]
 | new o k ih => simp only [Sem.bind]; congr 1; funext v; exact ih v
 | shape r k ih => simp only [Sem.bind]; congr 1; funext v; exact ih v
 | freeze a n k ih => simp only [Sem.bind]; rw [ih]
 | frozen a k ih => simp only [Sem.bind]; congr 1; funext v; exact ih v
 | getObj r k ih => simp only [Sem.bind]; congr 1; funext v; exact ih v
 | setObj r o k ih => simp only [Sem.bind]; rw [ih]
 | choose q k ih => simp only [Sem.bind]; congr 1; funext v; exact ih v
 | sys c k ih => simp only [Sem.bind]; congr 1; funext v; exact ih v
 | program k ih => simp only [Sem.bind]; congr 1; funext v; exact ih v
 | mark m k ih => simp only [Sem.bind]; rw [ih]
 | halt h => rfl
theorem sem_lawful:LawfulMonad Sem:=LawfulMonad.mk' (m:=Sem) (id_map:=fun x => sem_bind_pure x) (pure_bind:=fun _ _ => rfl) (bind_assoc:=sem_bind_assoc)
theorem eqK3_inv {x y:Value} {r:Bool} (h:eqK 3 x y=some r) : ∃ a b c d,x=.agg #[.int .i64 a,.int .i64 b]∧y=.agg #[.int .i64 c,.int .i64 d]∧r=(decide (a=c) && decide (b=d)):=by
 unfold eqK at h
 split at h
 ·rename_i h0; cases h0
 ·rename_i h0; cases h0
 ·rename_i h0; cases h0
 ·rename_i a b c d _
  injection h with h
  exact ⟨a,b,c,d,rfl,rfl,h.symm⟩
 ·cases h
theorem equal3 {kt:TypeId} {d:TypeDesc} (hd:KeyD P 3 kt d) {x y:Value} {r:Bool} (h:eqK 3 x y=some r) (w:World):(Op.equal kt x y).run P w=.ok r w:=by
 obtain ⟨hu,h0 | h1 | ⟨_,fs,rfl,hk,hs⟩⟩:=hd
 ·cases h0.1
 ·cases h1.1
 obtain ⟨a,b,c,d,rfl,rfl,rfl⟩:=eqK3_inv h
 have hf:P.fieldsOf kt=fs:=by simp [Program.fieldsOf,hu]
 show (Op.equalIn 10000 kt _ _).run P w=_
 rw [run_equalIn_struct (P:=P) w 9999 kt _ _ (by rw [hf]; exact hu) hs,hf]
 have g : ∀ (p q:Int) (j:Nat) (x:AV),[AV.fz (.sc (.int .i64 p)),AV.fz (.sc (.int .i64 q))][j]? = some x→∃ u,[Value.int .i64 p,Value.int .i64 q][0 + j]? = some u∧VR (fun _ => none) (fun _ => none) x u:=by
  intro p q j x hj
  match j with
  | 0 => simp at hj; subst hj; exact ⟨_,rfl,.fz _ _ (.sc _ rfl)⟩
  | 1 => simp at hj; subst hj; exact ⟨_,rfl,.fz _ _ (.sc _ rfl)⟩
  | n + 2 => simp at hj
 refine run_eqFields (σ:=fun _ => none) (h:=fun _ => none) (d:=9998) fs.toList 0 [0,0] hk [.fz (.sc (.int .i64 a)),.fz (.sc (.int .i64 b))] [.fz (.sc (.int .i64 c)),.fz (.sc (.int .i64 d))] [.int .i64 a,.int .i64 b] [.int .i64 c,.int .i64 d] _ ?_ (g a b) (g c d) w
 simp [eqCs,eqK]
theorem eqK_true {q:Nat} {x y:Value} (h:eqK q x y=some true) (hq:q=0∨q=1∨q=3):x=y:=by
 rcases hq with rfl | rfl | rfl
 rotate_left 2
 ·obtain ⟨a,b,c,d,rfl,rfl,hr⟩:=eqK3_inv h
  have hr:=hr.symm
  simp only [Bool.and_eq_true,decide_eq_true_eq] at hr
  rw [hr.1,hr.2]
 ·cases x <;> simp only [eqK] at h <;> try (cases h; done)
  cases y <;> simp only [eqK] at h <;> try (cases h; done)
  split at h
  ·rename_i hk
   injection h with h
   rw [hk,of_decide_eq_true h]
  ·cases h
 ·cases x <;> simp only [eqK] at h <;> try (cases h; done)
  cases y <;> simp only [eqK] at h <;> try (cases h; done)
  injection h with h
  rw [of_decide_eq_true h]
theorem VR.keyV {h:PH} {q:Nat} {x:AV} {u kv:Value} (hk:keyV q x=some kv) (r:VR σ h x u):u=kv∧(q=3→∃ a b,kv=.agg #[.int .i64 a,.int .i64 b]):=by
 unfold Go.Vai.keyV at hk
 split at hk
 ·rename_i a b
  injection hk with hk; subst hk
  obtain ⟨vs,rfl,hl,hr⟩:=r.agg_inv
  match vs,hl with
  | [x,y],_ =>
   have h1:=(hr 0 _ x rfl rfl).sc_inv
   have h2:=(hr 1 _ y rfl rfl).sc_inv
   subst h1; subst h2
   exact ⟨rfl,fun _ => ⟨a,b,rfl⟩⟩
 ·cases hk
 ·rename_i h3
  injection hk with hk; subst hk
  exact ⟨r.sc_inv,fun e => (h3 e).elim⟩
 ·cases hk
theorem kinds2 {l : List Field} (h : fieldKinds P 0 l = some [0, 0]) : ∃ f g, l = [f, g] ∧ f.name ≠ "_" ∧ f.offset = 0 ∧ g.name ≠ "_" ∧ g.offset = 1 ∧ (∃ k, P.underlying f.type = some (.int k)) ∧ ∃ k, P.underlying g.type = some (.int k) := by
 have one : ∀ (i : Nat) (l : List Field) (ks : List Nat), fieldKinds P i l = some (0 :: ks) → ∃ f r, l = f :: r ∧ f.name ≠ "_" ∧ f.offset = i ∧ (∃ k, P.underlying f.type = some (.int k)) ∧ fieldKinds P (i + 1) r = some ks := by
  intro i l ks h
  cases l with
  | nil => simp [fieldKinds] at h
  | cons f r =>
   simp only [fieldKinds] at h
   split at h
   ·rename_i hf
    split at h
    ·rename_i k l hk hl
     injection h with h; injection h with _ h
     exact ⟨f,r,rfl,hf.1,hf.2,⟨k,hk⟩,by rw [hl,h]⟩
    ·injection h with h; injection h with h _; cases h
    ·injection h with h; injection h with h _; cases h
    ·cases h
   ·cases h
 obtain ⟨f,r,rfl,h1,h2,h3,h4⟩:=one _ _ _ h
 obtain ⟨g,r',rfl,g1,g2,g3,g4⟩:=one _ _ _ h4
 cases r' with
 | nil => exact ⟨f,g,rfl,h1,h2,g1,g2,h3,g3⟩
 | cons z r2 =>
  exfalso
  simp only [fieldKinds] at g4
  split at g4
  ·split at g4 <;> first | (injection g4 with g4; cases g4) | cases g4
  ·cases g4
theorem check_ok {kt:TypeId} {d:TypeDesc} {k:Value} {q:Nat} (hd:KeyD P q kt d) (hk3:q=3→∃ a b,k=.agg #[.int .i64 a,.int .i64 b]) (e:Bool) (w:World):(Instr.checkKey e 10000 kt k).run P w=.ok () w:=by
 obtain ⟨hd,hq⟩:=hd
 have leaf : ∀ (n:Nat) (t:TypeId) (v:Value),(∃ kk,P.underlying t=some (.int kk))→(Instr.checkKey e (n + 1) t v).run P w=.ok () w:=by
  rintro n t v ⟨kk,ht⟩
  unfold Instr.checkKey; simp only [Sem.run_bind,run_underlying ht,Result.andThen]; cases v <;> rfl
 rcases hq with ⟨rfl,kd,rfl⟩ | ⟨rfl,rfl⟩ | ⟨rfl,fs,rfl,hk,_⟩
 ·exact leaf 9999 _ _ ⟨_,hd⟩
 ·unfold Instr.checkKey; simp only [Sem.run_bind,run_underlying hd,Result.andThen]; cases k <;> rfl
 ·obtain ⟨a,b,rfl⟩:=hk3 rfl
  obtain ⟨f,g,hl,h1,h2,h3,h4,⟨k1,h5⟩,k2,h6⟩:=kinds2 hk
  have hfs:fs = #[f,g]:=by
   apply Array.ext'; simpa using hl
  subst hfs
  have ag : ∀ t,(∃ kk,P.underlying t=some (.int kk))→(isAgg t).run P w=.ok false w:=fun t ⟨kk,ht⟩ => (run_isAgg (g:=none) (by unfold agT; rw [ht]) w).1
  have p0:(part f.type #[Value.int .i64 a,.int .i64 b] f.offset).run P w=.ok (.int .i64 a) w:=by
   rw [h2]; simp [Go.part,Sem.run_bind,ag _ ⟨k1,h5⟩]
  have p1:(part g.type #[Value.int .i64 a,.int .i64 b] g.offset).run P w=.ok (.int .i64 b) w:=by
   rw [h4]; simp [Go.part,Sem.run_bind,ag _ ⟨k2,h6⟩]
  unfold Instr.checkKey
  simp only [Sem.run_bind,run_underlying hd,Result.andThen_ok]
  have hloop : ∀ (body:Field→PUnit→Sem (ForInStep PUnit)),(∀ x,x=f∨x=g→(body x ⟨⟩).run P w=.ok (.yield ⟨⟩) w)→(forIn #[f,g] ⟨⟩ body).run P w=.ok ⟨⟩ w:=by
   intro body hb
   have e1:(forIn #[f,g] (⟨⟩:PUnit) body)=(forIn [f,g] (⟨⟩:PUnit) body):=by
    haveI:=sem_lawful
    rw [← Array.forIn_toList]
   rw [e1]
   haveI:=sem_lawful
   simp only [List.forIn_cons,List.forIn_nil,Sem.run_bind,hb f (.inl rfl),hb g (.inr rfl),Result.andThen_ok,Sem.run_pure]
  have hl2:=hloop (fun f __s =>
   if f.name ≠ "_" then do
    let __do_lift ← part f.type #[Value.int IntKind.i64 a,Value.int IntKind.i64 b] f.offset
    Instr.checkKey e 9999 f.type __do_lift
    pure (ForInStep.yield PUnit.unit)
   else pure (ForInStep.yield PUnit.unit)) fun x hx => by
   rcases hx with rfl | rfl
   ·rw [if_pos h1]
    simp only [Sem.run_bind,p0,Result.andThen_ok,leaf 9998 _ _ ⟨k1,h5⟩,Sem.run_pure]
   ·rw [if_pos h3]
    simp only [Sem.run_bind,p1,Result.andThen_ok,leaf 9998 _ _ ⟨k2,h6⟩,Sem.run_pure]
  rw [hl2]
  rfl
theorem stays_ok {q:Nat} {x y:Value} (h:eqK q x y=some true) (hq:q=0∨q=1∨q=3) (w:World):(Instr.keyThatStays y x).run P w=.ok x w:=by
 have e:=eqK_true h hq
 subst e
 have:Instr.sameBits 10000 x x=true:=by
  rcases hq with rfl | rfl | rfl
  ·cases x <;> simp [eqK] at h
   simp [Instr.sameBits]
  ·cases x <;> simp [eqK] at h
   simp [Instr.sameBits,Go.MapKept.bytes_beq]
  ·obtain ⟨a,b,c,d,rfl,_,_⟩:=eqK3_inv h
   simp [Instr.sameBits]
 simp [Instr.keyThatStays,this]
theorem ask_none {h:PH} {kt:TypeId} {d:TypeDesc} (hd:KeyD P 3 kt d) {key:Value} (w:World) : ∀ {es:List (Nat × Value × FV)} {E:List MapEntry} {i:Nat},EntR h es E→findM 3 key es i=some none→(Instr.findAsking kt key E i).run P w=.ok none w
 | [],[],_,_,_ => rfl
 | [],_ :: _,_,r,_ => by have:=r.1; simp at this
 | _ :: _,[],_,r,_ => by have:=r.1; simp at this
 | p :: es, e :: E, i, r, hf => by
  have hk:=(r.2 0 p e rfl rfl).2.1
  simp only [findM] at hf
  split at hf
  ·cases hf
  ·rename_i he
   simp only [Instr.findAsking,hk,Sem.run_bind,equal3 hd he,Result.andThen_ok,Bool.false_eq_true,if_false]
   exact ask_none hd w r.tail hf
  ·cases hf
theorem ask_some {h:PH} {kt:TypeId} {d:TypeDesc} (hd:KeyD P 3 kt d) {key:Value} (w:World) : ∀ {es:List (Nat × Value × FV)} {E:List MapEntry} {i j:Nat} {y:FV},EntR h es E→findM 3 key es i=some (some (j,y)) →
 ∃ n e p,j=i + n∧es[n]? = some p∧E[n]? = some e∧p.2.2=y∧eqK 3 key p.2.1=some true∧(Instr.findAsking kt key E i).run P w=.ok (some (j,e.val)) w
 | [],_,_,_,_,_,hf => by simp [findM] at hf
 | _ :: _,[],_,_,_,r,_ => by have:=r.1; simp at this
 | p :: es, e :: E, i, j, y, r, hf => by
  have hk:=(r.2 0 p e rfl rfl).2.1
  simp only [findM] at hf
  split at hf
  ·rename_i he
   injection hf with hf; injection hf with hf; injection hf with h1 h2
   subst h1; subst h2
   exact ⟨0,e,p,rfl,rfl,rfl,rfl,he,by simp only [Instr.findAsking,hk,Sem.run_bind,equal3 hd he,Result.andThen_ok,if_true,Sem.run_pure]⟩
  ·rename_i he
   obtain ⟨n,e',p',g1,g2,g3,g4,g5,g6⟩:=ask_some hd w r.tail hf
   exact ⟨n + 1,e',p',by omega,by simpa using g2,by simpa using g3,g4,g5,by simp only [Instr.findAsking,hk,Sem.run_bind,equal3 hd he,Result.andThen_ok,Bool.false_eq_true,if_false]; exact g6⟩
  ·cases hf
theorem fk_none {h:PH} {q:Nat} {kt:TypeId} {d:TypeDesc} (hd:KeyD P q kt d) {key:Value} (w:World) {es:List (Nat × Value × FV)} {E:List MapEntry} (r:EntR h es E) (hf:findM q key es 0=some none):(Instr.findKey kt key E).run P w=.ok none w:=by
 have hd0:=hd
 obtain ⟨hu,hq⟩:=hd
 have old:((q=0∧∃ kd,d=.int kd)∨(q=1∧d=.string))→(Instr.findKey kt key E).run P w=.ok none w:=fun hq => run_findKey hu (findM_none hq r hf)
 rcases hq with hq | hq | ⟨rfl,fs,rfl,hk,hs⟩
 ·exact old (.inl hq)
 ·exact old (.inr hq)
 ·have ha:=ask_none hd0 w r hf
  unfold Instr.findKey
  simp only [Sem.run_bind,run_underlying hu,Result.andThen_ok]
  cases E with
  | nil => rfl
  | cons e E => simp only [Instr.findNow,Instr.sameNow]; exact ha
theorem fk_some {h:PH} {q:Nat} {kt:TypeId} {d:TypeDesc} (hd:KeyD P q kt d) {key:Value} (w:World) {es:List (Nat × Value × FV)} {E:List MapEntry} {j:Nat} {y:FV} (r:EntR h es E) (hf:findM q key es 0=some (some (j,y))) :
 ∃ e p,es[j]? = some p∧E[j]? = some e∧p.2.2=y∧eqK q key p.2.1=some true∧(Instr.findKey kt key E).run P w=.ok (some (j,e.val)) w:=by
 have hd0:=hd
 obtain ⟨hu,hq⟩:=hd
 have old:((q=0∧∃ kd,d=.int kd)∨(q=1∧d=.string))→∃ e p,es[j]? = some p∧E[j]? = some e∧p.2.2=y∧eqK q key p.2.1=some true∧(Instr.findKey kt key E).run P w=.ok (some (j,e.val)) w:=fun hq => by
  obtain ⟨n,e,p,g1,g2,g3,g4,g5,g6⟩:=findM_some hq r hf
  obtain rfl:j=n:=by omega
  exact ⟨e,p,g2,g3,g4,g5,run_findKey hu g6⟩
 rcases hq with hq | hq | ⟨rfl,fs,rfl,hk,hs⟩
 ·exact old (.inl hq)
 ·exact old (.inr hq)
 ·obtain ⟨n,e,p,g1,g2,g3,g4,g5,g6⟩:=ask_some hd0 w r hf
  obtain rfl:j=n:=by omega
  refine ⟨e,p,g2,g3,g4,g5,?_⟩
  unfold Instr.findKey
  simp only [Sem.run_bind,run_underlying hu,Result.andThen_ok]
  cases E with
  | nil => simp at g3
  | cons e0 E => simp only [Instr.findNow,Instr.sameNow]; exact g6
theorem VR.mp_inv {h:PH} {b:Nat} {u:Value} (r:VR σ h (.mp b) u) : ∃ k,σ b=some (.here k 0 0 0)∧u=.map (some k):=by
 cases r with
 | mp _ k e => exact ⟨k,e,rfl⟩
theorem outM_vr {h:PH} {y:FV} {v:Value} (r:FR h y v):VR σ h (outM y) v:=by
 unfold outM
 split
 ·rename_i f
  cases r with
  | sc _ _ => exact .fn f [] [] rfl (fun i x u e => by simp at e)
 ·exact .fz _ _ r
theorem keyA_vr {h:PH} {v:Value} (hk:keyOk v=true):VR σ h (keyA v) v:=by
 unfold keyA
 split
 ·rename_i a b
  refine .agg _ [.int .i64 a,.int .i64 b] rfl fun i x u e1 e2 => ?_
  match i with
  | 0 => simp at e1 e2; subst e1; subst e2; exact .fz _ _ (.sc _ rfl)
  | 1 => simp at e1 e2; subst e1; subst e2; exact .fz _ _ (.sc _ rfl)
  | n + 2 => simp at e1
 ·rename_i hne
  unfold keyOk at hk
  split at hk
  ·rename_i a b; exact absurd rfl (hne a b)
  ·exact .fz _ _ (.sc _ hk)
theorem run_mkm {t:TypeId} (w:World):(Instr.makeMap t none).run P w=.ok (.map (some w.heap.size)) (w.alloc (.map #[] 0)):=rfl
theorem vr_pair' {h:PH} {x y:AV} {u v:Value} (h1:VR σ h x u) (h2:VR σ h y v):VR σ h (.tup [x,y]) (.tuple #[u,v]) :=
 .tup [x,y] [u,v] rfl fun i p q e1 e2 => by
  match i with
  | 0 => simp at e1 e2; subst e1; subst e2; exact h1
  | 1 => simp at e1 e2; subst e1; subst e2; exact h2
  | n + 2 => simp at e1
theorem heap_mkm_ok {t:TypeId} (R:HRel C σ (hk hp) w) (hn:σ nm=none):HeapOk P C σ hp a w nm (.makeMap t none) (.mp nm) [(nm,some (.map [] 0))]:=by
 refine ⟨.map (some w.heap.size),upd σ nm (some (.here w.heap.size 0 0 0)),w.alloc (.map #[] 0),fun ob ho => .inl ?_,.mp nm _ (upd_same _ _ _),?_,SLe.upd hn _,?_,upd_none⟩
 ·simp only [execOp,ho,Sem.run_bind,Option.map_none,run_mkm,Result.andThen_ok,Sem.run_pure]
 ·simp only [List.cons_append,List.nil_append,hk_cons]
  exact R.fresh hn _ 0 0 0 _ (.map [] 0 _ #[] (upd_same _ _ _) heap_alloc_new rfl (fun i p e e1 => by simp at e1))
 ·simp only [List.cons_append,List.nil_append,hk_cons]
  exact frz_fresh R nm _ 0 0 0 _
theorem map_at (R:HRel C σ (hk hp) w) {b k:Nat} {es:List (Nat × Value × FV)} {c:Nat} (hb:hk hp b=some (.map es c)) (hσ:σ b=some (.here k 0 0 0)) : ∃ E:Array MapEntry,w.heap[k]? = some (.map E c)∧EntR (frz (hk hp) σ C.X w) es E.toList:=by
 cases R.bk b _ hb with
 | map _ _ k' E g1 g2 g3 g4 =>
  rw [hσ] at g1
  injection g1 with g1; injection g1 with g1
  subst g1
  exact ⟨E,g2,g3,g4⟩
theorem heap_mget_ok {t et:TypeId} {q:Nat} {z:Value} {comma:Bool} {m k:Operand} {v:AV} {ws:HW} {nn:Nat} {rf:RF} {st:St} (hst:st.hp=hp) (hk':keyK P t=some (q,et)) (hz:zero1 P et=some z) (H:Sl C.G σ (frz (hk hp) σ C.X w) sl a) (R:HRel C σ (hk hp) w)
 (e:heapOp rf (LX.av C.G sl) nm st (.mget q [z] comma (compX m) (compX k))=some (v,ws,nn)):HeapOk P C σ hp a w nm (.lookup t m k comma) v ws∧nn=0:=by
 obtain ⟨kt,d,h1,h2⟩:=keyK_inv hk'
 simp only [heapOp,hst] at e
 split at e
 ·rename_i b kv hm hkv
  have hmr:=H.av m
  rw [hm] at hmr
  obtain ⟨kb,hσ,hme⟩:=hmr.mp_inv
  obtain ⟨hke,hk3⟩:=(H.av k).keyV hkv
  split at e
  ·rename_i es c hb
   obtain ⟨E,hE,hR⟩:=map_at R hb hσ
   have zr : ∀ w,(zeroValue et).run P w=.ok z w:=by
    intro w
    unfold zero1 at hz
    split at hz
    ·rename_i i hi
     split at hz
     ·rename_i v' hv'
      split at hz
      ·injection hz with hz; subst hz
       simp [zeroValue,Sem.run_bind,run_info hi,hv']
      ·cases hz
     ·cases hz
    ·cases hz
   split at e
   ·rename_i j y hf
    obtain ⟨e',p,g2,g3,g4,g5,g6⟩:=fk_some h2 w hR hf
    injection e with e; injection e with e1 e2; injection e2 with e2 e3
    subst e1; subst e2; subst e3
    have hfr:=(hR.2 j p e' g2 g3).2.2
    rw [g4] at hfr
    refine ⟨heap_same R (u:=if comma then .tuple #[e'.val,.bool true] else e'.val) (fun ob ho => ?_) ?_,rfl⟩
    ·simp only [execOp,ho,Instr.lookup,Sem.run_bind,run_underlying h1,Result.andThen_ok,hme,hke,Go.MapKept.run_getObj_map hE,check_ok h2 hk3,g6,Sem.run_pure]
    ·cases comma with
     | false => exact outM_vr hfr
     | true => exact vr_pair' (outM_vr hfr) (.fz _ _ (.sc _ rfl))
   ·rename_i hf
    have g6:=fk_none h2 w hR hf
    simp only [zeroM] at e
    injection e with e; injection e with e1 e2; injection e2 with e2 e3
    subst e1; subst e2; subst e3
    refine ⟨heap_same R (u:=if comma then .tuple #[z,.bool false] else z) (fun ob ho => ?_) ?_,rfl⟩
    ·simp only [execOp,ho,Instr.lookup,Sem.run_bind,run_underlying h1,Result.andThen_ok,hme,hke,Go.MapKept.run_getObj_map hE,check_ok h2 hk3,g6,Sem.run_pure,zr]
    ·have hz0:VR σ (frz (hk hp) σ C.X w) (cellAV z) z:=VR.zeros [z] 0 _ z rfl rfl
     cases comma with
     | false => exact hz0
     | true => exact vr_pair' hz0 (.fz _ _ (.sc _ rfl))
   ·cases e
  ·cases e
 ·cases e
theorem heap_mset_ok {t et : TypeId} {q : Nat} {m k x : Operand} {v : AV} {ws : HW} {nn : Nat} {rf : RF} {st : St} {op : Op} (hop : op = .mapUpdate t m k x ∨ op = .insert t m k x) (hst : st.hp = hp) (hk' : keyK P t = some (q, et)) (H : Sl C.G σ (frz (hk hp) σ C.X w) sl a) (R : HRel C σ (hk hp) w)
 (e:heapOp rf (LX.av C.G sl) nm st (.mset q (compX m) (compX k) (compX x))=some (v,ws,nn)):HeapOk P C σ hp a w nm op v ws∧nn=0:=by
 obtain ⟨kt,d,h1,h2⟩:=keyK_inv hk'
 have hq:q=0∨q=1∨q=3:=h2.2.elim (fun h => .inl h.1) (fun h => .inr (h.elim (fun h => .inl h.1) fun h => .inr h.1))
 simp only [heapOp,hst] at e
 split at e
 ·rename_i b kv hm hkv
  have hmr:=H.av m
  rw [hm] at hmr
  obtain ⟨kb,hσ,hme⟩:=hmr.mp_inv
  obtain ⟨hke,hk3⟩:=(H.av k).keyV hkv
  split at e
  ·rename_i es c hb
   obtain ⟨E,hE,hR⟩:=map_at R hb hσ
   have hkb:kb < w.heap.size:=(Array.getElem?_eq_some_iff.1 hE).1
   split at e
   ·rename_i y hy
    have hfr:=(toFV_sound R hy (H.av x)).2.1
    simp only [List.nil_append] at hfr
    have fin : ∀ (es':List (Nat × Value × FV)) (c':Nat) (E':Array MapEntry),EntR (frz (hk hp) σ C.X w) es' E'.toList→(∀ ob:Oper,ob.op=op→(execOp a.eval ob).run P w=.ok .skip (World.setBlock w kb (.map E' c'))) →
     HeapOk P C σ hp a w nm op .dead [(b,some (.map es' c'))]:=by
     intro es' c' E' hR' hrun
     have W:=R.write1 hb hσ (.map E' c') (.map es' c') (fun hl' => .map es' c' kb E' hσ (setBlock_same hkb) hR'.1 fun i p e g1 g2 => let ⟨u1,u2,u3⟩:=hR'.2 i p e g1 g2; ⟨u1,u2,u3.mono hl'⟩)
     refine ⟨undef,σ,World.setBlock w kb (.map E' c'),fun ob hob => .inr ⟨hrun ob hob,rfl⟩,.dead _,?_,SLe.refl _,?_,fun _ _ h => h⟩
     ·simp only [List.cons_append,List.nil_append,hk_cons]; exact W.1
     ·simp only [List.cons_append,List.nil_append,hk_cons]; exact W.2
    have hset : ∀ o:Obj,(setObj kb o).run P w=.ok () (World.setBlock w kb o):=fun o => by
     simp [setObj,Sem.run,hE,World.setBlock]
    have hex : ∀ ob:Oper,ob.op=op→(execOp a.eval ob).run P w=((Instr.mapUpdate t (a.eval m) (a.eval k) (a.eval x)).run P w).andThen fun _ w' => .ok .skip w':=by
     intro ob hob
     rcases hop with rfl | rfl <;> simp only [execOp,hob,Sem.run_bind,Sem.run_pure]
    split at e
    ·rename_i j y0 hf
     obtain ⟨e',p,g2,g3,g4,g5,g6⟩:=fk_some h2 w hR hf
     injection e with e; injection e with e1 e2; injection e2 with e2 e3
     subst e1; subst e2; subst e3
     have hEj:E[j]? = some e':=by rw [← Array.getElem?_toList]; exact g3
     have hkey:=(hR.2 j p e' g2 g3).2.1
     refine ⟨fin _ c (E.modify j fun z => { z with key:=kv,val:=a.eval x }) ⟨by simpa using hR.1,fun i p2 z z1 z2 => ?_⟩ fun ob hob => ?_,rfl⟩
     ·rw [List.getElem?_modify] at z1
      rw [Array.getElem?_toList,Array.getElem?_modify] at z2
      by_cases hij:j=i
      ·subst hij
       rw [if_pos rfl] at z2
       simp only [if_pos rfl] at z1
       rw [g2] at z1
       rw [hEj] at z2
       simp only [Option.map_some,Option.map_eq_map] at z1 z2
       injection z1 with z1; injection z2 with z2
       subst z1; subst z2
       exact ⟨(hR.2 j p e' g2 g3).1,rfl,hfr⟩
      ·rw [if_neg hij] at z2
       simp only [if_neg hij] at z1
       have z1':es[i]? = some p2:=by simpa using z1
       exact hR.2 i p2 z z1' (by rw [Array.getElem?_toList]; exact z2)
     ·rw [hex ob hob]
      simp only [Instr.mapUpdate,Sem.run_bind,run_underlying h1,Result.andThen_ok,hme,hke,Go.MapKept.run_getObj_map hE,check_ok h2 hk3,g6,hEj,Option.map_some,Option.getD_some,hkey,stays_ok g5 hq,hset]
    ·rename_i hf
     have g6:=fk_none h2 w hR hf
     injection e with e; injection e with e1 e2; injection e2 with e2 e3
     subst e1; subst e2; subst e3
     refine ⟨fin _ (c + 1) (E.push { key:=kv,val:=a.eval x,born:=c }) ⟨by simp [← hR.1],fun i p2 z z1 z2 => ?_⟩ fun ob hob => ?_,rfl⟩
     ·simp only [Array.toList_push] at z2
      have hl:=hR.1
      by_cases hi:i < es.length
      ·rw [List.getElem?_append_left hi] at z1
       rw [List.getElem?_append_left (by omega)] at z2
       exact hR.2 i p2 z z1 z2
      ·rw [List.getElem?_append_right (by omega)] at z1
       rw [List.getElem?_append_right (by omega)] at z2
       have h0:i - es.length=0:=by
        have:=(List.getElem?_eq_some_iff.1 z1).1
        simp at this
        omega
       rw [h0] at z1
       rw [hl,h0] at z2
       simp at z1 z2
       subst z1; subst z2
       exact ⟨rfl,rfl,hfr⟩
     ·rw [hex ob hob]
      simp only [Instr.mapUpdate,Sem.run_bind,run_underlying h1,Result.andThen_ok,hme,hke,Go.MapKept.run_getObj_map hE,check_ok h2 hk3,g6,hset]
    ·cases e
   ·cases e
  ·cases e
 ·cases e
theorem heap_mdel_ok {t et kt':TypeId} {q:Nat} {m k:Operand} {xs:Array Operand} {ts:Array TypeId} {v:AV} {ws:HW} {nn:Nat} {rf:RF} {st:St} (hxs:xs.toList=[m,k]) (hts:ts.toList=[t,kt']) (hst:st.hp=hp) (hk':keyK P t=some (q,et)) (H:Sl C.G σ (frz (hk hp) σ C.X w) sl a) (R:HRel C σ (hk hp) w)
 (e:heapOp rf (LX.av C.G sl) nm st (.mdel q (compX m) (compX k))=some (v,ws,nn)):HeapOk P C σ hp a w nm (.call { callee:=.builtin .delete,args:=xs,argTypes:=ts }) v ws∧nn=0:=by
 obtain rfl:xs = #[m,k]:=by apply Array.ext'; simpa using hxs
 obtain rfl:ts = #[t,kt']:=by apply Array.ext'; simpa using hts
 obtain ⟨kt,d,h1,h2⟩:=keyK_inv hk'
 simp only [heapOp,hst] at e
 split at e
 ·rename_i b kv hm hkv
  have hmr:=H.av m
  rw [hm] at hmr
  obtain ⟨kb,hσ,hme⟩:=hmr.mp_inv
  obtain ⟨hke,hk3⟩:=(H.av k).keyV hkv
  split at e
  ·rename_i es c hb
   obtain ⟨E,hE,hR⟩:=map_at R hb hσ
   have hkb:kb < w.heap.size:=(Array.getElem?_eq_some_iff.1 hE).1
   have hset : ∀ o:Obj,(setObj kb o).run P w=.ok () (World.setBlock w kb o):=fun o => by
    simp [setObj,Sem.run,hE,World.setBlock]
   have fin : ∀ (es':List (Nat × Value × FV)) (c':Nat) (E':Array MapEntry),EntR (frz (hk hp) σ C.X w) es' E'.toList→(∀ ob:Oper,ob.op=.call { callee:=.builtin .delete,args := #[m,k],argTypes := #[t,kt'] }→(execOp a.eval ob).run P w=.ok (.value (.tuple #[])) (World.setBlock w kb (.map E' c'))) →
    HeapOk P C σ hp a w nm (.call { callee:=.builtin .delete,args := #[m,k],argTypes := #[t,kt'] }) .dead [(b,some (.map es' c'))]:=by
    intro es' c' E' hR' hrun
    have W:=R.write1 hb hσ (.map E' c') (.map es' c') (fun hl' => .map es' c' kb E' hσ (setBlock_same hkb) hR'.1 fun i p e g1 g2 => let ⟨u1,u2,u3⟩:=hR'.2 i p e g1 g2; ⟨u1,u2,u3.mono hl'⟩)
    refine ⟨.tuple #[],σ,World.setBlock w kb (.map E' c'),fun ob hob => .inl (hrun ob hob),.dead _,?_,SLe.refl _,?_,fun _ _ h => h⟩
    ·simp only [List.cons_append,List.nil_append,hk_cons]; exact W.1
    ·simp only [List.cons_append,List.nil_append,hk_cons]; exact W.2
   split at e
   ·rename_i j y0 hf
    obtain ⟨e',p,g2,g3,g4,g5,g6⟩:=fk_some h2 w hR hf
    injection e with e; injection e with e1 e2; injection e2 with e2 e3
    subst e1; subst e2; subst e3
    have hjl:j < E.toList.length:=(List.getElem?_eq_some_iff.1 g3).1
    have hjs:j < E.size:=by simpa using hjl
    have hsub:(E.eraseIdxIfInBounds j).toList=E.toList.eraseIdx j:=by
     unfold Array.eraseIdxIfInBounds
     rw [dif_pos hjs]
     simp
    refine ⟨fin _ c (E.eraseIdxIfInBounds j) ⟨?_,fun i p2 z z1 z2 => ?_⟩ fun ob hob => ?_,rfl⟩
    ·rw [hsub,List.length_eraseIdx,List.length_eraseIdx,hR.1]
    ·rw [hsub,List.getElem?_eraseIdx] at z2
     rw [List.getElem?_eraseIdx] at z1
     split at z1
     ·rename_i hi
      rw [if_pos hi] at z2
      exact hR.2 i p2 z z1 z2
     ·rename_i hi
      rw [if_neg hi] at z2
      exact hR.2 _ p2 z z1 z2
    ·simp only [execOp,hob,resolve,invoke,Sem.run_bind,Sem.run_pure,Result.andThen_ok,builtin,Builtin.delete_]
     simp [Sem.run_bind,run_underlying h1,hme,hke,Go.MapKept.run_getObj_map hE,check_ok h2 hk3,g6,hset]
   ·rename_i hf
    have g6:=fk_none h2 w hR hf
    injection e with e; injection e with e1 e2; injection e2 with e2 e3
    subst e1; subst e2; subst e3
    refine ⟨fin _ c E hR fun ob hob => ?_,rfl⟩
    simp only [execOp,hob,resolve,invoke,Sem.run_bind,Sem.run_pure,Result.andThen_ok,builtin,Builtin.delete_]
    simp [Sem.run_bind,run_underlying h1,hme,hke,Go.MapKept.run_getObj_map hE,check_ok h2 hk3,g6,hset]
   ·cases e
  ·cases e
 ·cases e
theorem heap_mrng_ok {t et:TypeId} {q:Nat} {m:Operand} {v:AV} {ws:HW} {nn:Nat} {rf:RF} {st:St} (hst:st.hp=hp) (hk':keyK P t=some (q,et)) (H:Sl C.G σ (frz (hk hp) σ C.X w) sl a) (R:HRel C σ (hk hp) w) (hn:σ nm=none)
 (e:heapOp rf (LX.av C.G sl) nm st (.mrng (compX m))=some (v,ws,nn)):HeapOk P C σ hp a w nm (.range t m) v ws∧nn=0:=by
 obtain ⟨kt,d,h1,h2⟩:=keyK_inv hk'
 simp only [heapOp,hst] at e
 split at e
 ·rename_i b hm
  have hmr:=H.av m
  rw [hm] at hmr
  obtain ⟨kb,hσ,hme⟩:=hmr.mp_inv
  split at e
  ·rename_i es c hb
   obtain ⟨E,hE,hR⟩:=map_at R hb hσ
   split at e
   ·injection e with e; injection e with e1 e2; injection e2 with e2 e3
    subst e1; subst e2; subst e3
    have hs:=SLe.upd hn (.here w.heap.size 0 1 1)
    refine ⟨⟨.pointer (some ⟨w.heap.size,0,none⟩),upd σ nm (some (.here w.heap.size 0 1 1)),w.alloc (.mapIter (some kb) c #[] c),fun ob ho => .inl ?_,.bp nm 0 w.heap.size 1 (upd_same _ _ _),?_,hs,?_,upd_none⟩,rfl⟩
    ·simp only [execOp,ho,Sem.run_bind,hme,run_range_map w t kt et kb E c h1 hE,Result.andThen_ok,Sem.run_pure]
    ·simp only [List.cons_append,List.nil_append,hk_cons]
     exact R.fresh hn _ 0 1 1 _ (.iter (some b) c [] c _ (some kb) (upd_same _ _ _) heap_alloc_new fun m' e' => by injection e' with e'; subst e'; exact ⟨kb,hs _ _ hσ,rfl⟩)
    ·simp only [List.cons_append,List.nil_append,hk_cons]
     exact frz_fresh R nm _ 0 1 1 _
   ·cases e
  ·cases e
 ·cases e
theorem iter_at (R:HRel C σ (hk hp) w) {b k n:Nat} {mb:Nat} {s last:Nat} {seen:List Nat} (hb:hk hp b=some (.iter (some mb) s seen last)) (hσ:σ b=some (.here k 0 n 1)) : ∃ km,σ mb=some (.here km 0 0 0)∧w.heap[k]? = some (.mapIter (some km) s seen.toArray last):=by
 cases R.bk b _ hb with
 | iter _ _ _ _ k' mk g1 g2 g3 =>
  rw [hσ] at g1
  injection g1 with g1; injection g1 with g1
  subst g1
  obtain ⟨km,q1,q2⟩:=g3 mb rfl
  subst q2
  exact ⟨km,q1,g2⟩
theorem find_ent {h:PH} {born:Nat} : ∀ {es:List (Nat × Value × FV)} {E:List MapEntry} {p:Nat × Value × FV},EntR h es E→es.find? (fun p => p.1 == born)=some p→∃ e,E.find? (fun e => e.born == born)=some e∧e.key=p.2.1∧FR h p.2.2 e.val
 | [],_,_,_,hf => by simp at hf
 | _ :: _,[],_,r,_ => by have:=r.1; simp at this
 | q :: es, e :: E, p, r, hf => by
  obtain ⟨b1,b2,b3⟩:=r.2 0 q e rfl rfl
  rw [List.find?_cons] at hf ⊢
  rw [b1]
  split at hf
  ·rename_i hq
   injection hf with hf; subst hf
   exact ⟨e,rfl,b2,b3⟩
  ·rename_i hq
   exact find_ent r.tail hf
theorem heap_ment_ok {it : Operand} {v : AV} {ws : HW} {nn : Nat} {rf : RF} {st : St} (hst : st.hp = hp) (H : Sl C.G σ (frz (hk hp) σ C.X w) sl a) (R : HRel C σ (hk hp) w)
 (e:heapOp rf (LX.av C.G sl) nm st (.ment (compX it))=some (v,ws,nn)):HeapOk P C σ hp a w nm (.entry it) v ws∧nn=0:=by
 simp only [heapOp,hst] at e
 split at e
 ·rename_i b hm
  have hmr:=H.av it
  rw [hm] at hmr
  obtain ⟨kb,n,hσ,hme⟩:=hmr.bp_inv
  split at e
  ·rename_i mb s seen last hb
   obtain ⟨km,hσm,hI⟩:=iter_at R hb hσ
   split at e
   ·rename_i es c hbm
    obtain ⟨E,hE,hR⟩:=map_at R hbm hσm
    split at e
    ·rename_i hcl
     split at e
     ·rename_i born hlast
      split at e
      ·rename_i p hp'
       split at e
       case isFalse => cases e
       rename_i hlf
       injection e with e; injection e with e1 e2; injection e2 with e2 e3
       subst e1; subst e2; subst e3
       obtain ⟨e',hf,he1,he2⟩:=find_ent hR hp'
       have hback:seen.toArray.back? = some born:=by rw [← hlast]; simp
       have hf2:E.find? (fun e => e.born == born)=some e':=by rw [← Array.find?_toList]; exact hf
       have hpm:p∈es:=List.mem_of_find?_eq_some hp'
       refine ⟨heap_same R (u:=.tuple #[e'.key,e'.val]) (fun ob ho => ?_) (vr_pair' ?_ (outM_vr he2)),rfl⟩
       ·subst hcl
        simp only [execOp,ho,Instr.entry,Sem.run_bind,hme,getObj,Sem.run,hI,Result.andThen_ok,hback,hE,bne_self_eq_false,Bool.false_eq_true,if_false,hf2]
        rfl
       ·rw [he1]; exact keyA_vr hlf
      ·cases e
     ·cases e
    ·cases e
   ·cases e
  ·cases e
 ·cases e
end Go.Vai
namespace Go.Vai
variable {P:Program} {C:Ctx} {σ:Nat→Option Loc} {w:World} {a:Act} {nm:Nat} {hp:HW} {sl:List (Nat × AV)}
theorem SubAt.get {c:Array Value} {d sz:Nat} {es:List (List AV)} {i j q:Nat} (h:SubAt c d sz es i j q) : ∃ cl sz' ys,es[i]? = some cl∧cl[j]? = some (.own sz' ys) :=
 let ⟨cl,sz',ys,_,_,_,_,h1,h2,_⟩:=h; ⟨cl,sz',ys,h1,h2⟩
structure RowAt (C:Ctx) (σ:Nat→Option Loc) (hp:HW) (w:World) (b sz:Nat) (es:List (List AV)) (k d:Nat) (c:Array Value) (e:TypeId) (z:Nat × Nat):Prop where
 at':σ b=some (.here k d c.size sz)
 mem:w.heap[k]? = some (.cells c e z)
 nz:NoFz c z
 len : ∀ (i:Nat) (cl:List AV),es[i]? = some cl→cl.length=sz
 cell : ∀ (i:Nat) (cl:List AV) (j:Nat) (x:AV),es[i]? = some cl→cl[j]? = some x→∃ v,c[d + (i * sz + j)]? = some v∧CR σ (frz (hk hp) σ C.X w) w x v∧leafV v=true
 one : ∀ i j i' j' q,SubAt c d sz es i j q→SubAt c d sz es i' j' q→i=i'∧j=j'
 ne : ∀ i j q,SubAt c d sz es i j q→q≠k
theorem row_at (R:HRel C σ (hk hp) w) {b sz:Nat} {es:List (List AV)} (hb:hk hp b=some (.row sz es)) {k d n sz1:Nat} (hσ:σ b=some (.here k d n sz1)):sz1=sz∧∃ c e z,n=c.size∧RowAt C σ hp w b sz es k d c e z:=by
 cases R.bk b _ hb with
 | rvir _ h => rw [hσ] at h; cases h
 | row _ _ k1 d1 c e z g1 g2 g3 g4 g5 g6 g7 =>
  have h0:=g1
  rw [hσ] at g1
  injection g1 with g1; injection g1 with q1 q2 q3 q4
  subst q1; subst q2; subst q3; subst q4
  exact ⟨rfl,c,e,z,rfl,h0,g2,g3,g4,g5,g6,g7⟩
theorem RowAt.pos {b sz:Nat} {es:List (List AV)} {k d:Nat} {c:Array Value} {e:TypeId} {z:Nat × Nat} (r:RowAt C σ hp w b sz es k d c e z) {i j:Nat} {cl:List AV} (h1:es[i]? = some cl) (h2:j < sz):d + (i * sz + j) < c.size:=by
 have hl:=r.len i cl h1
 obtain ⟨v,hv,_⟩:=r.cell i cl j cl[j] h1 (List.getElem?_eq_getElem (by omega))
 exact (Array.getElem?_eq_some_iff.1 hv).1
theorem RowAt.owns {b sz:Nat} {es:List (List AV)} {k d:Nat} {c:Array Value} {e:TypeId} {z:Nat × Nat} (r:RowAt C σ hp w b sz es k d c e z) {i j q:Nat} (h:SubAt c d sz es i j q):Owns σ w b (.row sz es) q :=
 .sub sz es k d c.size c e z i j q r.at' r.mem h
def deown:AV→AV
 | .own _ _ => .dead
 | x => x
theorem deown_ok {x:AV} (h:ownless x=true):deown x=x:=by cases x <;> first | rfl | (simp [ownless] at h)
theorem loadC_deown {g:Option Nat} {c:List AV} {f:Nat} {v:AV} (h:loadC g c f=some v) (hok:okLoad v=true):loadC g (c.map deown) f=some v:=by
 cases g with
 | none =>
  simp only [loadC] at h ⊢
  rw [List.getElem?_map,h]
  have:deown v=v:=by cases v <;> first | rfl | (simp [okLoad] at hok)
  simp [this]
 | some n =>
  simp only [loadC] at h ⊢
  split at h
  ·rename_i hle
   injection h with h; subst h
   rw [if_pos (by simpa using hle)]
   simp only [okLoad] at hok
   congr 2
   rw [← List.map_drop,← List.map_take]
   refine (List.map_congr_left fun x hx => ?_).trans (List.map_id _)
   exact deown_ok (List.all_eq_true.1 hok x hx)
  ·cases h
theorem CR.deown {h:PH} {x:AV} {v:Value} (r:CR σ h w x v):VR σ h (deown x) v:=by
 cases x <;> first | exact .dead _ | exact r
theorem heap_load_row_ok {t:TypeId} {g:Option Nat} {p:Operand} {v:AV} {b i f sz:Nat} {es:List (List AV)} {c:List AV} (hg:agT P t=some g) (H:Sl C.G σ (frz (hk hp) σ C.X w) sl a) (R:HRel C σ (hk hp) w)
 (hp':LX.av C.G sl (compX p)=.ep b i f) (hb:hk hp b=some (.row sz es)) (hc:es[i]? = some c) (hl:loadC g c f=some v) (hok:okLoad v=true):HeapOk P C σ hp a w nm (.load t p) v []:=by
 have hx:=H.av p
 rw [hp'] at hx
 obtain ⟨k,d,n,sz1,hσ,hv⟩:=hx.ep_inv
 obtain ⟨rfl,cc,ty,z,rfl,r⟩:=row_at R hb hσ
 obtain ⟨u,h1,h2⟩:=loadC_sound (P:=P) (w:=w) (σ:=σ) (h:=frz (hk hp) σ C.X w) hg (loadC_deown hl hok) (k:=k) (q:=d + i * sz1) (fun j => cc.getD (d + (i * sz1 + j)) undef) (fun j y ey => by
  rw [List.getElem?_map] at ey
  obtain ⟨x,hx1,hx2⟩:=Option.map_eq_some_iff.1 ey
  subst hx2
  obtain ⟨u,hu,hr,_⟩:=r.cell i c j x hc hx1
  have hlt:=(Array.getElem?_eq_some_iff.1 hu).1
  have hcj:cc.getD (d + (i * sz1 + j)) undef=u:=by
   rw [Array.getD,dif_pos hlt]
   exact (Array.getElem?_eq_some_iff.1 hu).2
  rw [hcj]
  exact ⟨by rw [cell_block r.mem,Nat.add_assoc]; exact hu,hr.deown⟩)
 refine heap_same R (fun ob ho => ?_) h1
 have h2':(loadVar t ⟨k,d + (i * sz1 + f),none⟩).run P w=.ok u w:=by rw [← h2,Nat.add_assoc]
 simp only [execOp,ho,Instr.loadAt,Instr.sureAddr,hv,Sem.run_bind,Sem.run_pure,Result.andThen_ok,h2']
theorem HRel.thaw (R:HRel C σ (hk hp) w) {b sz:Nat} {es:List (List AV)} {k d:Nat} {cc:Array Value} {ty:TypeId} {z:Nat × Nat} (hb:hk hp b=some (.row sz es)) (r:RowAt C σ hp w b sz es k d cc ty z) (hn:σ nm=none) {i f:Nat} {c:List AV} {sz':Nat} {ys:List (List FV)} (hc:es[i]? = some c) (hx:c[f]? = some (.own sz' ys)) :
 ∃ v l,cc[d + (i * sz + f)]? = some v∧HRel C (upd σ nm (some l)) (upd (upd (hk hp) b (some (.row sz (es.set i (c.set f (.osl nm sz' 0 ys.length)))))) nm (some (.arr sz' ys))) w ∧
  HLe (frz (hk hp) σ C.X w) (frz (upd (upd (hk hp) b (some (.row sz (es.set i (c.set f (.osl nm sz' 0 ys.length)))))) nm (some (.arr sz' ys))) (upd σ nm (some l)) C.X w)∧VR (upd σ nm (some l)) (frz (upd (upd (hk hp) b (some (.row sz (es.set i (c.set f (.osl nm sz' 0 ys.length)))))) nm (some (.arr sz' ys))) (upd σ nm (some l)) C.X w) (.osl nm sz' 0 ys.length) v:=by
 have hbn:b≠nm:=fun e => by have:=r.at'; rw [e,hn] at this; cases this
 obtain ⟨v,hv,hr,hlf⟩:=r.cell i c f _ hc hx
 have hil:=(List.getElem?_eq_some_iff.1 hc).1
 have hfl:=(List.getElem?_eq_some_iff.1 hx).1
 have hcl:=r.len i c hc
 obtain ⟨A,cap,rfl,hcap,hlen,hown⟩:=(hr:OwnAt _ w sz' ys v)
 have hsub : ∀ i' j' q,SubAt cc d sz (es.set i (c.set f (.osl nm sz' 0 ys.length))) i' j' q→SubAt cc d sz es i' j' q∧¬ (i'=i∧j'=f):=by
  rintro i' j' q ⟨cl,s2,y2,o2,sp2,n2,cap2,e1,e2,e3,e4⟩
  rw [List.getElem?_set] at e1
  by_cases hi:i=i'
  ·subst hi
   rw [if_pos rfl,if_pos hil] at e1
   injection e1 with e1; subst e1
   rw [List.getElem?_set] at e2
   by_cases hf:f=j'
   ·subst hf
    rw [if_pos rfl,if_pos hfl] at e2
    cases e2
   ·rw [if_neg hf] at e2
    exact ⟨⟨c,s2,y2,o2,sp2,n2,cap2,hc,e2,e3,e4⟩,fun h => hf h.2.symm⟩
  ·rw [if_neg hi] at e1
   exact ⟨⟨cl,s2,y2,o2,sp2,n2,cap2,e1,e2,e3,e4⟩,fun h => hi h.1.symm⟩
 have key : ∀ (l : Loc), (∀ q, Owns (upd σ nm (some l)) w nm (.arr sz' ys) q → SubAt cc d sz es i f q) → (∀ h, HLe (frz (hk hp) σ C.X w) h → BR C.rc (upd σ nm (some l)) h w nm (.arr sz' ys)) → (∀ h, VR (upd σ nm (some l)) h (.osl nm sz' 0 ys.length) (.slice A ys.length cap)) →
  HRel C (upd σ nm (some l)) (upd (upd (hk hp) b (some (.row sz (es.set i (c.set f (.osl nm sz' 0 ys.length)))))) nm (some (.arr sz' ys))) w ∧
  HLe (frz (hk hp) σ C.X w) (frz (upd (upd (hk hp) b (some (.row sz (es.set i (c.set f (.osl nm sz' 0 ys.length)))))) nm (some (.arr sz' ys))) (upd σ nm (some l)) C.X w):=by
  intro l h1 h2 h3
  refine R.part hb hn hbn l _ _ (fun q h => ?_) (fun q h => ⟨r.owns (h1 q h),fun h' => ?_⟩) (fun hl => ?_) fun hl => h2 _ hl
  ·cases h with
   | «at» _ _ d1 n1 s1 g => exact .at _ _ d1 n1 s1 g
   | sub _ _ k1 d1 n1 c1 e1 z1 i1 j1 _ g1 g2 g3 =>
    rw [r.at'] at g1
    injection g1 with g1; injection g1 with q1 q2 q3 q4; subst q1; subst q2
    rw [r.mem] at g2
    injection g2 with g2; injection g2 with q1 q2 q3; subst q1
    exact r.owns (hsub _ _ _ g3).1
  ·have hs:=h1 q h
   cases h' with
   | «at» _ _ d1 n1 s1 g =>
    rw [r.at'] at g
    injection g with g; injection g with g
    exact r.ne _ _ _ hs g.symm
   | sub _ _ k1 d1 n1 c1 e1 z1 i1 j1 _ g1 g2 g3 =>
    rw [r.at'] at g1
    injection g1 with g1; injection g1 with q1 q2 q3 q4; subst q1; subst q2
    rw [r.mem] at g2
    injection g2 with g2; injection g2 with q1 q2 q3; subst q1
    obtain ⟨g4,g5⟩:=hsub _ _ _ g3
    exact g5 (r.one _ _ _ _ _ g4 hs)
  ·have hs:=SLe.upd hn l
   refine .row sz _ k d cc ty z (by rw [upd_ne _ _ hbn]; exact r.at') r.mem r.nz (fun i' cl e => ?_) (fun i' cl j' x e1 e2 => ?_) (fun i1 j1 i2 j2 q g1 g2 => r.one _ _ _ _ _ (hsub _ _ _ g1).1 (hsub _ _ _ g2).1) fun i1 j1 q g => r.ne _ _ _ (hsub _ _ _ g).1
   ·rw [List.getElem?_set] at e
    by_cases hi:i=i'
    ·subst hi
     rw [if_pos rfl,if_pos hil] at e
     injection e with e; subst e
     rw [List.length_set]; exact hcl
    ·rw [if_neg hi] at e; exact r.len _ _ e
   ·rw [List.getElem?_set] at e1
    by_cases hi:i=i'
    ·subst hi
     rw [if_pos rfl,if_pos hil] at e1
     injection e1 with e1; subst e1
     rw [List.getElem?_set] at e2
     by_cases hf:f=j'
     ·subst hf
      rw [if_pos rfl,if_pos hfl] at e2
      injection e2 with e2; subst e2
      exact ⟨_,hv,h3 _,rfl⟩
     ·rw [if_neg hf] at e2
      obtain ⟨v',q1,q2,q3⟩:=r.cell i c j' x hc e2
      exact ⟨v',q1,q2.mono hs hl fun _ _ _ _ _ _ _ _ _ _ => rfl,q3⟩
    ·rw [if_neg hi] at e1
     obtain ⟨v',q1,q2,q3⟩:=r.cell i' cl j' x e1 e2
     exact ⟨v',q1,q2.mono hs hl fun _ _ _ _ _ _ _ _ _ _ => rfl,q3⟩
 by_cases hc0:cap=0
 ·subst hc0
  have hy:ys=[]:=List.eq_nil_of_length_eq_zero (by omega)
  subst hy
  have:=key .vir (fun q h => by
   obtain ⟨_,_,_,_,h⟩:=h.loc
   rw [upd_same] at h; injection h with h; cases h) (fun h _ => .vir sz' (upd_same _ _ _)) (fun h => .vir nm sz' 0 A (upd_same _ _ _))
  exact ⟨_,.vir,hv,this.1,this.2,.vir nm sz' 0 A (upd_same _ _ _)⟩
 ·obtain ⟨k',o,c',e',z',rfl,m1,m2,m3,m4⟩:=hown.resolve_left hc0
  have hsu:SubAt cc d sz es i f k':=⟨c,sz',ys,o,none,_,cap,hc,hx,hv,by omega⟩
  have hvr : ∀ h,VR (upd σ nm (some (.here k' o c'.size sz'))) h (.osl nm sz' 0 ys.length) (.slice (some ⟨k',o,none⟩) ys.length cap):=fun h =>
   .osl nm sz' 0 ys.length k' o c'.size _ cap (upd_same _ _ _) hcap (.inr (by simp)) (by omega)
  have:=key (.here k' o c'.size sz') (fun q h => by
   have hq:q=k':=h.plain ⟨(by intro _ _ h; cases h),(by intro _ _ _ h; cases h)⟩ (upd_same _ _ _)
   rw [hq]; exact hsu) (fun h hl => .arr sz' ys k' o c' e' z' (upd_same _ _ _) m1 m2 hlen fun i' cl j' x e1 e2 => by
    obtain ⟨v',q1,q2⟩:=m4 i' cl j' x e1 e2
    exact ⟨v',q1,q2.mono hl⟩) hvr
  exact ⟨_,_,hv,this.1,this.2,hvr _⟩
theorem heap_loadr_ok {t:TypeId} {p:Operand} {b i f sz sz':Nat} {es:List (List AV)} {c:List AV} {ys:List (List FV)} (hg:agT P t=some none) (H:Sl C.G σ (frz (hk hp) σ C.X w) sl a) (R:HRel C σ (hk hp) w) (hn:σ nm=none)
 (hp':LX.av C.G sl (compX p)=.ep b i f) (hb:hk hp b=some (.row sz es)) (hc:es[i]? = some c) (hx:c[f]? = some (.own sz' ys)) :
 HeapOk P C σ hp a w nm (.load t p) (.osl nm sz' 0 ys.length) [(nm,some (.arr sz' ys)),(b,some (.row sz (es.set i (c.set f (.osl nm sz' 0 ys.length)))))]:=by
 have hpv:=H.av p
 rw [hp'] at hpv
 obtain ⟨k,d,n,sz1,hσ,hv⟩:=hpv.ep_inv
 obtain ⟨rfl,cc,ty,z,rfl,r⟩:=row_at R hb hσ
 obtain ⟨v,l,h1,h2,h3,h4⟩:=R.thaw hb r hn hc hx
 refine ⟨v,upd σ nm (some l),w,fun ob ho => .inl ?_,?_,?_,SLe.upd hn _,?_,upd_none⟩
 ·have h2':(loadVar t ⟨k,d + (i * sz1 + f),none⟩).run P w=.ok v w:=run_loadVar_one hg (by rw [cell_block r.mem]; exact h1)
  simp only [execOp,ho,Instr.loadAt,Instr.sureAddr,hv,Sem.run_bind,Sem.run_pure,Result.andThen_ok,h2']
 ·simp only [List.cons_append,List.nil_append,hk_cons]; exact h4
 ·simp only [List.cons_append,List.nil_append,hk_cons]; exact h2
 ·simp only [List.cons_append,List.nil_append,hk_cons]; exact h3
end Go.Vai
