/-
  A part of the abstract run of Go functions and of the proof that it tells the truth.
-/
import Derived.Test.YtljbbcpahapmnaaGreatDoorVa3
set_option linter.unusedVariables false
namespace Go.Vai
inductive Wit {α:Sort _} (a:α):Type where
 | mk
def optP {α:Type} (x:Option α) (k:α→Prop) (w:Wit k):Prop:=match x with
 | some a => k a
 | none => False
@[simp] theorem optP_some {α : Type} (a : α) (k : α → Prop) (w : Wit k) : optP (some a) k w = k a := rfl
@[simp] theorem optP_none {α : Type} (k : α → Prop) (w : Wit k) : optP none k w = False := rfl
@[simp] theorem optP_map {α β : Type} (f : α → β) (x : Option α) (k : β → Prop) (w : Wit k) : optP (x.map f) k w = optP x (fun a => k (f a)) .mk := by cases x <;> rfl
def condP (p A B:Prop) (w:Wit (A,B)):Prop:=(p→A)∧(¬ p→B)
@[simp] theorem condP_true (A B : Prop) (w : Wit (A, B)) : condP True A B w = A := by simp [condP]
@[simp] theorem condP_false (A B : Prop) (w : Wit (A, B)) : condP False A B w = B := by simp [condP]
@[simp] theorem condP_not (p A B : Prop) (w : Wit (A, B)) : condP (¬ p) A B w = condP p B A .mk := by
 simp only [condP,Classical.not_not,eq_iff_iff]; exact ⟨fun h => ⟨h.2,h.1⟩,fun h => ⟨h.2,h.1⟩⟩
def boolP (c:AV) (A B:Prop) (w:Wit (A,B)):Prop:=match c with
 | .fz (.sc (.bool t)) => condP (t=true) A B .mk
 | _ => False
@[simp] theorem boolP_bool (t : Bool) (A B : Prop) (w : Wit (A, B)) : boolP (.fz (.sc (.bool t))) A B w = condP (t = true) A B .mk := rfl
def boolG (x:AV) (want:Bool) (A B:Prop) (w:Wit (A,B)):Prop:=match x with
 | .fz (.sc (.bool b)) => condP (b=want) A B .mk
 | .tup [] => B
 | _ => False
@[simp] theorem boolG_skip (u : Bool) (A B : Prop) (w : Wit (A, B)) : boolG (.tup []) u A B w = B := rfl
@[simp] theorem boolG_bool (t u : Bool) (A B : Prop) (w : Wit (A, B)) : boolG (.fz (.sc (.bool t))) u A B w = condP (t = u) A B .mk := rfl
def core0 (G:Nat→Option (List FV)) (rf:RF) (o:LOp) (nm:Nat) (st:St) (w:Wit o):Option (AV × HW × Nat) :=
 if o.isHeap=true then heapOp rf (LX.av G st.sl) nm st o else (pureOp (LX.av G st.sl) o).map fun v => (v,[],0)
def guardP (gd:Option (Nat × Bool)) (sl:List (Nat × AV)) (A B:Prop) (w:Wit (gd,A,B)):Prop:=match gd with
 | none => A
 | some (g,want) => boolG (lk sl g) want A B .mk
@[simp] theorem guardP_none (sl : List (Nat × AV)) (A B : Prop) (w : Wit ((none : Option (Nat × Bool)), A, B)) : guardP none sl A B w = A := rfl
@[simp] theorem guardP_some (g : Nat) (u : Bool) (sl : List (Nat × AV)) (A B : Prop) (w : Wit (some (g, u), A, B)) : guardP (some (g, u)) sl A B w = boolG (lk sl g) u A B .mk := rfl
theorem coreOp_gd {G:Nat→Option (List FV)} {rf:RF} {o:LOper} {nm:Nat} {st:St}:coreOp G rf o nm st=match o.gd with
 | none => core0 G rf o.op nm st .mk
 | some (g,want) => match lk st.sl g with
  | .fz (.sc (.bool b)) => if b=want then core0 G rf o.op nm st .mk else some (.tup [],[],0)
  | .tup [] => some (.tup [],[],0)
  | _ => none:=by
 unfold coreOp core0
 cases pureOp (LX.av G st.sl) o.op <;> rfl
theorem guard_core {G:Nat→Option (List FV)} {rf:RF} {o:LOper} {nm:Nat} {st:St} {k:AV × HW × Nat→Prop} :
 optP (coreOp G rf o nm st) k .mk=guardP o.gd st.sl (optP (core0 G rf o.op nm st .mk) k .mk) (k (.tup [],[],0)) .mk:=by
 rw [coreOp_gd]
 unfold guardP
 cases o.gd with
 | none => rfl
 | some p =>
  obtain ⟨g,want⟩:=p
  simp only
  generalize lk st.sl g=x
  unfold boolG
  split
  ·rename_i b
   by_cases hb:b=want
   ·rw [if_pos hb]; simp [condP,hb]
   ·rw [if_neg hb]; simp [condP,hb]
  ·rfl
  ·rfl
variable (v:Env) {m:Nat}
def Env.wp (m:Nat) (c:LCode) (st:St) (Q:Ex→St→Prop) (w:Wit (c,Q)):Prop := ∃ r s,v.ex m c st=some (r,s)∧Q r s
def Env.wpo (v:Env):(l:List LOper)→Nat→St→(Q:St→Prop)→Wit (l,Q)→Prop
 | [],_,st,Q,_ => Q st
 | o :: r,nm,st,Q,_ => guardP o.gd st.sl (optP (core0 v.G v.run o.op nm st .mk) (fun p => v.wpo r (nm + 1) (st.put o.dst p) Q .mk) .mk) (v.wpo r (nm + 1) (st.put o.dst (.tup [],[],0)) Q .mk) .mk
def Env.wpd (v : Env) (prs : List (Nat × Nat)) : (l : List LOper) → Nat → Nat → St → List (Nat × List Nat) → (Q : St → Prop) → Wit (prs, l, Q) → Prop
 | [],_,_,st,fs,Q,_ => prs.all (fun p => disj (footOf fs p.1) (footOf fs p.2))=true∧Q st
 | o :: r,i,nm,st,fs,Q,_ => guardP o.gd st.sl
  (optP (core0 v.G v.run o.op nm st .mk) (fun p => v.wpd prs r (i + 1) (nm + 1) (st.put o.dst p)
    (if prs.any (fun p => p.1 == i || p.2 == i) then fs ++ [(i,touch (LX.av v.G st.sl) nm st o.op ++ List.range' st.nx p.2.2)] else fs) Q .mk) .mk)
  (v.wpd prs r (i + 1) (nm + 1) (st.put o.dst (.tup [],[],0))
    (if prs.any (fun p => p.1 == i || p.2 == i) then fs ++ [(i,touch (LX.av v.G st.sl) nm st o.op ++ List.range' st.nx 0)] else fs) Q .mk) .mk
variable {v}
theorem wp_mono {c:LCode} {st:St} {Q R:Ex→St→Prop} (h:v.wp m c st Q .mk) (k : ∀ r s,Q r s→R r s):v.wp m c st R .mk :=
 let ⟨r,s,h1,h2⟩:=h
 ⟨r,s,h1,k r s h2⟩
@[simp] theorem wp_skip {st : St} {Q : Ex → St → Prop} {w : Wit (LCode.skip, Q)} : v.wp m .skip st Q w = Q .nor st := by
 apply propext
 simp only [Env.wp,v.ex_skip]
 exact ⟨fun ⟨r,s,e,q⟩ => by injection e with e; injection e with e1 e2; subst e1; subst e2; exact q,fun q => ⟨_,_,rfl,q⟩⟩
@[simp] theorem wp_exit {id : Nat} {st : St} {Q : Ex → St → Prop} {w : Wit (LCode.exit id, Q)} : v.wp m (.exit id) st Q w = Q (.exit id) st := by
 apply propext
 simp only [Env.wp,v.ex_exit]
 exact ⟨fun ⟨r,s,e,q⟩ => by injection e with e; injection e with e1 e2; subst e1; subst e2; exact q,fun q => ⟨_,_,rfl,q⟩⟩
@[simp] theorem wp_ret {st : St} {Q : Ex → St → Prop} {w : Wit (LCode.ret, Q)} : v.wp m .ret st Q w = Q .ret st := by
 apply propext
 simp only [Env.wp,v.ex_ret]
 exact ⟨fun ⟨r,s,e,q⟩ => by injection e with e; injection e with e1 e2; subst e1; subst e2; exact q,fun q => ⟨_,_,rfl,q⟩⟩
@[simp] theorem wp_pre {cs : List Co} {c : LCode} {st : St} {Q : Ex → St → Prop} {w : Wit (LCode.pre cs c, Q)} : v.wp m (.pre cs c) st Q w = v.wp m c (coSts cs st) Q .mk := by
 simp [Env.wp,v.ex_pre]
def thenQ (k:St→Prop) (Q:Ex→St→Prop) (w:Wit (k,Q)):Ex→St→Prop
 | .nor,s => k s
 | r,s => Q r s
@[simp] theorem thenQ_nor (k : St → Prop) (Q : Ex → St → Prop) (w : Wit (k, Q)) (s : St) : thenQ k Q w .nor s = k s := rfl
@[simp] theorem thenQ_exit (k : St → Prop) (Q : Ex → St → Prop) (w : Wit (k, Q)) (i : Nat) (s : St) : thenQ k Q w (.exit i) s = Q (.exit i) s := rfl
@[simp] theorem thenQ_ret (k : St → Prop) (Q : Ex → St → Prop) (w : Wit (k, Q)) (s : St) : thenQ k Q w .ret s = Q .ret s := rfl
@[simp] theorem wp_seq {a b : LCode} {st : St} {Q : Ex → St → Prop} {w : Wit (LCode.seq a b, Q)} : v.wp m (.seq a b) st Q w = v.wp m a st (thenQ (fun s => v.wp m b s Q .mk) Q .mk) .mk := by
 apply propext
 simp only [Env.wp,v.ex_seq]
 constructor
 ·rintro ⟨r,s,e,q⟩
  cases h:v.ex m a st with
  | none => rw [h] at e; cases e
  | some p =>
   obtain ⟨r1,s1⟩:=p
   rw [h] at e
   cases r1 with
   | nor => exact ⟨.nor,s1,rfl,r,s,e,q⟩
   | exit i => injection e with e; injection e with e1 e2; subst e1; subst e2; exact ⟨_,_,rfl,q⟩
   | ret => injection e with e; injection e with e1 e2; subst e1; subst e2; exact ⟨_,_,rfl,q⟩
 ·rintro ⟨r,s,e,q⟩
  rw [e]
  cases r with
  | nor => exact q
  | exit i => exact ⟨_,_,rfl,q⟩
  | ret => exact ⟨_,_,rfl,q⟩
def blockQ (id:Nat) (Q:Ex→St→Prop) (w:Wit Q):Ex→St→Prop
 | .exit i,s => if i=id then Q .nor s else Q (.exit i) s
 | r,s => Q r s
@[simp] theorem blockQ_nor (id : Nat) (Q : Ex → St → Prop) (w : Wit Q) (s : St) : blockQ id Q w .nor s = Q .nor s := rfl
@[simp] theorem blockQ_ret (id : Nat) (Q : Ex → St → Prop) (w : Wit Q) (s : St) : blockQ id Q w .ret s = Q .ret s := rfl
@[simp] theorem blockQ_exit_same (id : Nat) (Q : Ex → St → Prop) (w : Wit Q) (s : St) : blockQ id Q w (.exit id) s = Q .nor s := by simp [blockQ]
@[simp] theorem blockQ_exit_ne (id i : Nat) (h : i ≠ id) (Q : Ex → St → Prop) (w : Wit Q) (s : St) : blockQ id Q w (.exit i) s = Q (.exit i) s := by
 simp [blockQ,h]
@[simp] theorem wp_block {id : Nat} {b : LCode} {st : St} {Q : Ex → St → Prop} {w : Wit (LCode.block id b, Q)} : v.wp m (.block id b) st Q w = v.wp m b st (blockQ id Q .mk) .mk := by
 apply propext
 simp only [Env.wp,v.ex_block]
 constructor
 ·rintro ⟨r,s,e,q⟩
  cases h:v.ex m b st with
  | none => rw [h] at e; cases e
  | some p =>
   obtain ⟨r1,s1⟩:=p
   rw [h] at e
   refine ⟨r1,s1,rfl,?_⟩
   cases r1 with
   | nor => injection e with e; injection e with e1 e2; subst e1; subst e2; exact q
   | ret => injection e with e; injection e with e1 e2; subst e1; subst e2; exact q
   | exit i =>
    simp only [blockR] at e
    simp only [blockQ]
    split at e
    ·rename_i hi; rw [if_pos hi]; injection e with e; injection e with e1 e2; subst e1; subst e2; exact q
    ·rename_i hi; rw [if_neg hi]; injection e with e; injection e with e1 e2; subst e1; subst e2; exact q
 ·rintro ⟨r,s,e,q⟩
  rw [e]
  cases r with
  | nor => exact ⟨_,_,rfl,q⟩
  | ret => exact ⟨_,_,rfl,q⟩
  | exit i =>
   simp only [blockQ] at q
   simp only [blockR]
   split at q
   ·rename_i hi; rw [if_pos hi]; exact ⟨_,_,rfl,q⟩
   ·rename_i hi; rw [if_neg hi]; exact ⟨_,_,rfl,q⟩
@[simp] theorem wp_cond {c : LX} {a b : LCode} {st : St} {Q : Ex → St → Prop} {w : Wit (LCode.cond c a b, Q)} : v.wp m (.cond c a b) st Q w = boolP (LX.av v.G st.sl c) (v.wp m a st Q .mk) (v.wp m b st Q .mk) .mk := by
 apply propext
 simp only [Env.wp,v.ex_cond]
 generalize LX.av v.G st.sl c=x
 unfold condR boolP
 split
 ·rename_i t
  cases t <;> simp [condP]
 ·simp
theorem wpo_ops {l:List LOper} : ∀ {nm:Nat} {st:St} {Q:St→Prop},(∃ s,stepOps v.G v.run l nm st=some s∧Q s)=v.wpo l nm st Q .mk:=by
 induction l with
 | nil => intro nm st Q; simp [stepOps,Env.wpo]
 | cons o r ih =>
  intro nm st Q
  simp only [stepOps,Env.wpo,stepOp]
  rw [← guard_core]
  cases h:coreOp v.G v.run o nm st with
  | none => simp
  | some p => simp only [optP_some]; exact ih
theorem wp_ops0 {l:List LOper} {st:St} {Q:Ex→St→Prop} {w:Wit (LCode.ops l,Q)}:v.wp m (.ops l) st Q w=v.wpo l st.nx { st with nx:=st.nx + l.length } (fun s => Q .nor s) .mk:=by
 rw [← wpo_ops]
 apply propext
 simp only [Env.wp,v.ex_ops,runOps]
 constructor
 ·rintro ⟨r,s,e,q⟩
  cases h:stepOps v.G v.run l st.nx { st with nx:=st.nx + l.length } with
  | none => rw [h] at e; cases e
  | some s1 => rw [h] at e; injection e with e; injection e with e1 e2; subst e1; subst e2; exact ⟨_,rfl,q⟩
 ·rintro ⟨s,e,q⟩
  rw [e]
  exact ⟨_,_,rfl,q⟩
theorem wpd_ops {prs:List (Nat × Nat)} {l:List LOper} : ∀ {i nm:Nat} {st:St} {fs:List (Nat × List Nat)} {Q:St→Prop},
 (∃ s gs,drawOps v.G v.run prs l i nm st=some (s,gs)∧prs.all (fun p => disj (footOf (fs ++ gs) p.1) (footOf (fs ++ gs) p.2))=true∧Q s)↔v.wpd prs l i nm st fs Q .mk:=by
 induction l with
 | nil =>
  intro i nm st fs Q
  simp only [drawOps,Env.wpd]
  constructor
  ·rintro ⟨s,gs,e,h1,h2⟩
   injection e with e; injection e with e1 e2; subst e1; subst e2
   rw [List.append_nil] at h1
   exact ⟨h1,h2⟩
  ·rintro ⟨h1,h2⟩
   exact ⟨st,[],rfl,by rw [List.append_nil]; exact h1,h2⟩
 | cons o r ih =>
  intro i nm st fs Q
  simp only [drawOps,Env.wpd]
  have hg := @guard_core v.G v.run o nm st fun p => v.wpd prs r (i + 1) (nm + 1) (st.put o.dst p)
   (if prs.any (fun p => p.1 == i || p.2 == i) then fs ++ [(i,touch (LX.av v.G st.sl) nm st o.op ++ List.range' st.nx p.2.2)] else fs) Q .mk
  simp only at hg
  rw [← hg]
  cases h:coreOp v.G v.run o nm st with
  | none => simp
  | some p =>
   simp only [optP_some]
   rw [← ih]
   have key : ∀ (B:Bool) (x:Nat × List Nat) (gs:List (Nat × List Nat)),(if B=true then fs ++ [x] else fs) ++ gs=fs ++ (if B=true then x :: gs else gs):=by
    intro B x gs
    cases B <;> simp
   constructor
   ·rintro ⟨s,gs,e,h1,h2⟩
    split at e
    ·rename_i s1 fs1 h3
     injection e with e; injection e with e1 e2; subst e1; subst e2
     refine ⟨s1,fs1,h3,?_,h2⟩
     rw [key]; exact h1
    ·cases e
   ·rintro ⟨s,gs,e,h1,h2⟩
    rw [e]
    refine ⟨s,_,rfl,?_,h2⟩
    rw [key] at h1; exact h1
theorem wp_draw0 {l:List LOper} {prs:List (Nat × Nat)} {st:St} {Q:Ex→St→Prop} {w:Wit (LCode.draw l prs,Q)}:v.wp m (.draw l prs) st Q w=v.wpd prs l 0 st.nx { st with nx:=st.nx + l.length } [] (fun s => Q .nor s) .mk:=by
 apply propext
 rw [← wpd_ops]
 simp only [Env.wp,v.ex_draw,runDraw,List.nil_append]
 constructor
 ·rintro ⟨r,s,e,q⟩
  cases h:drawOps v.G v.run prs l 0 st.nx { st with nx:=st.nx + l.length } with
  | none => rw [h] at e; cases e
  | some p =>
   obtain ⟨s1,fs⟩:=p
   rw [h] at e
   simp only at e
   split at e
   ·rename_i hd
    injection e with e; injection e with e1 e2; subst e1; subst e2
    exact ⟨_,_,rfl,hd,q⟩
   ·cases e
 ·rintro ⟨s,fs,e,hd,q⟩
  rw [e]
  simp only
  rw [if_pos hd]
  exact ⟨_,_,rfl,q⟩
@[simp] theorem wp_ops {l : List LOper} {sl : List (Nat × AV)} {hp : HW} {nx : Nat} {Q : Ex → St → Prop} {w : Wit (LCode.ops l, Q)} : v.wp m (.ops l) ⟨sl, hp, nx⟩ Q w = v.wpo l nx ⟨sl, hp, nx + l.length⟩ (fun s => Q .nor s) .mk := wp_ops0
@[simp] theorem wp_draw {l : List LOper} {prs : List (Nat × Nat)} {sl : List (Nat × AV)} {hp : HW} {nx : Nat} {Q : Ex → St → Prop} {w : Wit (LCode.draw l prs, Q)} : v.wp m (.draw l prs) ⟨sl, hp, nx⟩ Q w = v.wpd prs l 0 nx ⟨sl, hp, nx + l.length⟩ [] (fun s => Q .nor s) .mk := wp_draw0
@[simp] theorem wpo_nil {nm : Nat} {st : St} {Q : St → Prop} {w : Wit (([] : List LOper), Q)} : v.wpo [] nm st Q w = Q st := rfl
@[simp] theorem wpo_cons {dst : Option Nat} {op : LOp} {gd : Option (Nat × Bool)} {r : List LOper} {nm : Nat} {sl : List (Nat × AV)} {hp : HW} {nx : Nat} {Q : St → Prop} {w : Wit ((⟨dst, op, gd⟩ :: r : List LOper), Q)} :
 v.wpo (⟨dst,op,gd⟩ :: r) nm ⟨sl,hp,nx⟩ Q w=guardP gd sl (optP (core0 v.G v.run op nm ⟨sl,hp,nx⟩ .mk) (fun p => v.wpo r (nm + 1) ⟨putD dst p.1 sl,p.2.1 ++ hp,nx + p.2.2⟩ Q .mk) .mk) (v.wpo r (nm + 1) ⟨putD dst (.tup []) sl,hp,nx⟩ Q .mk) .mk:=rfl
@[simp] theorem wpd_nil {prs : List (Nat × Nat)} {i nm : Nat} {st : St} {fs : List (Nat × List Nat)} {Q : St → Prop} {w : Wit (prs, ([] : List LOper), Q)} : v.wpd prs [] i nm st fs Q w = (prs.all (fun p => disj (footOf fs p.1) (footOf fs p.2)) = true ∧ Q st) := rfl
@[simp] theorem wpd_cons {prs : List (Nat × Nat)} {i : Nat} {fs : List (Nat × List Nat)} {dst : Option Nat} {op : LOp} {gd : Option (Nat × Bool)} {r : List LOper} {nm : Nat} {sl : List (Nat × AV)} {hp : HW} {nx : Nat} {Q : St → Prop} {w : Wit (prs, (⟨dst, op, gd⟩ :: r : List LOper), Q)} :
 v.wpd prs (⟨dst,op,gd⟩ :: r) i nm ⟨sl,hp,nx⟩ fs Q w=guardP gd sl (optP (core0 v.G v.run op nm ⟨sl,hp,nx⟩ .mk) (fun p => v.wpd prs r (i + 1) (nm + 1) ⟨putD dst p.1 sl,p.2.1 ++ hp,nx + p.2.2⟩
  (if prs.any (fun p => p.1 == i || p.2 == i) then fs ++ [(i,touch (LX.av v.G sl) nm ⟨sl,hp,nx⟩ op ++ List.range' nx p.2.2)] else fs) Q .mk) .mk) (v.wpd prs r (i + 1) (nm + 1) ⟨putD dst (.tup []) sl,hp,nx⟩
  (if prs.any (fun p => p.1 == i || p.2 == i) then fs ++ [(i,touch (LX.av v.G sl) nm ⟨sl,hp,nx⟩ op ++ List.range' nx 0)] else fs) Q .mk) .mk:=rfl
theorem wp_loop {live:List Nat} {b:LCode} {st:St} {Q:Ex→St→Prop}:v.wp m (.loop live b) st Q .mk=v.wp m b (norm m live st) (thenQ (fun s => v.wp m (.loop live b) s Q .mk) Q .mk) .mk:=by
 apply propext
 simp only [Env.wp]
 rw [v.ex_loop]
 have := @wp_seq v m b (.loop live b) (norm m live st) Q .mk
 simp only [Env.wp,v.ex_seq] at this
 rw [this]
def Again {α:Type} (S:α→St) (I:α→Prop) (μ:α→Nat) (a:α) (m:Nat) (live:List Nat) (w:Wit (S,I,μ,a,m,live)) (s:St):Prop := ∃ a',I a'∧μ a' < μ a∧norm m live s=S a'
theorem again {α:Type} {S:α→St} {I:α→Prop} {μ:α→Nat} {a:α} {m:Nat} {live:List Nat} {w:Wit (S,I,μ,a,m,live)} {s:St} (a':α) (h1:I a') (h2:μ a' < μ a) (h3:norm m live s=S a'):Again S I μ a m live w s:=⟨a',h1,h2,h3⟩
theorem wp_inv {α:Type} (S:α→St) (I:α→Prop) (μ:α→Nat) {live:List Nat} {b:LCode} {Q:Ex→St→Prop} {w:Wit (LCode.loop live b,Q)} (a:α) {st:St} (ha:I a) (hs:norm m live st=S a)
 (h : ∀ a,I a→v.wp m b (S a) (thenQ (Again S I μ a m live .mk) Q .mk) .mk):v.wp m (.loop live b) st Q w:=by
 have key : ∀ (n:Nat) (a:α),μ a < n→I a→∀ st,norm m live st=S a→v.wp m (.loop live b) st Q .mk:=by
  intro n
  induction n with
  | zero => intro a h; omega
  | succ n ih =>
   intro a hn ha st hs
   rw [wp_loop,hs]
   refine wp_mono (h a ha) fun r s q => ?_
   cases r with
   | nor =>
    obtain ⟨a',h1,h2,h3⟩:=q
    exact ih a' (by omega) h1 s h3
   | exit i => exact q
   | ret => exact q
 exact key _ a (Nat.lt_succ_self _) ha st hs
@[simp] theorem wp_rfn {g : LX} {pf : FuncId} {caps its : List Nat} {sl : List (Nat × AV)} {hp : HW} {nx : Nat} {Q : Ex → St → Prop} {w : Wit (LCode.rfn g pf caps its, Q)} : v.wp m (.rfn g pf caps its) ⟨sl, hp, nx⟩ Q w = optP (rfnOp v.G v.run g pf caps its ⟨sl, hp, nx⟩) (fun p => Q p.1 p.2) .mk := by
 apply propext
 simp only [Env.wp,v.ex_rfn]
 cases rfnOp v.G v.run g pf caps its ⟨sl,hp,nx⟩ with
 | none => simp
 | some p =>
  obtain ⟨r,s⟩:=p
  simp only [optP_some]
  exact propext ⟨fun ⟨r1,s1,e,q⟩ => by injection e with e; injection e with e1 e2; subst e1; subst e2; exact q,fun q => ⟨_,_,rfl,q⟩⟩ |> Iff.of_eq
theorem round_wp {f:FuncId} {n np:Nat} {res:List LRes} {own:Bool} {ps:List Nat} {ent fin:List Co} {body:LCode} (hT:v.T f=some ⟨n,np,res,own,some ps,ent,fin,body⟩) {xs:List AV} {bl:List (Option Blk)} {sl:List (Nat × AV)} {R:AV × List (Option Blk)} (hs:slotsP ps xs=some sl)
 (h:v.wp bl.length body (coSts ent { sl:=sl,hp:=numd 0 bl,nx:=bl.length }) (fun e s => finishR ⟨n,np,res,own,some ps,ent,fin,.skip⟩ bl.length e (coSts fin s)=R) .mk):v.run f xs bl=some R:=by
 obtain ⟨r,s,e,q⟩:=h
 rw [v.run_round hT rfl hs e]
 simp only [finishR] at q ⊢
 rw [q]
def fin0 (res:List LRes) (own:Bool) (m:Nat) (st:St):Option (AV × List (Option Blk)) :=
 match resL st res with
 | some l =>
  let p:=if own then (l,st.hp) else froL m st.hp l
  let r:=tupOf p.1
  let ns:=clos p.2 1000 (argNames m p.2 ++ r.names) (upTo m)
  some (r.ren (idx ns),blks p.2 (idx ns) ns)
 | none => none
def doneQ (res:List LRes) (own:Bool) (fin:List Co) (n:Nat) (R:AV × List (Option Blk)) (w:Wit (res,own,fin,n,R)):Ex→St→Prop
 | .exit _,_ => False
 | _,s => fin0 res own n (coSts fin s)=some R
@[simp] theorem doneQ_nor (res : List LRes) (own : Bool) (fin : List Co) (n : Nat) (R : AV × List (Option Blk)) (w : Wit (res, own, fin, n, R)) (s : St) : doneQ res own fin n R w .nor s = (fin0 res own n (coSts fin s) = some R) := rfl
@[simp] theorem doneQ_ret (res : List LRes) (own : Bool) (fin : List Co) (n : Nat) (R : AV × List (Option Blk)) (w : Wit (res, own, fin, n, R)) (s : St) : doneQ res own fin n R w .ret s = (fin0 res own n (coSts fin s) = some R) := rfl
@[simp] theorem doneQ_exit (res : List LRes) (own : Bool) (fin : List Co) (n : Nat) (R : AV × List (Option Blk)) (w : Wit (res, own, fin, n, R)) (i : Nat) (s : St) : doneQ res own fin n R w (.exit i) s = False := rfl
theorem run_wp {f:FuncId} {n np:Nat} {res:List LRes} {own:Bool} {ent fin:List Co} {body:LCode} (hT:v.T f=some ⟨n,np,res,own,none,ent,fin,body⟩) {xs:List AV} {bl:List (Option Blk)} {R:AV × List (Option Blk)}
 (h:v.wp bl.length body (coSts ent { sl:=slots0 0 xs,hp:=numd 0 bl,nx:=bl.length }) (doneQ res own fin bl.length R .mk) .mk):v.run f xs bl=some R:=by
 rw [v.run_code hT rfl]
 obtain ⟨r,s,e,q⟩:=h
 rw [e]
 cases r with
 | nor => exact q
 | ret => exact q
 | exit i => exact q.elim
@[simp] theorem mx2_int (k : IntKind) (x y : Int) : mx2 (.int k x) (.int k y) = some (.int k (max x y)) := by
 simp only [mx2,if_true]
 congr 2
 by_cases h:y > x
 ·rw [if_pos h]; omega
 ·rw [if_neg h]; omega
@[simp] theorem mn2_int (k : IntKind) (x y : Int) : mn2 (.int k x) (.int k y) = some (.int k (min x y)) := by
 simp only [mn2,if_true]
 congr 2
 by_cases h:y < x
 ·rw [if_pos h]; omega
 ·rw [if_neg h]; omega
@[simp] theorem binS_add (k : IntKind) (a b : Int) : binS .add (.int k a) (.int k b) = some (.int k (k.wrap (a + b))) := by simp [binS]
@[simp] theorem binS_sub (k : IntKind) (a b : Int) : binS .sub (.int k a) (.int k b) = some (.int k (k.wrap (a - b))) := by simp [binS]
@[simp] theorem binS_mul (k : IntKind) (a b : Int) : binS .mul (.int k a) (.int k b) = some (.int k (k.wrap (a * b))) := by simp [binS]
@[simp] theorem binS_eql (k : IntKind) (a b : Int) : binS .eql (.int k a) (.int k b) = some (.bool (decide (a = b))) := by simp [binS]
@[simp] theorem binS_neq (k : IntKind) (a b : Int) : binS .neq (.int k a) (.int k b) = some (.bool (!decide (a = b))) := by simp [binS]
@[simp] theorem binS_lss (k : IntKind) (a b : Int) : binS .lss (.int k a) (.int k b) = some (.bool (decide (a < b))) := by simp [binS]
@[simp] theorem binS_leq (k : IntKind) (a b : Int) : binS .leq (.int k a) (.int k b) = some (.bool (decide (a ≤ b))) := by simp [binS]
@[simp] theorem binS_gtr (k : IntKind) (a b : Int) : binS .gtr (.int k a) (.int k b) = some (.bool (decide (b < a))) := by simp [binS]
@[simp] theorem binS_geq (k : IntKind) (a b : Int) : binS .geq (.int k a) (.int k b) = some (.bool (decide (b ≤ a))) := by simp [binS]
@[simp] theorem binS_quo (k : IntKind) (a b : Int) : binS .quo (.int k a) (.int k b) = if b = 0 then none else some (.int k (k.wrap (a.tdiv b))) := by simp [binS]
@[simp] theorem binS_rem (k : IntKind) (a b : Int) : binS .rem (.int k a) (.int k b) = if b = 0 then none else some (.int k (a.tmod b)) := by simp [binS]
@[simp] theorem binS_shl (k k' : IntKind) (a b : Int) : binS .shl (.int k a) (.int k' b) = if b < 0 then none else some (.int k (k.wrap (a * 2 ^ (min b.toNat k.bits)))) := by simp [binS]
@[simp] theorem binS_shr (k k' : IntKind) (a b : Int) : binS .shr (.int k a) (.int k' b) = if b < 0 then none else some (.int k (a.fdiv (2 ^ (min b.toNat k.bits)))) := by simp [binS]
@[simp] theorem binS_sadd (x y : ByteArray) : binS .add (.string x) (.string y) = if (x.size + y.size : Nat) ≤ 9223372036854775807 then some (.string (x ++ y)) else none := by simp [binS]
@[simp] theorem binS_seql (x y : ByteArray) : binS .eql (.string x) (.string y) = some (.bool (decide (x = y))) := by simp [binS]
@[simp] theorem binS_sneq (x y : ByteArray) : binS .neq (.string x) (.string y) = some (.bool (!decide (x = y))) := by simp [binS]
def lkL (sl:List (Nat × AV)):List Nat→List AV
 | [] => []
 | t :: r => lk sl t :: lkL sl r
def zipT:List Nat→List AV→List (Nat × AV)
 | t :: r,x :: s => (t,x) :: zipT r s
 | _,_ => []
def normB (live:List Nat) (xs:List AV) (hp:HW) (ns:List Nat):St :=
 { sl:=zipT live (AV.renL (idx ns) xs),hp:=numd 0 (blks hp (idx ns) ns),nx:=ns.length }
theorem lkL_map (sl:List (Nat × AV)) (live:List Nat):live.map (lk sl)=lkL sl live:=by
 induction live with
 | nil => rfl
 | cons t r ih => simp [lkL,ih]
theorem zipT_map (sl:List (Nat × AV)) (ρ:Nat→Option Nat) (live:List Nat):live.map (fun t => (t,(lk sl t).ren ρ))=zipT live (AV.renL ρ (lkL sl live)):=by
 induction live with
 | nil => rfl
 | cons t r ih => simp [lkL,AV.renL,zipT,ih]
theorem norm_eq {m:Nat} {live:List Nat} {sl:List (Nat × AV)} {hp:HW} {nx:Nat}:norm m live ⟨sl,hp,nx⟩=normB live (lkL sl live) hp (clos hp 1000 (argNames m hp ++ AV.namesL (lkL sl live)) (upTo m)):=by
 unfold norm normB
 simp only [lkL_map,zipT_map]
def blkNames (hp:HW):List Nat→List Nat
 | [] => []
 | b :: r => (match hk hp b with
  | some blk => blk.names
  | none => []) ++ blkNames hp r
theorem touchA_eq {st:St} {xs:List AV}:touchA st xs=AV.namesL xs ++ clos st.hp 1000 (AV.namesL xs) [] ++ blkNames st.hp (clos st.hp 1000 (AV.namesL xs) []):=by
 unfold touchA
 simp only
 congr 1
 generalize clos st.hp 1000 (AV.namesL xs) []=ns
 induction ns with
 | nil => rfl
 | cons b r ih => simp [blkNames,ih]; cases hk st.hp b <;> rfl
attribute [simp] norm_eq touchA_eq lkL zipT normB blkNames
@[simp] theorem core0_mov {G : Nat → Option (List FV)} {rf : RF} {nm : Nat} {st : St} (x : LX) (wt : Wit (LOp.mov x)) : core0 G rf (.mov x) nm st wt = (pureOp (LX.av G st.sl) (.mov x)).map fun v => (v, [], 0) := (rfl : _ = _).trans rfl
@[simp] theorem core0_pick {G : Nat → Option (List FV)} {rf : RF} {nm : Nat} {st : St} (c a b : LX) (wt : Wit (LOp.pick c a b)) : core0 G rf (.pick c a b) nm st wt = (pureOp (LX.av G st.sl) (.pick c a b)).map fun v => (v, [], 0) := (rfl : _ = _).trans rfl
@[simp] theorem core0_bin {G : Nat → Option (List FV)} {rf : RF} {nm : Nat} {st : St} (op : BinOp) (x y : LX) (wt : Wit (LOp.bin op x y)) : core0 G rf (.bin op x y) nm st wt = (pureOp (LX.av G st.sl) (.bin op x y)).map fun v => (v, [], 0) := (rfl : _ = _).trans rfl
@[simp] theorem core0_beq {G : Nat → Option (List FV)} {rf : RF} {nm : Nat} {st : St} (neg : Bool) (x y : LX) (wt : Wit (LOp.beq neg x y)) : core0 G rf (.beq neg x y) nm st wt = (pureOp (LX.av G st.sl) (.beq neg x y)).map fun v => (v, [], 0) := (rfl : _ = _).trans rfl
@[simp] theorem core0_eqs {G : Nat → Option (List FV)} {rf : RF} {nm : Nat} {st : St} (ks : List Nat) (neg : Bool) (x y : LX) (wt : Wit (LOp.eqs ks neg x y)) : core0 G rf (.eqs ks neg x y) nm st wt = (pureOp (LX.av G st.sl) (.eqs ks neg x y)).map fun v => (v, [], 0) := (rfl : _ = _).trans rfl
@[simp] theorem core0_isnil {G : Nat → Option (List FV)} {rf : RF} {nm : Nat} {st : St} (k : Nat) (neg : Bool) (x : LX) (wt : Wit (LOp.isnil k neg x)) : core0 G rf (.isnil k neg x) nm st wt = (pureOp (LX.av G st.sl) (.isnil k neg x)).map fun v => (v, [], 0) := (rfl : _ = _).trans rfl
@[simp] theorem core0_un {G : Nat → Option (List FV)} {rf : RF} {nm : Nat} {st : St} (op : UnOp) (x : LX) (wt : Wit (LOp.un op x)) : core0 G rf (.un op x) nm st wt = (pureOp (LX.av G st.sl) (.un op x)).map fun v => (v, [], 0) := (rfl : _ = _).trans rfl
@[simp] theorem core0_conv {G : Nat → Option (List FV)} {rf : RF} {nm : Nat} {st : St} (k : IntKind) (x : LX) (wt : Wit (LOp.conv k x)) : core0 G rf (.conv k x) nm st wt = (pureOp (LX.av G st.sl) (.conv k x)).map fun v => (v, [], 0) := (rfl : _ = _).trans rfl
@[simp] theorem core0_i2s {G : Nat → Option (List FV)} {rf : RF} {nm : Nat} {st : St} (x : LX) (wt : Wit (LOp.i2s x)) : core0 G rf (.i2s x) nm st wt = (pureOp (LX.av G st.sl) (.i2s x)).map fun v => (v, [], 0) := (rfl : _ = _).trans rfl
@[simp] theorem core0_s2s {G : Nat → Option (List FV)} {rf : RF} {nm : Nat} {st : St} (x : LX) (wt : Wit (LOp.s2s x)) : core0 G rf (.s2s x) nm st wt = (pureOp (LX.av G st.sl) (.s2s x)).map fun v => (v, [], 0) := (rfl : _ = _).trans rfl
@[simp] theorem core0_slen {G : Nat → Option (List FV)} {rf : RF} {nm : Nat} {st : St} (x : LX) (wt : Wit (LOp.slen x)) : core0 G rf (.slen x) nm st wt = (pureOp (LX.av G st.sl) (.slen x)).map fun v => (v, [], 0) := (rfl : _ = _).trans rfl
@[simp] theorem core0_len {G : Nat → Option (List FV)} {rf : RF} {nm : Nat} {st : St} (x : LX) (wt : Wit (LOp.len x)) : core0 G rf (.len x) nm st wt = (pureOp (LX.av G st.sl) (.len x)).map fun v => (v, [], 0) := (rfl : _ = _).trans rfl
@[simp] theorem core0_alen {G : Nat → Option (List FV)} {rf : RF} {nm : Nat} {st : St} (n : Nat) (wt : Wit (LOp.alen n)) : core0 G rf (.alen n) nm st wt = (pureOp (LX.av G st.sl) (.alen n)).map fun v => (v, [], 0) := (rfl : _ = _).trans rfl
@[simp] theorem core0_mx {G : Nat → Option (List FV)} {rf : RF} {nm : Nat} {st : St} (xs : List LX) (wt : Wit (LOp.mx xs)) : core0 G rf (.mx xs) nm st wt = (pureOp (LX.av G st.sl) (.mx xs)).map fun v => (v, [], 0) := (rfl : _ = _).trans rfl
@[simp] theorem core0_mn {G : Nat → Option (List FV)} {rf : RF} {nm : Nat} {st : St} (xs : List LX) (wt : Wit (LOp.mn xs)) : core0 G rf (.mn xs) nm st wt = (pureOp (LX.av G st.sl) (.mn xs)).map fun v => (v, [], 0) := (rfl : _ = _).trans rfl
@[simp] theorem core0_fld {G : Nat → Option (List FV)} {rf : RF} {nm : Nat} {st : St} (p : LX) (d : Nat) (wt : Wit (LOp.fld p d)) : core0 G rf (.fld p d) nm st wt = (pureOp (LX.av G st.sl) (.fld p d)).map fun v => (v, [], 0) := (rfl : _ = _).trans rfl
@[simp] theorem core0_ixa {G : Nat → Option (List FV)} {rf : RF} {nm : Nat} {st : St} (sz : Nat) (x i : LX) (wt : Wit (LOp.ixa sz x i)) : core0 G rf (.ixa sz x i) nm st wt = (pureOp (LX.av G st.sl) (.ixa sz x i)).map fun v => (v, [], 0) := (rfl : _ = _).trans rfl
@[simp] theorem core0_ixp {G : Nat → Option (List FV)} {rf : RF} {nm : Nat} {st : St} (n sz : Nat) (p i : LX) (wt : Wit (LOp.ixp n sz p i)) : core0 G rf (.ixp n sz p i) nm st wt = (pureOp (LX.av G st.sl) (.ixp n sz p i)).map fun v => (v, [], 0) := (rfl : _ = _).trans rfl
@[simp] theorem core0_ixs {G : Nat → Option (List FV)} {rf : RF} {nm : Nat} {st : St} (x i : LX) (wt : Wit (LOp.ixs x i)) : core0 G rf (.ixs x i) nm st wt = (pureOp (LX.av G st.sl) (.ixs x i)).map fun v => (v, [], 0) := (rfl : _ = _).trans rfl
@[simp] theorem core0_ixv {G : Nat → Option (List FV)} {rf : RF} {nm : Nat} {st : St} (n sz : Nat) (ag : Option Nat) (x i : LX) (wt : Wit (LOp.ixv n sz ag x i)) : core0 G rf (.ixv n sz ag x i) nm st wt = (pureOp (LX.av G st.sl) (.ixv n sz ag x i)).map fun v => (v, [], 0) := (rfl : _ = _).trans rfl
@[simp] theorem core0_field {G : Nat → Option (List FV)} {rf : RF} {nm : Nat} {st : St} (ag : Option Nat) (x : LX) (d : Nat) (wt : Wit (LOp.field ag x d)) : core0 G rf (.field ag x d) nm st wt = (pureOp (LX.av G st.sl) (.field ag x d)).map fun v => (v, [], 0) := (rfl : _ = _).trans rfl
@[simp] theorem core0_build {G : Nat → Option (List FV)} {rf : RF} {nm : Nat} {st : St} (z : List Value) (ps : List (Nat × Nat × LX)) (wt : Wit (LOp.build z ps)) : core0 G rf (.build z ps) nm st wt = (pureOp (LX.av G st.sl) (.build z ps)).map fun v => (v, [], 0) := (rfl : _ = _).trans rfl
@[simp] theorem core0_slc {G : Nat → Option (List FV)} {rf : RF} {nm : Nat} {st : St} (sz : Nat) (x : LX) (lo hi mx : Option LX) (wt : Wit (LOp.slc sz x lo hi mx)) : core0 G rf (.slc sz x lo hi mx) nm st wt = (pureOp (LX.av G st.sl) (.slc sz x lo hi mx)).map fun v => (v, [], 0) := (rfl : _ = _).trans rfl
@[simp] theorem core0_slcs {G : Nat → Option (List FV)} {rf : RF} {nm : Nat} {st : St} (x : LX) (lo hi : Option LX) (wt : Wit (LOp.slcs x lo hi)) : core0 G rf (.slcs x lo hi) nm st wt = (pureOp (LX.av G st.sl) (.slcs x lo hi)).map fun v => (v, [], 0) := (rfl : _ = _).trans rfl
@[simp] theorem core0_ext {G : Nat → Option (List FV)} {rf : RF} {nm : Nat} {st : St} (x : LX) (i : Nat) (wt : Wit (LOp.ext x i)) : core0 G rf (.ext x i) nm st wt = (pureOp (LX.av G st.sl) (.ext x i)).map fun v => (v, [], 0) := (rfl : _ = _).trans rfl
@[simp] theorem core0_mkf {G : Nat → Option (List FV)} {rf : RF} {nm : Nat} {st : St} (f : FuncId) (caps : List LX) (wt : Wit (LOp.mkf f caps)) : core0 G rf (.mkf f caps) nm st wt = (pureOp (LX.av G st.sl) (.mkf f caps)).map fun v => (v, [], 0) := (rfl : _ = _).trans rfl
@[simp] theorem core0_nilchk {G : Nat → Option (List FV)} {rf : RF} {nm : Nat} {st : St} (x : LX) (wt : Wit (LOp.nilchk x)) : core0 G rf (.nilchk x) nm st wt = (pureOp (LX.av G st.sl) (.nilchk x)).map fun v => (v, [], 0) := (rfl : _ = _).trans rfl
@[simp] theorem core0_alloc {G : Nat → Option (List FV)} {rf : RF} {nm : Nat} {st : St} (z : List Value) (wt : Wit (LOp.alloc z)) : core0 G rf (.alloc z) nm st wt = heapOp rf (LX.av G st.sl) nm st (.alloc z) := (rfl : _ = _).trans rfl
@[simp] theorem core0_abld {G : Nat → Option (List FV)} {rf : RF} {nm : Nat} {st : St} (T U : TypeId) (wt : Wit (LOp.abld T U)) : core0 G rf (.abld T U) nm st wt = heapOp rf (LX.av G st.sl) nm st (.abld T U) := (rfl : _ = _).trans rfl
@[simp] theorem core0_box {G : Nat → Option (List FV)} {rf : RF} {nm : Nat} {st : St} (x : LX) (wt : Wit (LOp.box x)) : core0 G rf (.box x) nm st wt = heapOp rf (LX.av G st.sl) nm st (.box x) := (rfl : _ = _).trans rfl
@[simp] theorem core0_load {G : Nat → Option (List FV)} {rf : RF} {nm : Nat} {st : St} (ag : Option Nat) (p : LX) (wt : Wit (LOp.load ag p)) : core0 G rf (.load ag p) nm st wt = heapOp rf (LX.av G st.sl) nm st (.load ag p) := (rfl : _ = _).trans rfl
@[simp] theorem core0_store {G : Nat → Option (List FV)} {rf : RF} {nm : Nat} {st : St} (n : Nat) (p x : LX) (wt : Wit (LOp.store n p x)) : core0 G rf (.store n p x) nm st wt = heapOp rf (LX.av G st.sl) nm st (.store n p x) := (rfl : _ = _).trans rfl
@[simp] theorem core0_bsl {G : Nat → Option (List FV)} {rf : RF} {nm : Nat} {st : St} (sz : Nat) (z : List Value) (len : Nat) (ps : List (Nat × LX)) (wt : Wit (LOp.bsl sz z len ps)) : core0 G rf (.bsl sz z len ps) nm st wt = heapOp rf (LX.av G st.sl) nm st (.bsl sz z len ps) := (rfl : _ = _).trans rfl
@[simp] theorem core0_mks {G : Nat → Option (List FV)} {rf : RF} {nm : Nat} {st : St} (sz bytes : Nat) (z : List Value) (l c : LX) (wt : Wit (LOp.mks sz bytes z l c)) : core0 G rf (.mks sz bytes z l c) nm st wt = heapOp rf (LX.av G st.sl) nm st (.mks sz bytes z l c) := (rfl : _ = _).trans rfl
@[simp] theorem core0_app {G : Nat → Option (List FV)} {rf : RF} {nm : Nat} {st : St} (sz bytes : Nat) (str : Bool) (s x : LX) (wt : Wit (LOp.app sz bytes str s x)) : core0 G rf (.app sz bytes str s x) nm st wt = heapOp rf (LX.av G st.sl) nm st (.app sz bytes str s x) := (rfl : _ = _).trans rfl
@[simp] theorem core0_cpy {G : Nat → Option (List FV)} {rf : RF} {nm : Nat} {st : St} (sz : Nat) (d x : LX) (wt : Wit (LOp.cpy sz d x)) : core0 G rf (.cpy sz d x) nm st wt = heapOp rf (LX.av G st.sl) nm st (.cpy sz d x) := (rfl : _ = _).trans rfl
@[simp] theorem core0_clr {G : Nat → Option (List FV)} {rf : RF} {nm : Nat} {st : St} (sz : Nat) (z : List Value) (x : LX) (wt : Wit (LOp.clr sz z x)) : core0 G rf (.clr sz z x) nm st wt = heapOp rf (LX.av G st.sl) nm st (.clr sz z x) := (rfl : _ = _).trans rfl
@[simp] theorem core0_cv2 {G : Nat → Option (List FV)} {rf : RF} {nm : Nat} {st : St} (x : LX) (wt : Wit (LOp.cv2 x)) : core0 G rf (.cv2 x) nm st wt = heapOp rf (LX.av G st.sl) nm st (.cv2 x) := (rfl : _ = _).trans rfl
@[simp] theorem core0_slca {G : Nat → Option (List FV)} {rf : RF} {nm : Nat} {st : St} (n : Nat) (x : LX) (lo hi : Option LX) (wt : Wit (LOp.slca n x lo hi)) : core0 G rf (.slca n x lo hi) nm st wt = heapOp rf (LX.av G st.sl) nm st (.slca n x lo hi) := (rfl : _ = _).trans rfl
@[simp] theorem core0_s2b {G : Nat → Option (List FV)} {rf : RF} {nm : Nat} {st : St} (x : LX) (wt : Wit (LOp.s2b x)) : core0 G rf (.s2b x) nm st wt = heapOp rf (LX.av G st.sl) nm st (.s2b x) := (rfl : _ = _).trans rfl
@[simp] theorem core0_b2s {G : Nat → Option (List FV)} {rf : RF} {nm : Nat} {st : St} (x : LX) (wt : Wit (LOp.b2s x)) : core0 G rf (.b2s x) nm st wt = heapOp rf (LX.av G st.sl) nm st (.b2s x) := (rfl : _ = _).trans rfl
@[simp] theorem core0_call {G : Nat → Option (List FV)} {rf : RF} {nm : Nat} {st : St} (f : LX) (xs : List LX) (wt : Wit (LOp.call f xs)) : core0 G rf (.call f xs) nm st wt = heapOp rf (LX.av G st.sl) nm st (.call f xs) := (rfl : _ = _).trans rfl
@[simp] theorem core0_loadr {G : Nat → Option (List FV)} {rf : RF} {nm : Nat} {st : St} (p : LX) (wt : Wit (LOp.loadr p)) : core0 G rf (.loadr p) nm st wt = heapOp rf (LX.av G st.sl) nm st (.loadr p) := (rfl : _ = _).trans rfl
@[simp] theorem core0_bslr {G : Nat → Option (List FV)} {rf : RF} {nm : Nat} {st : St} (sz : Nat) (z : List Value) (len : Nat) (ps : List (Nat × LX)) (wt : Wit (LOp.bslr sz z len ps)) : core0 G rf (.bslr sz z len ps) nm st wt = heapOp rf (LX.av G st.sl) nm st (.bslr sz z len ps) := (rfl : _ = _).trans rfl
@[simp] theorem core0_mksr {G : Nat → Option (List FV)} {rf : RF} {nm : Nat} {st : St} (sz bytes : Nat) (z : List Value) (l c : LX) (wt : Wit (LOp.mksr sz bytes z l c)) : core0 G rf (.mksr sz bytes z l c) nm st wt = heapOp rf (LX.av G st.sl) nm st (.mksr sz bytes z l c) := (rfl : _ = _).trans rfl
@[simp] theorem core0_lcall {G : Nat → Option (List FV)} {rf : RF} {nm : Nat} {st : St} (f : LX) (xs : List LX) (wt : Wit (LOp.lcall f xs)) : core0 G rf (.lcall f xs) nm st wt = heapOp rf (LX.av G st.sl) nm st (.lcall f xs) := (rfl : _ = _).trans rfl
@[simp] theorem core0_mset {G : Nat → Option (List FV)} {rf : RF} {nm : Nat} {st : St} (k : Nat) (mm key x : LX) (wt : Wit (LOp.mset k mm key x)) : core0 G rf (.mset k mm key x) nm st wt = heapOp rf (LX.av G st.sl) nm st (.mset k mm key x) := (rfl : _ = _).trans rfl
@[simp] theorem core0_mget {G : Nat → Option (List FV)} {rf : RF} {nm : Nat} {st : St} (k : Nat) (z : List Value) (comma : Bool) (mm key : LX) (wt : Wit (LOp.mget k z comma mm key)) : core0 G rf (.mget k z comma mm key) nm st wt = heapOp rf (LX.av G st.sl) nm st (.mget k z comma mm key) := (rfl : _ = _).trans rfl
@[simp] theorem core0_mrng {G : Nat → Option (List FV)} {rf : RF} {nm : Nat} {st : St} (mm : LX) (wt : Wit (LOp.mrng mm)) : core0 G rf (.mrng mm) nm st wt = heapOp rf (LX.av G st.sl) nm st (.mrng mm) := (rfl : _ = _).trans rfl
@[simp] theorem core0_ment {G : Nat → Option (List FV)} {rf : RF} {nm : Nat} {st : St} (it : LX) (wt : Wit (LOp.ment it)) : core0 G rf (.ment it) nm st wt = heapOp rf (LX.av G st.sl) nm st (.ment it) := (rfl : _ = _).trans rfl
@[simp] theorem core0_mdel {G : Nat → Option (List FV)} {rf : RF} {nm : Nat} {st : St} (k : Nat) (mm key : LX) (wt : Wit (LOp.mdel k mm key)) : core0 G rf (.mdel k mm key) nm st wt = heapOp rf (LX.av G st.sl) nm st (.mdel k mm key) := (rfl : _ = _).trans rfl
@[simp] theorem core0_inv {G : Nat → Option (List FV)} {rf : RF} {nm : Nat} {st : St} (tb : List (TypeId × FuncId)) (x : LX) (xs : List LX) (wt : Wit (LOp.inv tb x xs)) : core0 G rf (.inv tb x xs) nm st wt = heapOp rf (LX.av G st.sl) nm st (.inv tb x xs) := (rfl : _ = _).trans rfl
@[simp] theorem core0_mki {G : Nat → Option (List FV)} {rf : RF} {nm : Nat} {st : St} (t : TypeId) (x : LX) (wt : Wit (LOp.mki t x)) : core0 G rf (.mki t x) nm st wt = (pureOp (LX.av G st.sl) (.mki t x)).map fun v => (v, [], 0) := (rfl : _ = _).trans rfl
@[simp] theorem core0_tas {G : Nat → Option (List FV)} {rf : RF} {nm : Nat} {st : St} (t : TypeId) (z : List Value) (x : LX) (wt : Wit (LOp.tas t z x)) : core0 G rf (.tas t z x) nm st wt = (pureOp (LX.av G st.sl) (.tas t z x)).map fun v => (v, [], 0) := (rfl : _ = _).trans rfl
@[simp] theorem core0_mkb {G : Nat → Option (List FV)} {rf : RF} {nm : Nat} {st : St} (f : FuncId) (fst : List LX) (wt : Wit (LOp.mkb f fst)) : core0 G rf (.mkb f fst) nm st wt = (pureOp (LX.av G st.sl) (.mkb f fst)).map fun v => (v, [], 0) := (rfl : _ = _).trans rfl
@[simp] theorem core0_mkm {G : Nat → Option (List FV)} {rf : RF} {nm : Nat} {st : St} (wt : Wit LOp.mkm) : core0 G rf .mkm nm st wt = heapOp rf (LX.av G st.sl) nm st .mkm := (rfl : _ = _).trans rfl
attribute [simp] pureOp.eq_1 pureOp.eq_2 pureOp.eq_3 pureOp.eq_4 pureOp.eq_5 pureOp.eq_6 pureOp.eq_7 pureOp.eq_8 pureOp.eq_9 pureOp.eq_10 pureOp.eq_11 pureOp.eq_12 pureOp.eq_13 pureOp.eq_14 pureOp.eq_15 pureOp.eq_16 pureOp.eq_17 pureOp.eq_18 pureOp.eq_19 pureOp.eq_20 pureOp.eq_21 pureOp.eq_22 pureOp.eq_23 pureOp.eq_24 pureOp.eq_25 pureOp.eq_26 pureOp.eq_27 pureOp.eq_28 pureOp.eq_29 pureOp.eq_30 pureOp.eq_31 pureOp.eq_32 pureOp.eq_33 pureOp.eq_34 pureOp.eq_35 heapOp.eq_1 heapOp.eq_2 heapOp.eq_3 heapOp.eq_4 heapOp.eq_5 heapOp.eq_6 heapOp.eq_7 heapOp.eq_8 heapOp.eq_9 heapOp.eq_10 heapOp.eq_11 heapOp.eq_12 heapOp.eq_13 heapOp.eq_14 heapOp.eq_15 heapOp.eq_16 heapOp.eq_17 heapOp.eq_18 heapOp.eq_19 heapOp.eq_20 heapOp.eq_21 heapOp.eq_22 heapOp.eq_23 heapOp.eq_24 heapOp.eq_25 heapOp.eq_26 touch.eq_1 touch.eq_2 touch.eq_3 touch.eq_4 touch.eq_5 touch.eq_6 touch.eq_7 touch.eq_8 touch.eq_9 touch.eq_10 touch.eq_11 touch.eq_12 touch.eq_13 touch.eq_14 touch.eq_15 touch.eq_16 touch.eq_17 touch.eq_18 touch.eq_19 touch.eq_20 touch.eq_21 touch.eq_22 touch.eq_23 touch.eq_24 touch.eq_25 LX.av.eq_1 LX.av.eq_2 LX.av.eq_3 LX.av.eq_4
attribute [simp] IntKind.bits
attribute [simp] loadC St.put disj footOf constAV cellAV cellFV lk hk putD slots0 coSts coSt coAV
attribute [simp] foldV0 foldV scV fin0 resL resOf tupOf froL froA froC fro1 AV.ren AV.renL AV.names AV.namesL Blk.names Blk.ren clos idx argNames upTo blks numd
attribute [simp] boxFV loI hiI
attribute [simp] isRow rowApp bslGoR plainV plainC plainA plainR lendC lendCs lendA lendAs okLoad ownless cellF cellsF rowF findM outM zeroM pthAV attI attC ownEC coHp AV.namesLL AV.renLL
attribute [simp] callV yldOp capE avEx exAV keyV keyA keyOk lkT itOk finishR capsP slotsP
attribute [simp] unS eqK eqCs isNil intOf' rdArr cellsOf leaf leafV toFV toFVs setAt buildC callOp backName backHp bslGo
end Go.Vai
