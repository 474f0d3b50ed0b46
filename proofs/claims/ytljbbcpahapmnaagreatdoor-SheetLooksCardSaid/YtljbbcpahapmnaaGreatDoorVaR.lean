/-
  A part of the abstract run of Go functions and of the proof that it tells the truth.
-/
import Derived.Test.YtljbbcpahapmnaaGreatDoorVaQ
set_option linter.unusedVariables false
set_option linter.unusedSimpArgs false
namespace Go.Vai
variable {P:Program}
theorem env_sound (v:Env) (hmix:P.follows .mixedOrders=true) (hT:TOk P v.T) (hE:RFSound P v.G v.E):RFSound P v.G v.run:=by
 refine ⟨fun f xs bl r bl' hf e => ?_,fun pf caps xs bl q bl' N ps as bd h1 h2 e => ?_⟩
 ·obtain ⟨n,hn⟩:=v.run_some.1 e
  exact (runN_sound hmix hT hE n).fn f xs bl r bl' hf hn
 ·obtain ⟨n,hn⟩:=v.run_some.1 e
  exact (runN_sound hmix hT hE n).yl pf caps xs bl q bl' N ps as bd h1 h2 hn
theorem fn_sound {G:Nat→Option (List FV)} {E:RF} (h:FSound P G E) (h4 : ∀ f xs bl,4096≤f→E f xs bl=none):RFSound P G E:=⟨h,fun pf caps xs bl q bl' N ps as bd _ h2 e => by rw [h4 _ _ _ h2] at e; cases e⟩
def heapOf (w:World):PH:=fun k => w.heap[k]?
theorem frz_none {σ:Nat→Option Loc} {w:World}:frz (hk []) σ (fun _ => False) w=heapOf w:=by
 funext k
 unfold frz
 rw [if_neg]
 ·rfl
 ·rintro (⟨b,blk,h,_⟩ | h)
  ·cases h
  ·exact h
theorem top_sound (v:Env) (hmix:P.follows .mixedOrders=true) (hT:TOk P v.T) (hE:RFSound P v.G v.E) {f:FuncId} (hf4:f < 4096) {xs:List AV} {r:Value} {bl:List (Option Blk)} (e:v.run f xs []=some (.fz (.sc r),bl)) {w:World} {vs:List Value} (hg:GR v.G (heapOf w)) (hl:xs.length=vs.length)
 (hx : ∀ (i:Nat) (x:AV) (u:Value),xs[i]? = some x→vs[i]? = some u→VR (fun _ => none) (heapOf w) x u) {K:Ending→World→Prop} (hK : ∀ w',Frame0 (fun _ => False) w w'→K (.returned r) w'):Does P f vs.toArray w K:=by
 have hempty : ∀ (σ:Nat→Option Loc) (w:World) b k,¬ Live (hk (numd 0 ([]:List (Option Blk)))) σ w b k:=by
  rintro σ w b k ⟨blk,h,_⟩
  cases h
 have hfrz : ∀ σ,frz (hk (numd 0 ([]:List (Option Blk)))) σ (fun _ => False) w=heapOf w:=fun σ => frz_none
 let C:Ctx:={ G:=v.G,rc:=rcOf P,X:=fun _ => False,own0:=fun k => ∃ b,Live (hk (numd 0 ([]:List (Option Blk)))) (fun _ => none) w b k,w0:=w,N:=0 }
 obtain ⟨_,S⟩:=(env_sound v hmix hT hE).fn f _ [] _ _ hf4 e
 refine S w vs C (fun _ => none) rfl rfl rfl (fun k h => h.elim) (fun _ _ => rfl) ⟨fun b blk h => (by cases h),fun b b' k h => absurd h (hempty _ _ _ _),fun b k h => absurd h (hempty _ _ _ _),Frame0.refl _ _,(by show GR v.G (frz _ _ (fun _ => False) w); rw [hfrz]; exact hg),fun k h => h.elim⟩ (by simpa using hl) (fun i x u e1 e2 => ?_) K fun u σ' w' h1 h2 _ _ => ?_
 ·show VR _ (frz _ _ (fun _ => False) w) _ _
  rw [hfrz]
  exact hx i x u e1 e2
 ·have hu:=h1.sc_inv
  subst hu
  refine hK w' ⟨h2.fr.size,fun k a b => h2.fr.keep k a fun ⟨b',hb'⟩ => hempty _ _ _ _ hb',h2.fr.os,h2.fr.tape,h2.fr.output⟩
theorem Does.calls {f : FuncId} {fn : Func} {c : Code} {args : Array Value} {w : World} {K : Ending → World → Prop} (h : Does P f args w K) (hf : P.funcs[f]? = some fn) (hn : (fn.name == "runtime.NumGoroutine") = false) (hb : fn.body = some c) : Calls P f args w K := by
 rcases h with ⟨_,h⟩ | ⟨v,w',h,_⟩
 ·exact h
 ·have hn' : ¬ fn.name = "runtime.NumGoroutine" := by simpa using hn
  simp [callFunc,hf,hn',hb,Sem.run_bind] at h
end Go.Vai
