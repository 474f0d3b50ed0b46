/-
  A part of the abstract run of Go functions and of the proof that it tells the truth.
-/
import Derived.Test.YtljbbcpahapmnaaGreatDoorVaJ
set_option linter.unusedVariables false
set_option linter.unusedSimpArgs false
namespace Go.Vai
variable {P:Program} {C:Ctx} {σ:Nat→Option Loc} {w:World} {a:Act}
theorem compOpers_get {ops:Array Oper} {N:Nat} : ∀ (os:List Oper) (ls:List LOper),compOpers P ops N os=some ls→ls.length=os.length∧∀ (i:Nat) (o:Oper),os[i]? = some o→∃ lo,ls[i]? = some lo∧compOper P ops N o=some lo
 | [],ls,h => by
  simp only [compOpers] at h
  injection h with h; subst h
  exact ⟨rfl,fun i o e => by simp at e⟩
 | o :: os, ls, h => by
  simp only [compOpers] at h
  split at h
  ·rename_i l ls' h1 h2
   injection h with h; subst h
   obtain ⟨g1,g2⟩:=compOpers_get os ls' h2
   refine ⟨by simp [g1],fun i o' e => ?_⟩
   cases i with
   | zero => simp at e; subst e; exact ⟨l,rfl,h1⟩
   | succ i => simpa using g2 i o' (by simpa using e)
  ·cases h
theorem varAt_length : ∀ (n:Nat) (l:List LOper),(varAt n l).length=l.length
 | _,[] => by cases ‹Nat› <;> rfl
 | 0,o :: r => rfl
 | n + 1,o :: r => by simp [varAt,varAt_length n r]
theorem varAt_get : ∀ (n:Nat) (l:List LOper) (i:Nat) (lo:LOper),l[i]? = some lo→∃ lo',(varAt n l)[i]? = some lo'∧VarOf lo lo'
 | _,[],i,lo,h => by simp at h
 | 0,o :: r,0,lo,h => by
  simp at h; subst h
  exact ⟨_,rfl,rfl,rfl,.inr rfl⟩
 | 0,o :: r,i + 1,lo,h => ⟨lo,h,rfl,rfl,.inl rfl⟩
 | n + 1,o :: r,0,lo,h => ⟨lo,h,rfl,rfl,.inl rfl⟩
 | n + 1,o :: r,i + 1,lo,h => by
  obtain ⟨lo',h1,h2⟩:=varAt_get n r i lo (by simpa using h)
  exact ⟨lo',by simpa [varAt] using h1,h2⟩
theorem VarOf.trans {a b c:LOper} (h:VarOf a b) (k:VarOf b c):VarOf a c:=by
 refine ⟨k.dst.trans h.dst,k.gd.trans h.gd,?_⟩
 rcases k.op with k1 | k1 <;> rcases h.op with h1 | h1
 ·exact .inl (k1.trans h1)
 ·exact .inr (k1.trans h1)
 ·exact .inr (by rw [k1,h1])
 ·exact .inr (by rw [k1,h1,varOp_idem])
theorem varOps_get : ∀ (cs:List Co) (l:List LOper),(varOps cs l).length=l.length∧∀ (i:Nat) (lo:LOper),l[i]? = some lo→∃ lo',(varOps cs l)[i]? = some lo'∧VarOf lo lo'
 | [],l => ⟨rfl,fun i lo h => ⟨lo,h,rfl,rfl,.inl rfl⟩⟩
 | c :: cs, l => by
  have one : ∀ n,(varOps cs (varAt n l)).length=l.length∧∀ (i:Nat) (lo:LOper),l[i]? = some lo→∃ lo',(varOps cs (varAt n l))[i]? = some lo'∧VarOf lo lo':=by
   intro n
   obtain ⟨g1,g2⟩:=varOps_get cs (varAt n l)
   refine ⟨by rw [g1,varAt_length],fun i lo h => ?_⟩
   obtain ⟨lo1,h1,h2⟩:=varAt_get n l i lo h
   obtain ⟨lo2,h3,h4⟩:=g2 i lo1 h1
   exact ⟨lo2,h3,h2.trans h4⟩
  cases c <;> simp only [varOps] <;> first | exact one _ | exact varOps_get cs l
def OpsOf (P:Program) (ops:Array Oper) (N:Nat) (L:List LOper):Prop:=L.length=ops.size∧∀ (i:Nat) (o:Oper),ops[i]? = some o→∃ lo0 lo,L[i]? = some lo∧compOper P ops N o=some lo0∧VarOf lo0 lo
theorem opsOf {ops:Array Oper} {N:Nat} {l:List LOper} (h:compOpers P ops N ops.toList=some l) (cs:List Co):OpsOf P ops N (varOps cs l):=by
 obtain ⟨h1,h2⟩:=compOpers_get _ _ h
 obtain ⟨g1,g2⟩:=varOps_get cs l
 refine ⟨by rw [g1,h1]; simp,fun i o ho => ?_⟩
 obtain ⟨lo,q1,q2⟩:=h2 i o (by simpa using ho)
 obtain ⟨lo',q3,q4⟩:=g2 i lo q1
 exact ⟨lo,lo',q3,q2,q4⟩
structure Fresh (σ:Nat→Option Loc) (nx:Nat):Prop where
 hi : ∀ b,nx≤b→σ b=none
theorem ops_sound {ro:Option Nat} {fu:Nat} {rf:RF} (RS:RFSound P C.G rf) (hrc:C.rc=rcOf P) {ops:Array Oper} {L:List LOper} (hL:OpsOf P ops C.N L) {Q:Exit→Act→World→Prop} {m:Nat} : ∀ (n k nm:Nat) (st st':St) (σ:Nat→Option Loc) (a:Act) (w:World),k + n=L.length→stepOps C.G rf (L.drop k) nm st=some st' →
 Rel C σ st a w→(∀ j,j < n→σ (nm + j)=none)→nm + n≤st.nx→m≤nm→Fresh σ st.nx →
 (∀ σ' a' w',Rel C σ' st' a' w'→(∀ b,b < m→σ' b=σ b)→Fresh σ' st'.nx→Q .normal a' w')→wpOpsIn (FW ro) fu P ops Q (List.range' k n) a w
 | 0,k,nm,st,st',σ,a,w,hk,e,R,h1,h2,h3,h4,hK => by
  have:L.drop k=[]:=List.drop_eq_nil_of_le (by omega)
  rw [this] at e
  simp only [stepOps] at e
  injection e with e; subst e
  exact hK σ a w R (fun _ _ => rfl) h4
 | n + 1, k, nm, st, st', σ, a, w, hk, e, R, h1, h2, h3, h4, hK => by
  have hkl:k < L.length:=by omega
  obtain ⟨hlen,hget⟩:=hL
  have hko:k < ops.size:=by omega
  have ho:ops[k]? = some ops[k]:=Array.getElem?_eq_getElem hko
  obtain ⟨lo0,lo,hlo,hc,hvo⟩:=hget k _ ho
  have hd:L.drop k=lo :: L.drop (k + 1):=by
   rw [List.drop_eq_getElem_cons hkl]
   congr 1
   rw [List.getElem?_eq_getElem hkl] at hlo
   injection hlo
  rw [hd] at e
  simp only [stepOps,stepOp] at e
  cases hco:coreOp C.G rf lo nm st with
  | none => rw [hco] at e; cases e
  | some p =>
   rw [hco] at e
   simp only at e
   rw [List.range'_succ,wpOpsIn_cons]
   refine step_sound RS hrc (nm:=nm) ho hc hvo R (by simpa using h1 0 (by omega)) (by omega) h4.hi hco fun σ' a' w' R' s1 s2 s3 => ?_
   refine ops_sound (m:=m) RS hrc ⟨hlen,hget⟩ n (k + 1) (nm + 1) _ st' σ' a' w' (by omega) e R' (fun j hj => ?_) ?_ (by omega) ⟨s3⟩ fun σ2 a2 w2 q1 q2 q3 => hK σ2 a2 w2 q1 (fun b hb => ?_) q3
   ·rw [s2 _ (by omega) (by omega)]
    have:=h1 (j + 1) (by omega)
    rw [← this]; congr 1; omega
   ·show nm + 1 + n≤st.nx + p.2.2; omega
   ·rw [q2 b hb,s2 b (by omega) (by omega)]
theorem region_sound {ro:Option Nat} {fu:Nat} {rf:RF} (RS:RFSound P C.G rf) (hrc:C.rc=rcOf P) {ops:Array Oper} {L:List LOper} (hL:OpsOf P ops C.N L) {Q:Exit→Act→World→Prop} {m:Nat} {st st':St} (e:runOps C.G rf L st=some st') (R:Rel C σ st a w) (hm:m≤st.nx) (hF:Fresh σ st.nx) {id:Nat}
 (hK : ∀ σ' a' w',Rel C σ' st' a' w'→(∀ b,b < m→σ' b=σ b)→Fresh σ' st'.nx→Q .normal a' w'):(Code.region id ops false).wpIn (FW ro) fu P Q a w:=by
 have hl:=hL.1
 refine wpIn_region ?_
 rw [List.range_eq_range']
 have hs:ops.size=L.length:=hl.symm
 rw [hs]
 have R2:Rel C σ { st with nx:=st.nx + L.length } a w:=⟨R.sl,R.bk,R.inj,R.ow,R.fr,R.gl,R.xl,R.df,R.tz⟩
 exact ops_sound RS hrc hL L.length 0 st.nx _ st' σ a w (by omega) (by simpa [runOps] using e) R2 (fun j _ => hF.hi _ (by omega)) (Nat.le_refl _) hm ⟨fun b hb => hF.hi b (by have:st.nx + L.length≤b:=hb; omega)⟩ hK
end Go.Vai
