/-
  What functions of layer 9 and of its reference compute: equations of the abstract run, and plain laws of them.
-/
import Derived.Test.YtljbbcpahapmnaaGreatDoorCL5
import Derived.Test.YtljbbcpahapmnaaGreatDoorCN1
set_option linter.unusedVariables false
set_option linter.unusedSimpArgs false
set_option linter.unnecessarySimpa false
set_option linter.unusedSectionVars false
namespace Go.Vai
variable {m:Int} {e3 e4:Value}
end Go.Vai
namespace Go.Vai
variable {m:Int} {e3 e4:Value}
end Go.Vai
namespace Go.Vai
variable {m:Int} {e3 e4:Value}
end Go.Vai
namespace Go.Vai
variable {m:Int} {e3 e4:Value}
theorem take_drop {sg:List (List UInt8)} {ts:List Tok} {a:Nat} {q:List UInt8 × List Tok} (h:takeS sg (ts.drop a)=some q):a < ts.length∧q.2=ts.drop (a + 1)∧∀ h:a < ts.length,ts[a]=.sign q.1:=by
 have hl3:=(takeS_len h).1
 simp only [List.length_drop] at hl3
 have hal:a < ts.length:=by omega
 have hc:=List.drop_eq_getElem_cons hal
 rw [hc] at h
 unfold takeS at h
 split at h
 ·rename_i s' r' he
  injection he with he1 he2
  split at h
  ·injection h with h
   subst h
   exact ⟨hal,he2.symm,fun _ => he1⟩
  ·cases h
 ·cases h
end Go.Vai
namespace Go.Vai
variable {m:Int} {e3 e4:Value}
end Go.Vai
namespace Go.Vai
variable {m:Int} {e3 e4:Value}
end Go.Vai
namespace Go.Vai
variable {m:Int} {e3 e4:Value}
end Go.Vai
namespace Go.Vai
variable {m:Int} {e3 e4:Value}
end Go.Vai
namespace Go.Vai
variable {m:Int} {e3 e4:Value}
end Go.Vai
namespace Go.Vai
variable {m:Int} {e3 e4:Value}
def wNd:Nd→Nat
 | .mk _ _ t _ _ _ _ l => 1 + t.length + wNds l
where wNds:List Nd→Nat
 | [] => 0
 | n :: r => wNd n + wNds r
def okNd:Nd→Prop
 | .mk _ n _ a b c d l => inI n∧inI a∧inI b∧inI c∧inI d∧okNds l
where okNds:List Nd→Prop
 | [] => True
 | n :: r => okNd n∧okNds r
end Go.Vai
namespace Go.Vai
variable {m:Int} {e3 e4:Value}
end Go.Vai
namespace Go.Vai
variable {m:Int} {e3 e4:Value}
end Go.Vai
namespace Go.Vai
def wTok:Tok→Nat
 | .sign t => 1 + t.length
 | .num _ => 1
 | .txt t => 1 + t.length
 | .plc _ _ => 1
 | .name t => 1 + t.length
def wToks:List Tok→Nat
 | [] => 0
 | t :: r => wTok t + wToks r
def okTok:Tok→Prop
 | .num n => inI n
 | .plc r c => inI r∧inI c
 | _ => True
theorem placeI_in (l:List UInt8):inI (placeI l).1.1∧inI (placeI l).1.2:=by
 have z:inI 0:=by unfold inI; omega
 match l with
 | [] => exact ⟨z,z⟩
 | [_] => exact ⟨z,z⟩
 | c :: d :: r =>
  simp only [placeI]
  split
  ·refine ⟨?_,?_⟩
   ·rcases parseG_cases (d :: r) with ⟨v,h,_,hv⟩ | ⟨h,_⟩
    ·rw [h]; exact hv
    ·rw [h]; exact z
   ·have:colG c≤26:=by unfold colG; split <;> omega
    show inI (colG c:Int)
    unfold inI; omega
  ·exact ⟨z,z⟩
theorem valG_le : ∀ (n:Nat) (l:List UInt8),l.length=n→valG l < 10 ^ n * 10 ^ 3
 | n, l, h => by
  have key : ∀ (l:List UInt8) (a k:Nat),a + 24≤10 ^ k * 1000→l.foldl (fun a b => 10 * a + (b.toNat - 48)) a + 24≤10 ^ (k + l.length) * 1000:=by
   intro l
   induction l with
   | nil => intro a k h; simpa using h
   | cons b r ih =>
    intro a k h
    have hb:=b.toNat_lt
    have:=ih (10 * a + (b.toNat - 48)) (k + 1) (by
     rw [Nat.pow_succ]
     omega)
    simp only [List.foldl_cons,List.length_cons]
    rw [show k + (r.length + 1)=k + 1 + r.length by omega]
    exact this
  have:=key l 0 0 (by omega)
  rw [Nat.zero_add,h] at this
  show l.foldl (fun a b => 10 * a + (b.toNat - 48)) 0 < _
  omega
theorem toUpperA_len (l:List UInt8):(Lib.toUpperA l).length=l.length:=by
 simp [Lib.toUpperA]
theorem nextG_ok {l:List UInt8} {t:Tok} {n:Nat} (h:nextG l=some (t,n)):okTok t∧wTok t≤2 * n:=by
 have hpos:=nextG_pos h
 cases l with
 | nil => cases h
 | cons c r =>
  simp only [nextG] at h
  split at h
  ·split at h
   ·cases h
   ·rename_i hd h9
    injection h with h; injection h with h1 h2; subst h1; subst h2
    refine ⟨?_,by simp [wTok]; omega⟩
    have hl:((c :: r).take (spanG isD (c :: r))).length≤9:=by rw [List.length_take]; omega
    have:=valG_le _ _ (rfl:((c :: r).take (spanG isD (c :: r))).length=_)
    generalize (c :: r).take (spanG isD (c :: r))=x at *
    have h3:10 ^ x.length≤10 ^ 9:=Nat.pow_le_pow_right (by omega) hl
    show inI (valG x:Int)
    unfold inI
    omega
  ·split at h
   ·rename_i hl
    unfold wordG at h
    split at h
    ·injection h with h; injection h with h1 h2; subst h1; subst h2
     refine ⟨trivial,?_⟩
     simp only [wTok,toUpperA_len]
     rw [List.length_take]; omega
    ·split at h
     ·cases h
     ·injection h with h; injection h with h1 h2; subst h1; subst h2
      refine ⟨placeI_in _,?_⟩
      simp only [wTok]; omega
   ·split at h
    ·obtain ⟨p,h1,h2⟩:=Option.map_eq_some_iff.1 h
     injection h2 with h2 h3
     unfold putG at h1
     obtain ⟨q,h4,rfl⟩:=Option.map_eq_some_iff.1 h1
     have:=quotG_len _ r (Nat.le_refl _) q h4
     subst h2
     refine ⟨trivial,?_⟩
     simp at h3 ⊢
     simp [wTok]; omega
    ·obtain ⟨s,h1,h2⟩:=Option.map_eq_some_iff.1 h
     injection h2 with h2 h3
     subst h2; subst h3
     exact ⟨trivial,by simp [wTok]; omega⟩
theorem toksG_ok : ∀ (n:Nat) (l:List UInt8),l.length≤n→∀ ts,toksG l=some ts→(∀ t∈ts,okTok t)∧wToks ts≤2 * l.length
 | 0,l,h,ts,e => by
  have:l=[]:=List.length_eq_zero_iff.1 (by omega)
  subst this
  simp [toksG,toksF,trimG] at e
  subst e; simp [wToks]
 | n + 1, l, h, ts, e => by
  rw [← toksG_trim] at e
  have ht:=trimG_len l
  have htt:=trimG_trim l
  generalize trimG l=u at *
  cases u with
  | nil =>
   simp [toksG,toksF,trimG] at e
   subst e; simp [wToks]
  | cons c r =>
   rw [toksG_cons htt] at e
   cases hn:nextG (c :: r) with
   | none => rw [hn] at e; cases e
   | some p =>
    obtain ⟨t,k⟩:=p
    rw [hn] at e
    simp only at e
    obtain ⟨ts',h1,rfl⟩:=Option.map_eq_some_iff.1 e
    have hp:=nextG_pos hn
    have ho:=nextG_ok hn
    have:=toksG_ok n ((c :: r).drop k) (by rw [List.length_drop]; simp at *; omega) ts' h1
    rw [List.length_drop] at this
    refine ⟨?_,?_⟩
    ·intro x hx
     rcases List.mem_cons.1 hx with rfl | hx
     ·exact ho.1
     ·exact this.1 x hx
    ·simp only [wToks]
     simp only [List.length_cons] at *
     omega
def okToks (ts:List Tok):Prop := ∀ t∈ts,okTok t
theorem okToks_tail {t:Tok} {r:List Tok} (h:okToks (t :: r)):okToks r:=fun x hx => h x (by simp [hx])
theorem takeS_w {sg:List (List UInt8)} {ts:List Tok} {s:List UInt8} {r:List Tok} (h:takeS sg ts=some (s,r)):(okToks ts→okToks r)∧wToks ts=1 + s.length + wToks r:=by
 unfold takeS at h
 split at h
 ·split at h
  ·injection h with h; injection h with h1 h2; subst h1; subst h2
   exact ⟨okToks_tail,by simp [wToks,wTok]⟩
  ·cases h
 ·cases h
def PartW (part:List Tok→Rd):Prop := ∀ ts n ts',part ts=some (n,ts')→okToks ts→okNd n∧okToks ts'∧wNd n + wToks ts'≤wToks ts
theorem z_in:inI 0:=by unfold inI; omega
theorem op2_ok {s:List UInt8} {a b:Nd} (ha:okNd a) (hb:okNd b):okNd (op2 s a b):=by
 unfold op2 okNd
 exact ⟨z_in,z_in,z_in,z_in,z_in,ha,hb,trivial⟩
theorem op2_w (s:List UInt8) (a b:Nd):wNd (op2 s a b)=1 + s.length + (wNd a + wNd b):=by
 simp [op2,wNd,wNd.wNds]
theorem pRow_w {part:List Tok→Rd} {sg:List (List UInt8)} (hp:PartW part) : ∀ (j:Nat) (n:Nd) (ts:List Tok) (n':Nd) (ts':List Tok),pRow part sg j n ts=some (n',ts')→okNd n→okToks ts→okNd n'∧okToks ts'∧wNd n' + wToks ts'≤wNd n + wToks ts
 | 0,n,ts,n',ts',h,a,b => by simp [pRow] at h; rw [← h.1,← h.2]; exact ⟨a,b,Nat.le_refl _⟩
 | j + 1, n, ts, n', ts', h, a, b => by
  rw [pRow] at h
  split at h
  ·simp at h; rw [← h.1,← h.2]; exact ⟨a,b,Nat.le_refl _⟩
  ·rename_i s r hs
   have h1:=takeS_w hs
   split at h
   ·cases h
   ·rename_i b' ts2 hb
    have h2:=hp _ _ _ hb (h1.1 b)
    have h3:=pRow_w hp j _ _ _ _ h (op2_ok a h2.1) h2.2.1
    rw [op2_w] at h3
    exact ⟨h3.1,h3.2.1,by omega⟩
theorem okNds_app : ∀ (l:List Nd) (n:Nd),okNd.okNds l→okNd n→okNd.okNds (l ++ [n])
 | [],n,_,h => ⟨h,trivial⟩
 | a :: r,n,h1,h => ⟨h1.1,okNds_app r n h1.2 h⟩
theorem wNds_app : ∀ (l:List Nd) (n:Nd),wNd.wNds (l ++ [n])=wNd.wNds l + wNd n
 | [],n => by simp [wNd.wNds]
 | a :: r,n => by simp [wNd.wNds,wNds_app r n]; omega
theorem pArg_w {part:List Tok→Rd} (hp:PartW part) : ∀ (j:Nat) (ns:List Nd) (ts:List Tok) (ns':List Nd) (ts':List Tok),pArg part j ns ts=some (ns',ts')→okNd.okNds ns→okToks ts→okNd.okNds ns'∧okToks ts'∧wNd.wNds ns' + wToks ts'≤wNd.wNds ns + wToks ts
 | 0,ns,ts,ns',ts',h,_,_ => by simp [pArg] at h
 | j + 1, ns, ts, ns', ts', h, a, b => by
  rw [pArg] at h
  split at h
  ·cases h
  ·rename_i x ts2 hx
   have h2:=hp _ _ _ hx b
   have h4:=okNds_app ns x a h2.1
   split at h
   ·rename_i s r hs
    have h1:=takeS_w hs
    have h3:=pArg_w hp j _ _ _ _ h h4 (h1.1 h2.2.1)
    rw [wNds_app] at h3
    exact ⟨h3.1,h3.2.1,by omega⟩
   ·simp at h
    rw [← h.1,← h.2]
    exact ⟨h4,h2.2.1,by rw [wNds_app]; omega⟩
theorem pr_w : ∀ (k : Nat) (K : PK) (d : Nat), PartW (pr k K d)
 | 0,_,_ => fun _ _ _ h => by simp [pr] at h
 | k + 1, .form, d => fun ts n ts' h b => by
  simp only [pr] at h
  split at h
  ·cases h
  ·rename_i n1 ts1 h1
   have h2:=pr_w k _ _ _ _ _ h1 b
   have h3:=pRow_w (pr_w k .join d) _ _ _ _ _ h h2.1 h2.2.1
   exact ⟨h3.1,h3.2.1,by omega⟩
 | k + 1, .join, d => fun ts n ts' h b => by
  simp only [pr] at h
  split at h
  ·cases h
  ·rename_i n1 ts1 h1
   have h2:=pr_w k _ _ _ _ _ h1 b
   have h3:=pRow_w (pr_w k .sum d) _ _ _ _ _ h h2.1 h2.2.1
   exact ⟨h3.1,h3.2.1,by omega⟩
 | k + 1, .sum, d => fun ts n ts' h b => by
  simp only [pr] at h
  split at h
  ·cases h
  ·rename_i n1 ts1 h1
   have h2:=pr_w k _ _ _ _ _ h1 b
   have h3:=pRow_w (pr_w k .prod d) _ _ _ _ _ h h2.1 h2.2.1
   exact ⟨h3.1,h3.2.1,by omega⟩
 | k + 1, .prod, d => fun ts n ts' h b => by
  simp only [pr] at h
  split at h
  ·cases h
  ·rename_i n1 ts1 h1
   have h2:=pr_w k _ _ _ _ _ h1 b
   have h3:=pRow_w (pr_w k .minus d) _ _ _ _ _ h h2.1 h2.2.1
   exact ⟨h3.1,h3.2.1,by omega⟩
 | k + 1, .minus, d => fun ts n ts' h b => by
  simp only [pr] at h
  split at h
  ·rename_i s r hs
   have h0:=takeS_w hs
   have h00:=(takeS_len hs).2
   split at h
   ·cases h
   ·obtain ⟨p,h1,h2⟩:=Option.map_eq_some_iff.1 h
    injection h2 with h2 h3
    have h4:=pr_w k .minus (d + 1) _ _ _ (show pr k .minus (d + 1) r=some (p.1,p.2) from h1) (h0.1 b)
    rw [← h2,← h3]
    refine ⟨⟨z_in,z_in,z_in,z_in,z_in,h4.1,trivial⟩,h4.2.1,?_⟩
    simp at h00
    subst h00
    simp [op1,wNd,wNd.wNds] at *
    omega
  ·exact pr_w k .single d _ _ _ h b
 | k + 1, .single, d => fun ts n ts' h b => by
  simp only [pr] at h
  split at h
  ·rename_i s r hs
   have h0:=takeS_w hs
   split at h
   ·cases h
   ·split at h
    ·cases h
    ·rename_i n1 ts1 h1
     have h2:=pr_w k _ _ _ _ _ h1 (h0.1 b)
     obtain ⟨p,h3,h4⟩:=Option.map_eq_some_iff.1 h
     have h5:=takeS_w (show takeS [[41]] ts1=some (p.1,p.2) from h3)
     injection h4 with h4 h6
     rw [← h4,← h6]
     exact ⟨h2.1,h5.1 h2.2.1,by omega⟩
  ·split at h
   ·cases h
   ·injection h with h; injection h with h h'; subst h; subst h'
    have:=b _ (List.mem_cons_self ..)
    exact ⟨⟨this,z_in,z_in,z_in,z_in,trivial⟩,okToks_tail b,by simp [numN,wNd,wNd.wNds,wToks,wTok]⟩
   ·injection h with h; injection h with h h'; subst h; subst h'
    exact ⟨⟨z_in,z_in,z_in,z_in,z_in,trivial⟩,okToks_tail b,by simp [txtN,wNd,wNd.wNds,wToks,wTok]⟩
   ·rename_i a1 a2 r
    have hp:=b _ (List.mem_cons_self ..)
    split at h
    ·injection h with h; injection h with h h'; subst h; subst h'
     exact ⟨⟨z_in,hp.1,hp.2,z_in,z_in,trivial⟩,okToks_tail b,by simp [celN,wNd,wNd.wNds,wToks,wTok]⟩
    ·rename_i q a3 a4 r3 hs
     have h0:=takeS_w hs
     have h1:=h0.1 (okToks_tail b)
     have hp2:=h1 _ (List.mem_cons_self ..)
     injection h with h; injection h with h h'; subst h; subst h'
     refine ⟨⟨z_in,hp.1,hp.2,hp2.1,hp2.2,trivial⟩,okToks_tail h1,?_⟩
     simp [rngN,wNd,wNd.wNds,wToks,wTok] at *
     omega
    ·cases h
   ·rename_i t r
    split at h
    ·cases h
    ·rename_i s r2 hs
     have h0:=takeS_w hs
     have hb2:=h0.1 (okToks_tail b)
     split at h
     ·cases h
     ·split at h
      ·rename_i q r3 hs2
       have h1:=takeS_w hs2
       injection h with h; injection h with h h'; subst h; subst h'
       refine ⟨⟨z_in,z_in,z_in,z_in,z_in,trivial⟩,h1.1 hb2,?_⟩
       simp [calN,wNd,wNd.wNds,wToks,wTok] at *
       omega
      ·split at h
       ·cases h
       ·rename_i ns ts1 ha
        have h2:=pArg_w (pr_w k .form (d + 1)) _ _ _ _ _ ha trivial hb2
        obtain ⟨p,h3,h4⟩:=Option.map_eq_some_iff.1 h
        have h5:=takeS_w (show takeS [[41]] ts1=some (p.1,p.2) from h3)
        injection h4 with h4 h6
        rw [← h4,← h6]
        refine ⟨⟨z_in,z_in,z_in,z_in,z_in,h2.1⟩,h5.1 h2.2.1,?_⟩
        have h7:=h2.2.2
        simp [calN,wNd,wNd.wNds,wToks,wTok] at *
        omega
   ·cases h
theorem parseM_ok (l:List UInt8) (n:Nd) (h:parseM l=some n):okNd n∧wNd n≤2 * l.length:=by
 unfold parseM at h
 cases ht:toksG l with
 | none => rw [ht] at h; cases h
 | some ts =>
  rw [ht] at h
  simp only at h
  have h1:=toksG_ok _ l (Nat.le_refl _) ts ht
  split at h
  ·rename_i n' hp
   injection h with h; subst h
   have:=pr_w _ _ _ _ _ _ hp h1.1
   exact ⟨this.1,by omega⟩
  ·cases h
end Go.Vai
