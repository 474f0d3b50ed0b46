/-
  A part of the abstract run of Go functions and of the proof that it tells the truth.
-/
import Derived.Test.YtljbbcpahapmnaaGreatDoorVaA
set_option linter.unusedVariables false
set_option linter.unusedSimpArgs false
namespace Go.Vai
variable {P:Program} {C:Ctx} {σ:Nat→Option Loc} {w:World}
theorem take_get {α:Type} {es:List α} {off len i:Nat} {c:α} (e:((es.drop off).take len)[i]? = some c):i < len∧es[off + i]? = some c:=by
 rw [List.getElem?_take] at e
 split at e
 ·rename_i h
  rw [List.getElem?_drop] at e
  exact ⟨h,e⟩
 ·cases e
def ElemsAt (w:World) (h:PH) (k o sz:Nat) (es:List (List FV)):Prop :=
 (∀ (i:Nat) (c:List FV),es[i]? = some c→c.length=sz)∧∀ (i:Nat) (c:List FV) (j:Nat) (x:FV),es[i]? = some c→c[j]? = some x→∃ v,w.cell? ⟨k,o + (i * sz + j),none⟩=some v∧FR h x v
theorem rdArr_sound {hp:HW} (R:HRel C σ (hk hp) w) {sz:Nat} {x:AV} {es:List (List FV)} (e:rdArr hp sz x=some es) {u:Value} (r:VR σ (frz (hk hp) σ C.X w) x u) :
 ∃ A cap,u=.slice A es.length cap∧es.length≤cap∧(es≠[]→∃ k o,A=some ⟨k,o,none⟩∧ElemsAt w (frz (hk hp) σ C.X w) k o sz es):=by
 unfold rdArr at e
 split at e
 ·rename_i es'
  split at e
  ·rename_i hs
   injection e with e; subst e
   obtain ⟨A,cap,e1,hc,_⟩:=r.slc_slice
   refine ⟨A,cap,e1,hc,fun hne => ?_⟩
   obtain ⟨sz',k,o,cap',vs,e2,hsz,hcap,hat,hr⟩:=r.slc_inv.sl_inv hne
   rw [e1] at e2
   injection e2 with e2 _ _
   have hsz':sz'=sz:=by
    have h0:es'[0]? = some (es'[0]'(List.length_pos_iff.2 hne)):=List.getElem?_eq_getElem (List.length_pos_iff.2 hne)
    exact (hsz _ _ h0).symm.trans (okSz_get hs h0)
   subst hsz'
   exact ⟨k,o,e2,hsz,fun i c j x e3 e4 => ⟨vs i j,cell_frz (hat _ _ _ _ e3 e4),hr _ _ _ _ e3 e4⟩⟩
  ·cases e
 ·injection e with e; subst e
  exact ⟨_,_,r.sc_inv,Nat.zero_le _,fun hne => absurd rfl hne⟩
 ·injection e with e; subst e
  obtain ⟨A,e1⟩:=r.emp_inv
  exact ⟨A,0,e1,Nat.le_refl _,fun hne => absurd rfl hne⟩
 ·rename_i b sz' off len
  split at e
  ·rename_i sz2 es2 hb
   split at e
   ·rename_i hs
    obtain ⟨rfl,rfl,hle⟩:=hs
    injection e with e; subst e
    have hlen:((es2.drop off).take len).length=len:=by simp; omega
    rw [hlen]
    have B:=R.bk b _ hb
    rcases r.osl_inv with ⟨hσ,h0,A,e1⟩ | ⟨k,d,n,a,cap,hσ,h1,h2,h3,e1⟩
    ·subst h0
     exact ⟨A,0,e1,Nat.le_refl _,fun hne => absurd (by simp) hne⟩
    ·refine ⟨some a,cap,e1,h1,fun hne => ?_⟩
     have hpos:0 < len:=by
      rcases Nat.eq_zero_or_pos len with h | h
      ·subst h; simp at hne
      ·exact h
     have ha:=h2.resolve_left (by omega)
     subst ha
     cases B with
     | vir _ hv => rw [hσ] at hv; cases hv
     | arr _ _ k' d' c ty z g1 g2 g3 g4 g5 =>
      rw [hσ] at g1
      injection g1 with g1
      injection g1 with g1 g1' g1''
      subst g1; subst g1'
      refine ⟨k,d + off * sz2,rfl,fun i cl ei => g4 _ _ (take_get ei).2,fun i cl j x e3 e4 => ?_⟩
      obtain ⟨_,e3⟩:=take_get e3
      obtain ⟨v,hv,hr⟩:=g5 _ _ _ _ e3 e4
      refine ⟨v,?_,hr⟩
      rw [cell_block g2,← hv]
      congr 1
      rw [Nat.add_mul]; omega
   ·cases e
  ·cases e
 ·cases e
theorem rdArr_osl {hp:HW} {sz b sz' off len:Nat} {es:List (List FV)} (e:rdArr hp sz (.osl b sz' off len)=some es) : ∃ es2,hk hp b=some (.arr sz es2)∧sz'=sz∧off + len≤es2.length∧es=(es2.drop off).take len∧es.length=len:=by
 unfold rdArr at e
 simp only at e
 split at e
 ·rename_i sz2 es2 hb
  split at e
  ·rename_i hs
   obtain ⟨rfl,rfl,hle⟩:=hs
   injection e with e; subst e
   exact ⟨es2,hb,rfl,hle,rfl,by simp; omega⟩
  ·cases e
 ·cases e
theorem hk_none_sub {hp:HW} (b:Nat) : ∀ b' blk,hk ((b,none) :: hp) b'=some blk→hk hp b'=some blk:=by
 intro b' blk e
 rw [hk_cons] at e
 by_cases hb:b'=b
 ·subst hb; rw [upd_same] at e; cases e
 ·rwa [upd_ne _ _ hb] at e
theorem toFV_sound {hp:HW} (R:HRel C σ (hk hp) w) {x:AV} {y:FV} {w1:HW} (e:toFV hp x=some (y,w1)) {u:Value} (r:VR σ (frz (hk hp) σ C.X w) x u) :
 (∀ b' blk,hk (w1 ++ hp) b'=some blk→hk hp b'=some blk)∧FR (frz (hk (w1 ++ hp)) σ C.X w) y u∧leafV u=leafV u:=by
 unfold toFV at e
 split at e
 ·injection e with e; injection e with e1 e2; subst e1; subst e2
  cases r with
  | fz _ _ r => exact ⟨fun _ _ h => h,r,rfl⟩
 ·injection e with e; injection e with e1 e2; subst e1; subst e2
  obtain ⟨A,rfl⟩:=r.emp_inv
  exact ⟨fun _ _ h => h,.sl0 _ _,rfl⟩
 ·injection e with e; injection e with e1 e2; subst e1; subst e2
  obtain ⟨vs,rfl,hl,_⟩:=r.fn_inv
  have:vs=[]:=List.eq_nil_of_length_eq_zero hl.symm
  subst this
  exact ⟨fun _ _ h => h,.sc _ rfl,rfl⟩
 ·rename_i b sz off len
  split at e
  ·rename_i es hes
   injection e with e; injection e with e1 e2; subst e1; subst e2
   refine ⟨hk_none_sub b,?_,rfl⟩
   have hsub:=hk_none_sub (hp:=hp) b
   have hl:=frz_shrink (σ:=σ) (w:=w) hsub C.X
   obtain ⟨es2,hb,_,hle,hes',hlen⟩:=rdArr_osl hes
   obtain ⟨A,cap,e1,hcap,hel⟩:=rdArr_sound R hes r
   subst e1
   by_cases hne:es=[]
   ·subst hne; exact .sl0 _ _
   ·obtain ⟨k,o,rfl,hE⟩:=hel hne
    have hk' : ∃ k' d n,σ b=some (.here k' d n sz)∧k'=k:=by
     rcases r.osl_inv with ⟨_,h0,_⟩ | ⟨k',d,n,a,cap',hσ,h1,h2,h3,e3⟩
     ·exfalso; apply hne; apply List.eq_nil_of_length_eq_zero; omega
     ·injection e3 with e3 _ _
      injection e3 with e3
      have ha:=h2.resolve_left (by
       have:es.length≠0:=fun h => hne (List.eq_nil_of_length_eq_zero h)
       omega)
      rw [ha] at e3
      injection e3 with e3
      exact ⟨k',d,n,hσ,e3.symm⟩
    obtain ⟨k',d,n,hσ,rfl⟩:=hk'
    have hlive:Live (hk hp) σ w b k':=⟨_,hb,.at _ _ _ _ _ hσ⟩
    have hown:=R.ow b k' hlive
    have hfz:frz (hk ((b,none) :: hp)) σ C.X w k'=w.heap[k']? := by
     have : ∃ ob,w.heap[k']? = some ob:=⟨_,Array.getElem?_eq_getElem hown.2.1⟩
     obtain ⟨ob,hob⟩:=this
     rw [hob,frz_some]
     refine ⟨⟨?_,hown.1⟩,hob⟩
     rintro ⟨b',hb'⟩
     obtain ⟨blk,g1,g2⟩:=hb'
     have hne':b'≠b:=fun e => by subst e; rw [hk_cons,upd_same] at g1; cases g1
     exact hne' (R.inj b' b k' ⟨blk,hsub _ _ g1,g2⟩ hlive)
    have hcell : ∀ i v,w.cell? ⟨k',i,none⟩=some v→cellAt (frz (hk ((b,none) :: hp)) σ C.X w) k' i=some v:=by
     intro i v e
     unfold cellAt
     rw [hfz]
     unfold World.cell? at e
     simp only at e
     cases hh:w.heap[k']? with
     | none => rw [hh] at e; cases e
     | some ob =>
      rw [hh] at e
      cases ob <;> first | (cases e; done) | (simpa using e)
    have hv : ∀ i j,∃ v,(∀ c x,es[i]? = some c→c[j]? = some x→w.cell? ⟨k',o + (i * sz + j),none⟩=some v∧FR (frz (hk hp) σ C.X w) x v):=by
     intro i j
     cases hi:es[i]? with
     | none => exact ⟨undef,fun c x e => by cases e⟩
     | some c =>
      cases hj:c[j]? with
      | none => exact ⟨undef,fun c' x e1 e2 => by injection e1 with e1; subst e1; rw [hj] at e2; cases e2⟩
      | some x =>
       obtain ⟨v,h1,h2⟩:=hE.2 i c j x hi hj
       exact ⟨v,fun c' x' e1 e2 => by injection e1 with e1; subst e1; rw [hj] at e2; injection e2 with e2; subst e2; exact ⟨h1,h2⟩⟩
    refine .sl es sz k' o none cap (fun i j => Classical.choose (hv i j)) hE.1 hcap (fun _ => rfl) (fun i c j x e1 e2 => ?_) (fun i c j x e1 e2 => ?_)
    ·exact hcell _ _ (Classical.choose_spec (hv i j) c x e1 e2).1
    ·exact (Classical.choose_spec (hv i j) c x e1 e2).2.mono hl
  ·cases e
 ·cases e
theorem toFVs_sound : ∀ {l:List AV} {hp:HW} (R:HRel C σ (hk hp) w) {ys:List FV} {w1:HW} (e:toFVs hp l=some (ys,w1)) {us:List Value} (hl:l.length=us.length) (r : ∀ (i:Nat) (x:AV) (u:Value),l[i]? = some x→us[i]? = some u→VR σ (frz (hk hp) σ C.X w) x u),
 (∀ b' blk,hk (w1 ++ hp) b'=some blk→hk hp b'=some blk)∧ys.length=l.length∧∀ (i:Nat) (y:FV) (u:Value),ys[i]? = some y→us[i]? = some u→FR (frz (hk (w1 ++ hp)) σ C.X w) y u
 | [],hp,R,ys,w1,e,us,hl,r => by
  simp only [toFVs] at e
  injection e with e; injection e with e1 e2; subst e1; subst e2
  exact ⟨fun _ _ h => h,rfl,fun i y u e => by simp at e⟩
 | x :: l, hp, R, ys, w1, e, us, hl, r => by
  simp only [toFVs] at e
  split at e
  ·rename_i y v1 h1
   split at e
   ·rename_i zs v2 h2
    injection e with e; injection e with e1 e2; subst e1; subst e2
    cases us with
    | nil => simp at hl
    | cons u us =>
     obtain ⟨s1,f1,_⟩:=toFV_sound R h1 (r 0 x u rfl rfl)
     have R1:=R.shrink s1
     have hl1:=frz_shrink (σ:=σ) (w:=w) s1 C.X
     obtain ⟨s2,l2,f2⟩:=toFVs_sound R1 h2 (us:=us) (by simpa using hl) (fun i z v e1 e2 => (r (i + 1) z v (by simpa using e1) (by simpa using e2)).mono (SLe.refl _) hl1)
     rw [List.append_assoc]
     have hl2:=frz_shrink (σ:=σ) (w:=w) s2 C.X
     refine ⟨fun b' blk h => s1 _ _ (s2 _ _ h),by simp [l2],fun i z v e1 e2 => ?_⟩
     cases i with
     | zero => simp at e1 e2; subst e1; subst e2; exact f1.mono hl2
     | succ i => simp at e1 e2; exact f2 i z v e1 e2
   ·cases e
  ·cases e
end Go.Vai
