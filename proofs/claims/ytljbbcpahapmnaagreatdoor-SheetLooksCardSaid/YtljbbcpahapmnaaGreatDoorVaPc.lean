/-
  A part of the abstract run of Go functions and of the proof that it tells the truth.
-/
import Derived.Test.YtljbbcpahapmnaaGreatDoorVaO
set_option linter.unusedVariables false
set_option linter.unusedSimpArgs false
namespace Go.Vai
variable {C:Ctx} {σ:Nat→Option Loc} {w:World} {hp:HW}
theorem set_cell {es:List (List AV)} {i f:Nat} {c:List AV} {y:AV} (hc:es[i]? = some c) {i' j:Nat} {cl:List AV} {x:AV} (h1:(es.set i (c.set f y))[i']? = some cl) (h2:cl[j]? = some x) :
 (i'=i∧j=f∧x=y)∨(¬ (i'=i∧j=f)∧∃ cl0,es[i']? = some cl0∧cl0[j]? = some x):=by
 have hil:=(List.getElem?_eq_some_iff.1 hc).1
 rw [List.getElem?_set] at h1
 by_cases hi:i=i'
 ·subst hi
  rw [if_pos rfl,if_pos hil] at h1
  injection h1 with h1; subst h1
  rw [List.getElem?_set] at h2
  by_cases hf:f=j
  ·subst hf
   rw [if_pos rfl] at h2
   split at h2
   ·injection h2 with h2; exact .inl ⟨rfl,rfl,h2.symm⟩
   ·cases h2
  ·rw [if_neg hf] at h2
   exact .inr ⟨fun h => hf h.2.symm,c,hc,h2⟩
 ·rw [if_neg hi] at h1
  exact .inr ⟨fun h => hi h.1.symm,cl,h1,h2⟩
theorem set_len {es:List (List AV)} {i f sz:Nat} {c:List AV} {y:AV} (hc:es[i]? = some c) (hl : ∀ (i:Nat) (cl:List AV),es[i]? = some cl→cl.length=sz) (i':Nat) (cl:List AV) (h1:(es.set i (c.set f y))[i']? = some cl):cl.length=sz:=by
 have hil:=(List.getElem?_eq_some_iff.1 hc).1
 rw [List.getElem?_set] at h1
 by_cases hi:i=i'
 ·subst hi
  rw [if_pos rfl,if_pos hil] at h1
  injection h1 with h1; subst h1
  rw [List.length_set]; exact hl _ c hc
 ·rw [if_neg hi] at h1; exact hl _ _ h1
theorem owns_row {b sz:Nat} {es es':List (List AV)} {k d:Nat} {c:Array Value} {e:TypeId} {z:Nat × Nat} (r:RowAt C σ hp w b sz es k d c e z) (P':Nat→Prop) (hs : ∀ i j q,SubAt c d sz es' i j q→Owns σ w b (.row sz es) q∨P' q) : ∀ q,Owns σ w b (.row sz es') q→Owns σ w b (.row sz es) q∨P' q:=by
 intro q h
 cases h with
 | «at» _ _ d1 n1 s1 g => exact .inl (.at _ _ d1 n1 s1 g)
 | sub _ _ k1 d1 n1 c1 e1 z1 i1 j1 _ g1 g2 g3 =>
  rw [r.at'] at g1
  injection g1 with g1; injection g1 with q1 q2 q3 q4; subst q1; subst q2
  rw [r.mem] at g2
  injection g2 with g2; injection g2 with q1 q2 q3; subst q1
  exact hs _ _ _ g3
theorem row_loc (R:HRel C σ (hk hp) w) {b sz:Nat} {es:List (List AV)} (hb:hk hp b=some (.row sz es)):(σ b=some .vir∧es=[])∨∃ k d c e z,RowAt C σ hp w b sz es k d c e z:=by
 cases R.bk b _ hb with
 | rvir _ h => exact .inl ⟨h,rfl⟩
 | row _ _ k1 d1 c e z g1 g2 g3 g4 g5 g6 g7 => exact .inr ⟨k1,d1,c,e,z,g1,g2,g3,g4,g5,g6,g7⟩
theorem HRel.attE (R:HRel C σ (hk hp) w) {b sz f sz' i:Nat} {es:List (List AV)} {c:List AV} (hb:hk hp b=some (.row sz es)) (hc:es[i]? = some c) (hx:c[f]? = some .emp) :
 HRel C σ (upd (hk hp) b (some (.row sz (es.set i (c.set f (.own sz' [])))))) w∧HLe (frz (hk hp) σ C.X w) (frz (upd (hk hp) b (some (.row sz (es.set i (c.set f (.own sz' [])))))) σ C.X w):=by
 rcases row_loc R hb with ⟨_,rfl⟩ | ⟨k,d,cc,e,z,r⟩
 ·simp at hc
 obtain ⟨v,hv,hr,hlf⟩:=r.cell i c f _ hc hx
 obtain ⟨A,rfl⟩:=(hr:VR σ _ .emp v).emp_inv
 have hsub : ∀ i' j' q,SubAt cc d sz (es.set i (c.set f (.own sz' []))) i' j' q→SubAt cc d sz es i' j' q:=by
  rintro i' j' q ⟨cl,s2,y2,o2,sp2,n2,cap2,e1,e2,e3,e4⟩
  rcases set_cell hc e1 e2 with ⟨rfl,rfl,h⟩ | ⟨h,cl0,h1,h2⟩
  ·rw [hv] at e3
   injection e3 with e3; injection e3 with _ _ e3
   omega
  ·exact ⟨cl0,s2,y2,o2,sp2,n2,cap2,h1,h2,e3,e4⟩
 refine R.same1 hb _ (fun q h => (owns_row r (fun _ => False) (fun i j q g => .inl (r.owns (hsub _ _ _ g))) q h).resolve_right id) fun hl => ?_
 refine .row sz _ k d cc e z r.at' r.mem r.nz (set_len hc r.len) (fun i' cl j x e1 e2 => ?_) (fun i1 j1 i2 j2 q g1 g2 => r.one _ _ _ _ _ (hsub _ _ _ g1) (hsub _ _ _ g2)) fun i1 j1 q g => r.ne _ _ _ (hsub _ _ _ g)
 rcases set_cell hc e1 e2 with ⟨rfl,rfl,rfl⟩ | ⟨h,cl0,h1,h2⟩
 ·exact ⟨_,hv,⟨A,0,rfl,Nat.le_refl _,fun i cl h => by simp at h,.inl rfl⟩,rfl⟩
 ·obtain ⟨v',q1,q2,q3⟩:=r.cell i' cl0 j x h1 h2
  exact ⟨v',q1,q2.mono (SLe.refl _) hl fun _ _ _ _ _ _ _ _ _ _ => rfl,q3⟩
theorem HRel.attO (R:HRel C σ (hk hp) w) {b nm sz f sz' o len i:Nat} {es:List (List AV)} {c:List AV} {ys:List (List FV)} (hb:hk hp b=some (.row sz es)) (hc:es[i]? = some c) (hx:c[f]? = some (.osl nm sz' o len)) (hne:nm≠b) (hys:rdArr hp sz' (.osl nm sz' o len)=some ys) :
 HRel C σ (upd (upd (hk hp) nm none) b (some (.row sz (es.set i (c.set f (.own sz' ys)))))) w∧HLe (frz (hk hp) σ C.X w) (frz (upd (upd (hk hp) nm none) b (some (.row sz (es.set i (c.set f (.own sz' ys)))))) σ C.X w):=by
 rcases row_loc R hb with ⟨_,rfl⟩ | ⟨k,d,cc,e,z,r⟩
 ·simp at hc
 obtain ⟨v,hv,hr,hlf⟩:=r.cell i c f _ hc hx
 have hr:VR σ (frz (hk hp) σ C.X w) (.osl nm sz' o len) v:=hr
 obtain ⟨es2,hnm,_,hle,hys',hlen⟩:=rdArr_osl hys
 obtain ⟨A,cap,rfl,hcap,hel⟩:=rdArr_sound R hys hr
 have hown : ∃ (K : Nat → Prop), (∀ q o sp, A = some ⟨q, o, sp⟩ → 0 < cap → K q) ∧ (∀ q, K q → Live (hk hp) σ w nm q) ∧ ∀ h, HLe (frz (hk hp) σ C.X w) h → OwnAt h w sz' ys (.slice A ys.length cap) := by
  rcases hr.osl_inv with ⟨hσ,h0,A',e1⟩ | ⟨k',d',n,a,cap',hσ,h1,h2,h3,e1⟩
  ·injection e1 with q1 q2 q3
   subst q3
   have:ys=[]:=List.eq_nil_of_length_eq_zero (by omega)
   subst this
   exact ⟨fun _ => False,fun q o sp _ h => by omega,fun q h => h.elim,fun h _ => ⟨A,0,rfl,Nat.le_refl _,fun i cl h => by simp at h,.inl rfl⟩⟩
  ·injection e1 with q1 q2 q3
   subst q1; subst q3
   cases R.bk nm _ hnm with
   | vir _ g1 => rw [hσ] at g1; cases g1
   | arr _ _ k1 d1 c1 t1 z1 g1 g2 g3 g4 g5 =>
    rw [hσ] at g1
    injection g1 with g1; injection g1 with p1 p2 p3 p4; subst p1; subst p2; subst p3
    refine ⟨fun q => q=k' ,fun q o sp hA hc0 => ?_,fun q h => by subst h; exact ⟨_,hnm,.at _ _ _ _ _ hσ⟩,fun h hl => ⟨some a,cap,rfl,hcap,fun i cl hcl => ?_,?_⟩⟩
    ·have:=h2.resolve_left (by omega)
     injection hA with hA
     rw [this] at hA
     injection hA with hA; exact hA.symm
    ·rw [hys'] at hcl
     exact g4 _ _ (take_get hcl).2
    ·by_cases hc0:cap=0
     ·exact .inl hc0
     ·have ha:=h2.resolve_left hc0
      subst ha
      refine .inr ⟨k',d' + o * sz',c1,t1,z1,rfl,g2,g3,h3,fun i cl j x e1 e2 => ?_⟩
      rw [hys'] at e1
      obtain ⟨v',q1,q2⟩:=g5 _ _ j x (take_get e1).2 e2
      refine ⟨v',?_,q2.mono hl⟩
      rw [← q1]; congr 1
      rw [Nat.add_mul]; omega
 obtain ⟨K,hK1,hK2,hK3⟩:=hown
 have hsub : ∀ i' j' q,SubAt cc d sz (es.set i (c.set f (.own sz' ys))) i' j' q→(i'=i∧j'=f∧K q)∨(¬ (i'=i∧j'=f)∧SubAt cc d sz es i' j' q):=by
  rintro i' j' q ⟨cl,s2,y2,o2,sp2,n2,cap2,e1,e2,e3,e4⟩
  rcases set_cell hc e1 e2 with ⟨rfl,rfl,h⟩ | ⟨h,cl0,h1,h2⟩
  ·rw [hv] at e3
   injection e3 with e3; injection e3 with a1 a2 a3
   subst a3
   exact .inl ⟨rfl,rfl,hK1 q _ _ a1 e4⟩
  ·exact .inr ⟨h,cl0,s2,y2,o2,sp2,n2,cap2,h1,h2,e3,e4⟩
 have hbl : ∀ i' j' q,SubAt cc d sz es i' j' q→Live (hk hp) σ w b q:=fun i' j' q h => ⟨_,hb,r.owns h⟩
 have hdis : ∀ q,K q→¬ Live (hk hp) σ w b q:=fun q h1 h2 => hne (R.inj _ _ _ (hK2 q h1) h2)
 refine R.join hb (Ne.symm hne) _ (owns_row r (fun q => Live (hk hp) σ w nm q) fun i' j' q g => ?_) fun hl => ?_
 ·rcases hsub _ _ _ g with ⟨_,_,h⟩ | ⟨_,h⟩
  ·exact .inr (hK2 q h)
  ·exact .inl (r.owns h)
 ·refine .row sz _ k d cc e z r.at' r.mem r.nz (set_len hc r.len) (fun i' cl j x e1 e2 => ?_) (fun i1 j1 i2 j2 q g1 g2 => ?_) fun i1 j1 q g => ?_
  ·rcases set_cell hc e1 e2 with ⟨rfl,rfl,rfl⟩ | ⟨h,cl0,h1,h2⟩
   ·exact ⟨_,hv,hK3 _ hl,rfl⟩
   ·obtain ⟨v',q1,q2,q3⟩:=r.cell i' cl0 j x h1 h2
    exact ⟨v',q1,q2.mono (SLe.refl _) hl fun _ _ _ _ _ _ _ _ _ _ => rfl,q3⟩
  ·rcases hsub _ _ _ g1 with ⟨a1,a2,a3⟩ | ⟨a1,a2⟩ <;> rcases hsub _ _ _ g2 with ⟨c1,c2,c3⟩ | ⟨c1,c2⟩
   ·exact ⟨a1.trans c1.symm,a2.trans c2.symm⟩
   ·exact absurd (hbl _ _ _ c2) (hdis _ a3)
   ·exact absurd (hbl _ _ _ a2) (hdis _ c3)
   ·exact r.one _ _ _ _ _ a2 c2
  ·rcases hsub _ _ _ g with ⟨_,_,h⟩ | ⟨_,h⟩
   ·rintro rfl
    exact hdis _ h ⟨_,hb,.at _ _ _ _ _ r.at'⟩
   ·exact r.ne _ _ _ h
theorem ownEC_get {f sz':Nat} {c:List AV} {j:Nat} {x:AV} (h:(ownEC f sz' c)[j]? = some x):c[j]? = some x∨(c[j]? = some .emp∧x=.own sz' []):=by
 unfold ownEC at h
 split at h
 ·rename_i he
  rw [List.getElem?_set] at h
  split at h
  ·rename_i hf
   subst hf
   split at h
   ·injection h with h; exact .inr ⟨he,h.symm⟩
   ·cases h
  ·exact .inl h
 ·exact .inl h
theorem ownEC_len (f sz':Nat) (c:List AV):(ownEC f sz' c).length=c.length:=by
 unfold ownEC
 split
 ·rw [List.length_set]
 ·rfl
theorem HRel.ownE (R:HRel C σ (hk hp) w) {b sz f sz':Nat} {es:List (List AV)} (hb:hk hp b=some (.row sz es)) :
 HRel C σ (upd (hk hp) b (some (.row sz (es.map (ownEC f sz'))))) w∧HLe (frz (hk hp) σ C.X w) (frz (upd (hk hp) b (some (.row sz (es.map (ownEC f sz'))))) σ C.X w):=by
 rcases row_loc R hb with ⟨hσ,rfl⟩ | ⟨k,d,cc,e,z,r⟩
 ·exact R.same1 hb _ (fun q h => h) fun _ => .rvir sz hσ
 have hget : ∀ (i:Nat) (cl:List AV),(es.map (ownEC f sz'))[i]? = some cl→∃ c,es[i]? = some c∧cl=ownEC f sz' c:=by
  intro i cl h
  rw [List.getElem?_map] at h
  obtain ⟨c,h1,h2⟩:=Option.map_eq_some_iff.1 h
  exact ⟨c,h1,h2.symm⟩
 have hsub : ∀ i' j' q,SubAt cc d sz (es.map (ownEC f sz')) i' j' q→SubAt cc d sz es i' j' q:=by
  rintro i' j' q ⟨cl,s2,y2,o2,sp2,n2,cap2,e1,e2,e3,e4⟩
  obtain ⟨c,h1,rfl⟩:=hget _ _ e1
  rcases ownEC_get e2 with h | ⟨h,_⟩
  ·exact ⟨c,s2,y2,o2,sp2,n2,cap2,h1,h,e3,e4⟩
  ·obtain ⟨v,hv,hr,_⟩:=r.cell i' c j' _ h1 h
   obtain ⟨A,rfl⟩:=(hr:VR σ _ .emp v).emp_inv
   rw [hv] at e3
   injection e3 with e3; injection e3 with _ _ e3
   omega
 refine R.same1 hb _ (fun q h => (owns_row r (fun _ => False) (fun i j q g => .inl (r.owns (hsub _ _ _ g))) q h).resolve_right id) fun hl => ?_
 refine .row sz _ k d cc e z r.at' r.mem r.nz (fun i cl h => ?_) (fun i' cl j x e1 e2 => ?_) (fun i1 j1 i2 j2 q g1 g2 => r.one _ _ _ _ _ (hsub _ _ _ g1) (hsub _ _ _ g2)) fun i1 j1 q g => r.ne _ _ _ (hsub _ _ _ g)
 ·obtain ⟨c,h1,rfl⟩:=hget _ _ h
  rw [ownEC_len]; exact r.len _ _ h1
 ·obtain ⟨c,h1,rfl⟩:=hget _ _ e1
  rcases ownEC_get e2 with h | ⟨h,rfl⟩
  ·obtain ⟨v',q1,q2,q3⟩:=r.cell i' c j x h1 h
   exact ⟨v',q1,q2.mono (SLe.refl _) hl fun _ _ _ _ _ _ _ _ _ _ => rfl,q3⟩
  ·obtain ⟨v,hv,hr,hlf⟩:=r.cell i' c j _ h1 h
   obtain ⟨A,rfl⟩:=(hr:VR σ _ .emp v).emp_inv
   exact ⟨_,hv,⟨A,0,rfl,Nat.le_refl _,fun i cl h => by simp at h,.inl rfl⟩,rfl⟩
theorem HRel.rz (R:HRel C σ (hk hp) w) {b sz:Nat} {es:List (List FV)} (hb:hk hp b=some (.arr sz es)) :
 HRel C σ (upd (hk hp) b (some (.row sz (es.map fun c => c.map .fz)))) w∧HLe (frz (hk hp) σ C.X w) (frz (upd (hk hp) b (some (.row sz (es.map fun c => c.map .fz)))) σ C.X w):=by
 have hget : ∀ (i:Nat) (cl:List AV),(es.map fun c => c.map AV.fz)[i]? = some cl→∃ c,es[i]? = some c∧cl=c.map .fz:=by
  intro i cl h
  rw [List.getElem?_map] at h
  obtain ⟨c,h1,h2⟩:=Option.map_eq_some_iff.1 h
  exact ⟨c,h1,h2.symm⟩
 have hno : ∀ c d i j q,¬ SubAt c d sz (es.map fun c => c.map AV.fz) i j q:=by
  intro c d i j q h
  obtain ⟨cl,s,y,h1,h2⟩:=h.get
  obtain ⟨c0,_,rfl⟩:=hget _ _ h1
  rw [List.getElem?_map] at h2
  obtain ⟨x,_,h3⟩:=Option.map_eq_some_iff.1 h2
  cases h3
 refine R.same1 hb _ (fun q h => ?_) fun hl => ?_
 ·cases h with
  | «at» _ _ d1 n1 s1 g => exact .at _ _ d1 n1 s1 g
  | sub _ _ k1 d1 n1 c1 e1 z1 i1 j1 _ g1 g2 g3 => exact absurd g3 (hno _ _ _ _ _)
 ·cases R.bk b _ hb with
  | vir _ g1 => exact .rvir sz g1
  | arr _ _ k d c e z g1 g2 g3 g4 g5 =>
   refine .row sz _ k d c e z g1 g2 g3 (fun i cl h => ?_) (fun i cl j x e1 e2 => ?_) (fun i1 j1 i2 j2 q h => absurd h (hno _ _ _ _ _)) fun i1 j1 q h => absurd h (hno _ _ _ _ _)
   ·obtain ⟨c0,h1,rfl⟩:=hget _ _ h
    rw [List.length_map]; exact g4 _ _ h1
   ·obtain ⟨c0,h1,rfl⟩:=hget _ _ e1
    rw [List.getElem?_map] at e2
    obtain ⟨y,h2,rfl⟩:=Option.map_eq_some_iff.1 e2
    obtain ⟨v,q1,q2⟩:=g5 _ _ _ _ h1 h2
    exact ⟨v,q1,VR.fz _ _ (q2.mono hl),q2.leaf⟩
theorem HRel.arz (R:HRel C σ (hk hp) w) {b sz:Nat} {es:List (List AV)} {l:List (List FV)} (hb:hk hp b=some (.row sz es)) (hlf:rowF es=some l) :
 HRel C σ (upd (hk hp) b (some (.arr sz l))) w∧HLe (frz (hk hp) σ C.X w) (frz (upd (hk hp) b (some (.arr sz l))) σ C.X w):=by
 obtain ⟨l1,l2⟩:=rowF_get hlf
 have hno:NoOwn (.arr sz l):=⟨(by intro _ _ h; cases h),(by intro _ _ _ h; cases h)⟩
 refine R.same1 hb _ (fun q h => ?_) fun hl => ?_
 ·cases h with
  | «at» _ _ d1 n1 s1 g => exact .at _ _ d1 n1 s1 g
 ·rcases row_loc R hb with ⟨hσ,rfl⟩ | ⟨k,d,cc,e,z,r⟩
  ·have:l=[]:=List.eq_nil_of_length_eq_zero (by simpa using l1)
   subst this
   exact .vir sz hσ
  ·-- what a cell owned is data from now on
   have hfree : ∀ i j q,SubAt cc d sz es i j q→¬ (∃ b',Live (upd (hk hp) b (some (.arr sz l))) σ w b' q)∧¬ C.X q:=by
    intro i j q h
    have hL:Live (hk hp) σ w b q:=⟨_,hb,r.owns h⟩
    refine ⟨?_,(R.ow _ _ hL).1⟩
    rintro ⟨b',blk,h1,h2⟩
    by_cases eb:b'=b
    ·subst eb
     rw [upd_same] at h1
     injection h1 with h1; subst h1
     exact r.ne _ _ _ h (h2.plain hno r.at')
    ·rw [upd_ne _ _ eb] at h1
     exact eb (R.inj _ _ _ ⟨blk,h1,h2⟩ hL)
   refine .arr sz l k d cc e z r.at' r.mem r.nz (fun i cl h => ?_) fun i cl j x e1 e2 => ?_
   ·obtain ⟨c0,q1,q2⟩:=l2 i cl h
    rw [(cellsF_get q2).1]; exact r.len i c0 q1
   ·obtain ⟨c0,q1,q2⟩:=l2 i cl e1
    obtain ⟨y,q3,q4⟩:=(cellsF_get q2).2 j x e2
    obtain ⟨v,p1,p2,_⟩:=r.cell i c0 j y q1 q3
    refine ⟨v,p1,?_⟩
    cases y <;> simp only [cellF] at q4 <;> try (cases q4; done)
    ·injection q4 with q4; subst q4
     cases (p2:VR σ _ _ v) with
     | fz _ _ r => exact r.mono hl
    ·injection q4 with q4; subst q4
     obtain ⟨A,rfl⟩:=(p2:VR σ _ .emp v).emp_inv
     exact .sl0 _ _
    ·rename_i s ys
     injection q4 with q4; subst q4
     obtain ⟨A,cap,rfl,h1,h2,h3⟩:=(p2:OwnAt _ w s ys v)
     by_cases hc:cap=0
     ·have:ys=[]:=List.eq_nil_of_length_eq_zero (by omega)
      subst this
      exact .sl0 _ _
     ·obtain ⟨k',o,c',e',z',rfl,m1,m2,m3,m4⟩:=h3.resolve_left hc
      obtain ⟨f1,f2⟩:=hfree i j k' ⟨c0,s,ys,o,none,_,cap,q1,q3,p1,by omega⟩
      have hfz:frz (upd (hk hp) b (some (.arr sz l))) σ C.X w k'=some (.cells c' e' z'):=frz_some.2 ⟨⟨f1,f2⟩,m1⟩
      have hca : ∀ i,cellAt (frz (upd (hk hp) b (some (.arr sz l))) σ C.X w) k' i=c'[i]? := fun i => by
       unfold cellAt
       rw [hfz]
      refine .sl ys s k' o none cap (fun i j => c'.getD (o + (i * s + j)) undef) h2 h1 (fun _ => rfl) (fun i cl j x e1 e2 => ?_) fun i cl j x e1 e2 => ?_
      ·obtain ⟨v,q1,q2⟩:=m4 i cl j x e1 e2
       rw [hca,getD_of q1]; exact q1
      ·obtain ⟨v,q1,q2⟩:=m4 i cl j x e1 e2
       rw [getD_of q1]; exact q2.mono hl
theorem coHp_sound {st : St} (R : HRel C σ (hk st.hp) w) (c : Co) : HRel C σ (hk (coHp st c ++ st.hp)) w ∧ HLe (frz (hk st.hp) σ C.X w) (frz (hk (coHp st c ++ st.hp)) σ C.X w) := by
 have same:HRel C σ (hk ([] ++ st.hp)) w∧HLe (frz (hk st.hp) σ C.X w) (frz (hk ([] ++ st.hp)) σ C.X w):=⟨R,HLe.refl _⟩
 cases c with
 | att p f sz ti =>
  simp only [coHp]
  split
  ·rename_i b _ off _ hpth
   split
   ·rename_i szr es hb
    split
    ·rename_i i hi
     split
     ·rename_i c hc
      split
      ·rename_i x hx
       split
       ·rename_i y ws hy
        unfold attC at hy
        split at hy
        ·injection hy with hy; injection hy with h1 h2; subst h1; subst h2
         simp only [List.cons_append,List.nil_append,hk_cons]
         exact R.attE hb hc hx
        ·rename_i nm sz' o len
         split at hy
         ·rename_i hcond
          obtain ⟨rfl,hne⟩:=hcond
          split at hy
          ·rename_i ys hys
           injection hy with hy; injection hy with h1 h2; subst h1; subst h2
           simp only [List.cons_append,List.nil_append,hk_cons]
           exact R.attO hb hc hx hne hys
          ·cases hy
         ·cases hy
        ·cases hy
       ·exact same
      ·exact same
     ·exact same
    ·exact same
   ·exact same
  ·exact same
 | ownE p f sz =>
  simp only [coHp]
  split
  ·split
   ·rename_i hb
    simp only [List.cons_append,List.nil_append,hk_cons]
    exact R.ownE hb
   ·exact same
  ·exact same
 | arz p =>
  simp only [coHp]
  split
  ·split
   ·rename_i hb
    split
    ·rename_i l hl
     simp only [List.cons_append,List.nil_append,hk_cons]
     exact R.arz hb hl
    ·exact same
   ·exact same
  ·exact same
 | rz p =>
  simp only [coHp]
  split
  ·split
   ·rename_i hb
    simp only [List.cons_append,List.nil_append,hk_cons]
    exact R.rz hb
   ·exact same
  ·exact same
 | _ => exact same
end Go.Vai
namespace Go.Vai
variable {P:Program} {C:Ctx} {σ:Nat→Option Loc} {w:World} {hp:HW} {a:Act} {N:Nat} {pr:List (Nat × List Co)} {q:Pos}
theorem withCo_ne {cs:List Co} {c:LCode} {l:LCode} (h:withCo cs c=l):(cs=[]∧c=l)∨∃ x xs,l=.pre (x :: xs) c∧cs=x :: xs:=by
 cases cs with
 | nil => exact .inl ⟨rfl,h⟩
 | cons x xs => exact .inr ⟨x,xs,h.symm,rfl⟩
theorem fuse_seq (x y:LCode) (lv:Hints) : ∃ A B,(fuse x y lv).1=.seq A B:=by
 unfold fuse
 split
 ·split
  ·split <;> exact ⟨_,_,rfl⟩
  ·exact ⟨_,_,rfl⟩
 ·exact ⟨_,_,rfl⟩
inductive Form (P:Program) (N:Nat) (pr:List (Nat × List Co)) (q:Pos):Code→Hints→LCode→Hints→Prop
 | skip (lv):Form P N pr q .skip lv .skip lv
 | ops (id ops l lv):compOpers P ops N ops.toList=some l→Form P N pr q (.region id ops false) lv (withCo (lkp pr id) (.ops (varOps (lkp pr id) l))) lv
 | draw (id ops l prs lv):Form P N pr q (.region id ops true) lv (withCo (lkp pr id) (.draw l prs)) lv
 | seq (a b lv x lv1 y lv2):compC P N pr (q.go 0) a lv=some (x,lv1)→compC P N pr (q.go 1) b lv1=some (y,lv2)→Form P N pr q (.seq a b) lv (fuse x y lv2).1 (fuse x y lv2).2
 | cond (c a b lv x lv1 y lv2):compC P N pr (q.go 0) a lv=some (x,lv1)→compC P N pr (q.go 1) b lv1=some (y,lv2)→Form P N pr q (.cond c a b) lv (.cond (compX c) x y) lv2
 | block (id b lv x lv1):compC P N pr (q.go 0) b lv=some (x,lv1)→Form P N pr q (.block id b) lv (.block id x) lv1
 | loop (b cs l lv x lv1):compC P N pr (q.go 0) b lv=some (x,lv1)→Form P N pr q (.loop b) ((cs,l) :: lv) (withCo cs (.loop l x)) lv1
 | exit (id lv):Form P N pr q (.exit id) lv (.exit id) lv
 | ret (lv):Form P N pr q .ret lv .ret lv
 | rfn (g ps as bd cs l lv pf its):Form P N pr q (.rangeFunc g ps as bd) ((cs,l) :: lv) (withCo cs (.rfn (compX g) pf l its)) lv
 | bad (c lv lv1):Form P N pr q c lv .bad lv1
theorem form {c:Code} {lv lv':Hints} {L:LCode} (h:compC P N pr q c lv=some (L,lv')):Form P N pr q c lv L lv':=by
 cases c with
 | skip => simp only [compC] at h; injection h with h; injection h with h1 h2; subst h1; subst h2; exact .skip _
 | region id ops draw =>
  cases draw with
  | false =>
   simp only [compC] at h
   split at h
   ·rename_i l hl
    injection h with h; injection h with h1 h2; subst h1; subst h2
    exact .ops _ _ _ _ hl
   ·cases h
  | true =>
   simp only [compC] at h
   split at h
   ·split at h
    ·injection h with h; injection h with h1 h2; subst h1; subst h2
     exact .draw _ _ _ _ _
    ·cases h
   ·cases h
 | seq a b =>
  simp only [compC] at h
  split at h
  ·rename_i x lv1 h1
   split at h
   ·rename_i y lv2 h2
    injection h with h
    rw [show L=(fuse x y lv2).1 by rw [h],show lv'=(fuse x y lv2).2 by rw [h]]
    exact .seq _ _ _ _ _ _ _ h1 h2
   ·cases h
  ·cases h
 | cond c a b =>
  simp only [compC] at h
  split at h
  ·rename_i x lv1 h1
   split at h
   ·rename_i y lv2 h2
    injection h with h; injection h with h3 h4; subst h3; subst h4
    exact .cond _ _ _ _ _ _ _ _ h1 h2
   ·cases h
  ·cases h
 | block id b =>
  simp only [compC] at h
  split at h
  ·rename_i x lv1 h1
   injection h with h; injection h with h3 h4; subst h3; subst h4
   exact .block _ _ _ _ _ h1
  ·cases h
 | loop b =>
  cases lv with
  | nil => simp [compC] at h; obtain ⟨rfl,rfl⟩:=h; exact .bad _ _ _
  | cons q lv =>
   obtain ⟨cs,l⟩:=q
   simp only [compC] at h
   split at h
   ·rename_i x lv1 h1
    injection h with h; injection h with h3 h4; subst h3; subst h4
    exact .loop _ _ _ _ _ _ h1
   ·cases h
 | rangeFunc g ps as bd =>
  cases q with
  | none => simp [compC] at h; obtain ⟨rfl,rfl⟩:=h; exact .bad _ _ _
  | some q =>
   cases lv with
   | nil => simp [compC] at h; obtain ⟨rfl,rfl⟩:=h; exact .bad _ _ _
   | cons z lv =>
    obtain ⟨cs,l⟩:=z
    simp only [compC] at h
    split at h
    ·injection h with h; injection h with h1 h2; subst h1; subst h2; exact .rfn _ _ _ _ _ _ _ _ _
    ·injection h with h; injection h with h1 h2; subst h1; subst h2; exact .bad _ _ _
 | exit id => simp only [compC] at h; injection h with h; injection h with h1 h2; subst h1; subst h2; exact .exit _ _
 | ret => simp only [compC] at h; injection h with h; injection h with h1 h2; subst h1; subst h2; exact .ret _
 | _ => simp [compC] at h; obtain ⟨rfl,rfl⟩:=h; exact .bad _ _ _
theorem form_block {c:Code} {lv lv':Hints} {id:Nat} {l:LCode} (h:Form P N pr q c lv (.block id l) lv') : ∃ b,c=.block id b∧compC P N pr (q.go 0) b lv=some (l,lv'):=by
 generalize hL:LCode.block id l=L at h
 cases h with
 | block id b lv x lv1 h => injection hL with h1 h2; subst h1; subst h2; exact ⟨b,rfl,h⟩
 | ops => rcases withCo_ne hL.symm with ⟨_,h⟩ | ⟨x,xs,h,_⟩ <;> cases h
 | draw => rcases withCo_ne hL.symm with ⟨_,h⟩ | ⟨x,xs,h,_⟩ <;> cases h
 | loop => rcases withCo_ne hL.symm with ⟨_,h⟩ | ⟨x,xs,h,_⟩ <;> cases h
 | rfn => rcases withCo_ne hL.symm with ⟨_,h⟩ | ⟨x,xs,h,_⟩ <;> cases h
 | seq a b lv x lv1 y lv2 =>
  obtain ⟨A,B,h⟩:=fuse_seq x y lv2
  rw [h] at hL; cases hL
 | _ => cases hL
theorem form_loop {c:Code} {lv lv':Hints} {live:List Nat} {l:LCode} {L:LCode} {cs:List Co} (hL:L=withCo cs (.loop live l)) (h:Form P N pr q c lv L lv') : ∃ b lv1,c=.loop b∧lv=(cs,live) :: lv1∧compC P N pr (q.go 0) b lv1=some (l,lv'):=by
 have key : ∀ {cs0:List Co} {c0:LCode},withCo cs0 c0=withCo cs (.loop live l)→(∀ x y,c0≠.pre x y)→cs0=cs∧c0=.loop live l:=by
  intro cs0 c0 h hn
  cases cs0 <;> cases cs
  ·exact ⟨rfl,h⟩
  ·exact absurd h (hn _ _)
  ·cases h
  ·simp only [withCo] at h
   injection h with h1 h2
   exact ⟨h1,h2⟩
 cases h with
 | loop b cs' l' lv x lv1 h =>
  obtain ⟨rfl,h2⟩:=key hL (fun _ _ e => by cases e)
  injection h2 with h2 h3; subst h2; subst h3
  exact ⟨b,_,rfl,rfl,h⟩
 | ops => obtain ⟨_,h⟩:=key hL (fun _ _ e => by cases e); cases h
 | draw => obtain ⟨_,h⟩:=key hL (fun _ _ e => by cases e); cases h
 | rfn => obtain ⟨_,h⟩:=key hL (fun _ _ e => by cases e); cases h
 | seq a b lv x lv1 y lv2 =>
  obtain ⟨A,B,h⟩:=fuse_seq x y lv2
  rw [h] at hL
  cases cs <;> cases hL
 | _ => cases cs <;> cases hL
theorem form_ops {c:Code} {lv lv':Hints} {l:List LOper} (h:Form P N pr q c lv (.ops l) lv') : ∃ id ops l0,c=.region id ops false∧compOpers P ops N ops.toList=some l0∧l=l0∧lv'=lv:=by
 generalize hL:LCode.ops l=L at h
 cases h with
 | ops id ops l0 lv h =>
  rcases withCo_ne hL.symm with ⟨h1,h2⟩ | ⟨x,xs,h,_⟩
  ·injection h2 with h2
   rw [h1] at h2
   exact ⟨id,ops,l0,rfl,h,h2.symm,rfl⟩
  ·cases h
 | draw => rcases withCo_ne hL.symm with ⟨_,h⟩ | ⟨x,xs,h,_⟩ <;> cases h
 | loop => rcases withCo_ne hL.symm with ⟨_,h⟩ | ⟨x,xs,h,_⟩ <;> cases h
 | rfn => rcases withCo_ne hL.symm with ⟨_,h⟩ | ⟨x,xs,h,_⟩ <;> cases h
 | seq a b lv x lv1 y lv2 =>
  obtain ⟨A,B,h⟩:=fuse_seq x y lv2
  rw [h] at hL; cases hL
 | _ => cases hL
theorem form_cond {c:Code} {lv lv':Hints} {x:LX} {A B:LCode} (h:Form P N pr q c lv (.cond x A B) lv') : ∃ cd a b lv1,c=.cond cd a b∧x=compX cd∧compC P N pr (q.go 0) a lv=some (A,lv1)∧compC P N pr (q.go 1) b lv1=some (B,lv'):=by
 generalize hL:LCode.cond x A B=L at h
 cases h with
 | cond cd a b lv x1 lv1 y1 lv2 h1 h2 => injection hL with q1 q2 q3; subst q1; subst q2; subst q3; exact ⟨cd,a,b,lv1,rfl,rfl,h1,h2⟩
 | ops => rcases withCo_ne hL.symm with ⟨_,h⟩ | ⟨x,xs,h,_⟩ <;> cases h
 | draw => rcases withCo_ne hL.symm with ⟨_,h⟩ | ⟨x,xs,h,_⟩ <;> cases h
 | loop => rcases withCo_ne hL.symm with ⟨_,h⟩ | ⟨x,xs,h,_⟩ <;> cases h
 | rfn => rcases withCo_ne hL.symm with ⟨_,h⟩ | ⟨x,xs,h,_⟩ <;> cases h
 | seq a b lv x lv1 y lv2 =>
  obtain ⟨A,B,h⟩:=fuse_seq x y lv2
  rw [h] at hL; cases hL
 | _ => cases hL
theorem form_skip {c:Code} {lv lv':Hints} (h:Form P N pr q c lv .skip lv'):c=.skip∧lv'=lv:=by
 generalize hL:LCode.skip=L at h
 cases h with
 | skip => exact ⟨rfl,rfl⟩
 | ops => rcases withCo_ne hL.symm with ⟨_,h⟩ | ⟨x,xs,h,_⟩ <;> cases h
 | draw => rcases withCo_ne hL.symm with ⟨_,h⟩ | ⟨x,xs,h,_⟩ <;> cases h
 | loop => rcases withCo_ne hL.symm with ⟨_,h⟩ | ⟨x,xs,h,_⟩ <;> cases h
 | rfn => rcases withCo_ne hL.symm with ⟨_,h⟩ | ⟨x,xs,h,_⟩ <;> cases h
 | seq a b lv x lv1 y lv2 =>
  obtain ⟨A,B,h⟩:=fuse_seq x y lv2
  rw [h] at hL; cases hL
 | _ => cases hL
theorem form_exit {c:Code} {lv lv':Hints} {id:Nat} (h:Form P N pr q c lv (.exit id) lv'):c=.exit id∧lv'=lv:=by
 generalize hL:LCode.exit id=L at h
 cases h with
 | exit => injection hL with h; subst h; exact ⟨rfl,rfl⟩
 | ops => rcases withCo_ne hL.symm with ⟨_,h⟩ | ⟨x,xs,h,_⟩ <;> cases h
 | draw => rcases withCo_ne hL.symm with ⟨_,h⟩ | ⟨x,xs,h,_⟩ <;> cases h
 | loop => rcases withCo_ne hL.symm with ⟨_,h⟩ | ⟨x,xs,h,_⟩ <;> cases h
 | rfn => rcases withCo_ne hL.symm with ⟨_,h⟩ | ⟨x,xs,h,_⟩ <;> cases h
 | seq a b lv x lv1 y lv2 =>
  obtain ⟨A,B,h⟩:=fuse_seq x y lv2
  rw [h] at hL; cases hL
 | _ => cases hL
theorem form_seq {c:Code} {lv lv':Hints} {A B:LCode} (hB : ∀ cs live nx more it out b k l2,B≠withCo cs (.rng live nx more it out b k l2)) (h:Form P N pr q c lv (.seq A B) lv') : ∃ a b lv1,c=.seq a b∧compC P N pr (q.go 0) a lv=some (A,lv1)∧compC P N pr (q.go 1) b lv1=some (B,lv'):=by
 generalize hL:LCode.seq A B=L at h
 cases h with
 | seq a b lv x lv1 y lv2 h1 h2 =>
  unfold fuse at hL ⊢
  split at hL
  ·split at hL
   ·split at hL
    ·injection hL with q1 q2
     exact absurd q2 (hB _ _ _ _ _ _ _ _ _)
    ·rename_i hne
     rw [if_neg hne]
     injection hL with q1 q2
     subst q1; subst q2
     exact ⟨a,b,lv1,rfl,h1,h2⟩
   ·rename_i hnone
    simp only [hnone]
    injection hL with q1 q2
    subst q1; subst q2
    exact ⟨a,b,lv1,rfl,h1,h2⟩
  ·injection hL with q1 q2
   subst q1; subst q2
   refine ⟨a,b,lv1,rfl,h1,?_⟩
   rw [h2]
 | ops => rcases withCo_ne hL.symm with ⟨_,h⟩ | ⟨x,xs,h,_⟩ <;> cases h
 | draw => rcases withCo_ne hL.symm with ⟨_,h⟩ | ⟨x,xs,h,_⟩ <;> cases h
 | loop => rcases withCo_ne hL.symm with ⟨_,h⟩ | ⟨x,xs,h,_⟩ <;> cases h
 | rfn => rcases withCo_ne hL.symm with ⟨_,h⟩ | ⟨x,xs,h,_⟩ <;> cases h
 | _ => cases hL
theorem nxtOps_inv {l:List LOper} {nx more it:Nat} (h:nxtOps l=some (nx,more,it)):l=[⟨some nx,.nxt (.tm it),none⟩,⟨some more,.ext (.tm nx) 0,none⟩]∧nx≠it∧more≠it∧nx≠more:=by
 unfold nxtOps at h
 split at h
 ·rename_i a b
  split at h
  ·rename_i nx1 it1
   split at h
   ·rename_i more1 nx2
    split at h
    ·rename_i hc
     injection h with h; injection h with h1 h2; injection h2 with h2 h3
     subst h1; subst h2; subst h3
     obtain ⟨rfl,h2,h3,h4⟩:=hc
     exact ⟨rfl,h2,h3,h4⟩
    ·cases h
   ·cases h
  ·cases h
 ·cases h
theorem form_round {c : Code} {lv lv' : Hints} {L b : LCode} {nx more it out : Nat} (hr : rngBody L = some (nx, more, it, out, b)) (hc : compC P N pr q c lv = some (L, lv')) :
 ∃ id ops cd bc lv1,c=.seq (.region id ops false) (.seq (.cond cd .skip (.exit out)) bc)∧compOpers P ops N ops.toList=some [⟨some nx,.nxt (.tm it),none⟩,⟨some more,.ext (.tm nx) 0,none⟩]∧compX cd=.tm more∧compC P N pr ((q.go 1).go 1) bc lv1=some (b,lv')∧nx≠it∧more≠it∧nx≠more:=by
 unfold rngBody at hr
 split at hr
 ·rename_i l t out1 b1
  split at hr
  ·rename_i nx1 more1 it1 hn
   split at hr
   ·rename_i htm
    injection hr with hr; injection hr with h1 h2; injection h2 with h2 h3; injection h3 with h3 h4; injection h4 with h4 h5
    obtain ⟨htm,hnr⟩:=htm
    subst h1; subst h2; subst h3; subst h4; subst h5; subst htm
    obtain ⟨hl,hd⟩:=nxtOps_inv hn
    obtain ⟨a,b',lv1,rfl,ha,hb⟩:=form_seq (fun cs _ _ _ _ _ _ _ _ e => by cases cs <;> cases e) (form hc)
    obtain ⟨id,ops,l0,rfl,ho,rfl,rfl⟩:=form_ops (form ha)
    have hseq : ∃ a2 b2 lv2, b' = .seq a2 b2 ∧ compC P N pr ((q.go 1).go 0) a2 lv1 = some (.cond (.tm t) .skip (.exit out1), lv2) ∧ compC P N pr ((q.go 1).go 1) b2 lv2 = some (b1, lv') := by
     have F:=form hb
     generalize hL:LCode.seq (.cond (.tm t) .skip (.exit out1)) b1=L at F
     cases F with
     | seq a2 b2 lv x lv2 y lv3 g1 g2 =>
      unfold fuse at hL
      split at hL
      ·split at hL
       ·split at hL
        ·injection hL with q1 q2
         subst q2
         rename_i cs1 _ _ _ _ _ _ _ _
         cases cs1 <;> simp [withCo,notRng] at hnr
        ·injection hL with q1 q2; cases q1
       ·injection hL with q1 q2; cases q1
      ·rename_i hno
       injection hL with q1 q2
       subst q1; subst q2
       refine ⟨a2,b2,lv2,rfl,g1,?_⟩
       rw [g2]
       congr 2
     | ops => rcases withCo_ne hL.symm with ⟨_,h⟩ | ⟨x,xs,h,_⟩ <;> cases h
     | draw => rcases withCo_ne hL.symm with ⟨_,h⟩ | ⟨x,xs,h,_⟩ <;> cases h
     | loop => rcases withCo_ne hL.symm with ⟨_,h⟩ | ⟨x,xs,h,_⟩ <;> cases h
     | rfn => rcases withCo_ne hL.symm with ⟨_,h⟩ | ⟨x,xs,h,_⟩ <;> cases h
     | _ => cases hL
    obtain ⟨a2,b2,lv2,rfl,h2,h3⟩:=hseq
    obtain ⟨cd,x1,x2,lv3,rfl,hcd,h4,h5⟩:=form_cond (form h2)
    obtain ⟨rfl,rfl⟩:=form_skip (form h4)
    obtain ⟨rfl,rfl⟩:=form_exit (form h5)
    exact ⟨id,ops,cd,b2,_,rfl,by rw [ho,hl],hcd.symm,h3,hd⟩
   ·cases hr
  ·cases hr
 ·cases hr
theorem next_sound {st:St} {it:Nat} {h:RHead} (R:Rel C σ st a w) (hh:rngHead st it=some h) {x:Operand} (hx:compX x=.tm it) (ty:TypeId) :
 (h.left=[]∧(Instr.next (a.eval x) false ty).run P w=.ok (.tuple #[.bool false]) w) ∨
 ∃ p ∈ h.left, ∃ v w', (Instr.next (a.eval x) false ty).run P w = .ok v w' ∧ keyOk p.2.1 = true ∧
  (let hp' := (h.bi, some (Blk.iter (some h.mb) h.since (h.seen ++ [p.1]) h.c)) :: st.hp
   HRel C σ (hk hp') w'∧HLe (frz (hk st.hp) σ C.X w) (frz (hk hp') σ C.X w')∧VR σ (frz (hk hp') σ C.X w') (.tup [.fz (.sc (.bool true)),keyA p.2.1,outM p.2.2]) v):=by
 unfold rngHead at hh
 split at hh
 case h_2 => cases hh
 rename_i bi hit
 split at hh
 case h_2 => cases hh
 rename_i mb since seen last hbi
 split at hh
 case h_2 => cases hh
 rename_i es c hmb
 split at hh
 case isFalse => cases hh
 rename_i hcond
 injection hh with hh; subst hh
 obtain ⟨hsl,hall⟩:=hcond
 have hev:=R.slr.av x
 rw [hx] at hev
 simp only [LX.av,hit] at hev
 obtain ⟨k,n,hσ,hv⟩:=hev.bp_inv
 obtain ⟨km,hσm,hI⟩:=iter_at R.heap hbi hσ
 obtain ⟨E,hE,hR⟩:=map_at R.heap hmb hσm
 have hn1:n=1:=by
  cases R.heap.bk bi _ hbi with
  | iter _ _ _ _ k' mk g1 g2 g3 =>
   rw [hσ] at g1
   injection g1 with g1; injection g1
 subst hn1
 have hold : ∀ e∈E.toList,e.born < since:=by
  intro e he
  obtain ⟨i,hi,rfl⟩:=List.getElem_of_mem he
  have hi2:i < es.length:=by rw [← hR.1]; exact hi
  have:=(hR.2 i _ _ (List.getElem?_eq_getElem hi2) (List.getElem?_eq_getElem hi)).1
  rw [this]
  have:=List.all_eq_true.1 hall _ (List.getElem_mem hi2)
  simp only [Bool.and_eq_true,decide_eq_true_eq] at this
  exact this.1
 have hmem : ∀ e,e∈(leftOf E seen.toArray).toList→∃ p,p∈es∧¬ p.1∈seen∧e.born=p.1∧e.key=p.2.1∧FR (frz (hk st.hp) σ C.X w) p.2.2 e.val:=by
  intro e he
  unfold leftOf at he
  simp only [Array.toList_filter,List.mem_filter] at he
  obtain ⟨he1,he2⟩:=he
  obtain ⟨i,hi,rfl⟩:=List.getElem_of_mem he1
  have hi2:i < es.length:=by rw [← hR.1]; exact hi
  obtain ⟨g1,g2,g3⟩:=hR.2 i _ _ (List.getElem?_eq_getElem hi2) (List.getElem?_eq_getElem hi)
  refine ⟨es[i],List.getElem_mem hi2,fun hs => ?_,g1,g2,g3⟩
  rw [g1] at he2
  simp [hs] at he2
 rw [hv]
 rcases run_next_at (P:=P) w ty k km since last seen.toArray E c hI hE hold hsl with ⟨h0,hrun⟩ | ⟨e,he,w1,hw1,hrun⟩
 ·refine .inl ⟨?_,hrun⟩
  unfold RHead.left
  simp only
  rw [List.filter_eq_nil_iff]
  intro p hp
  simp only [Bool.not_eq_true',Bool.not_eq_false]
  obtain ⟨i,hi,rfl⟩:=List.getElem_of_mem hp
  have hi2:i < E.toList.length:=by rw [hR.1]; exact hi
  obtain ⟨g1,_,_⟩:=hR.2 i _ _ (List.getElem?_eq_getElem hi) (List.getElem?_eq_getElem hi2)
  have hnot:E.toList[i] ∉ (leftOf E seen.toArray).toList:=by
   have:leftOf E seen.toArray = #[]:=Array.eq_empty_of_size_eq_zero h0
   rw [this]; simp
  unfold leftOf at hnot
  simp only [Array.toList_filter,List.mem_filter,not_and] at hnot
  have:=hnot (List.getElem_mem hi2)
  rw [g1] at this
  simpa using this
 ·obtain ⟨p,hp,hps,g1,g2,g3⟩:=hmem e he
  have hlf:keyOk p.2.1=true:=by
   have:=List.all_eq_true.1 hall _ hp
   simp only [Bool.and_eq_true] at this
   exact this.2
  have hw1h:w1.heap=w.heap:=by rcases hw1 with rfl | rfl <;> rfl
  have R1:HRel C σ (hk st.hp) w1:=by
   rcases hw1 with rfl | rfl
   ·exact R.heap
   ·exact R.heap.drewn rfl rfl rfl rfl
  have hk1:k < w1.heap.size:=by rw [hw1h]; exact (Array.getElem?_eq_some_iff.1 hI).1
  have W:=R1.write1 hbi hσ (.mapIter (some km) since (seen.toArray.push e.born) c) (.iter (some mb) since (seen ++ [p.1]) c) (fun hl' => by
   refine .iter (some mb) since (seen ++ [p.1]) c k (some km) hσ ?_ fun m hm => ?_
   ·rw [setBlock_same hk1]
    rw [g1]
    congr 2
    apply Array.ext'
    simp
   ·injection hm with hm; subst hm; exact ⟨km,hσm,rfl⟩)
  have hfz:=frz_heap (σ:=σ) (hp:=hk st.hp) (X:=C.X) hw1h
  refine .inr ⟨p,?_,_,_,hrun,hlf,?_⟩
  ·unfold RHead.left
   simp only [List.mem_filter]
   exact ⟨hp,by simpa using hps⟩
  ·simp only [hk_cons]
   refine ⟨W.1,by rw [← hfz]; exact W.2,?_⟩
   have hl:=W.2
   rw [hfz] at hl
   refine .tup _ [.bool true,e.key,e.val] rfl fun i x v e1 e2 => ?_
   match i with
   | 0 => simp at e1 e2; subst e1; subst e2; exact .fz _ _ (.sc _ rfl)
   | 1 => simp at e1 e2; subst e1; subst e2; rw [g2]; exact keyA_vr hlf
   | 2 => simp at e1 e2; subst e1; subst e2; exact outM_vr (g3.mono hl)
   | n + 3 => simp at e1
end Go.Vai
