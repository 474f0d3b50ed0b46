/-
  A part of the abstract run of Go functions and of the proof that it tells the truth.
-/
import Derived.Test.YtljbbcpahapmnaaGreatDoorVaK
set_option linter.unusedVariables false
set_option linter.unusedSimpArgs false
namespace Go.Vai
section
variable {av av':LX→AV}
theorem map_av {xs:List LX} (h : ∀ x∈xs,av x=av' x):xs.map av=xs.map av':=List.map_congr_left h
theorem buildC_av : ∀ (ps:List (Nat × Nat × LX)) (cs:List AV),(∀ x∈ps.map (fun p => p.2.2),av x=av' x)→buildC av cs ps=buildC av' cs ps
 | [],cs,h => rfl
 | (o,n,x) :: r,cs,h => by
  simp only [buildC]
  rw [h x (by simp)]
  have ih:=fun cs => buildC_av r cs fun y hy => h y (by simp at hy ⊢; exact .inr hy)
  simp only [ih]
theorem pureOp_av {l:LOp} (h : ∀ x∈l.xs,av x=av' x):pureOp av l=pureOp av' l:=by
 cases l with
 | mov x => simp only [pureOp]; rw [h x (by simp [LOp.xs])]
 | pick c a b => simp only [pureOp]; rw [h c (by simp [LOp.xs]),h a (by simp [LOp.xs]),h b (by simp [LOp.xs])]
 | bin op x y => simp only [pureOp]; rw [h x (by simp [LOp.xs]),h y (by simp [LOp.xs])]
 | beq ng x y => simp only [pureOp]; rw [h x (by simp [LOp.xs]),h y (by simp [LOp.xs])]
 | eqs ks ng x y => simp only [pureOp]; rw [h x (by simp [LOp.xs]),h y (by simp [LOp.xs])]
 | isnil k ng x => simp only [pureOp]; rw [h x (by simp [LOp.xs])]
 | un op x => simp only [pureOp]; rw [h x (by simp [LOp.xs])]
 | conv k x => simp only [pureOp]; rw [h x (by simp [LOp.xs])]
 | i2s x => simp only [pureOp]; rw [h x (by simp [LOp.xs])]
 | s2s x => simp only [pureOp]; rw [h x (by simp [LOp.xs])]
 | slen x => simp only [pureOp]; rw [h x (by simp [LOp.xs])]
 | len x => simp only [pureOp]; rw [h x (by simp [LOp.xs])]
 | alen n => rfl
 | mx xs => simp only [pureOp]; rw [map_av (av:=av) (av':=av') (xs:=xs) h]
 | mn xs => simp only [pureOp]; rw [map_av (av:=av) (av':=av') (xs:=xs) h]
 | fld p d => simp only [pureOp]; rw [h p (by simp [LOp.xs])]
 | ixa sz x i => simp only [pureOp]; rw [h x (by simp [LOp.xs]),h i (by simp [LOp.xs])]
 | ixp n sz p i => simp only [pureOp]; rw [h p (by simp [LOp.xs]),h i (by simp [LOp.xs])]
 | ixs x i => simp only [pureOp]; rw [h x (by simp [LOp.xs]),h i (by simp [LOp.xs])]
 | ixv n sz ag x i => simp only [pureOp]; rw [h x (by simp [LOp.xs]),h i (by simp [LOp.xs])]
 | field ag x d => simp only [pureOp]; rw [h x (by simp [LOp.xs])]
 | build z ps => simp only [pureOp]; rw [buildC_av ps _ h]
 | slc sz x lo hi mx =>
  simp only [pureOp]
  have e0:=h x (by simp [LOp.xs])
  have e3 : ∀ m,mx=some m→av m=av' m:=fun m e => h m (by simp [LOp.xs,e])
  have e1 : ∀ m,lo=some m→av m=av' m:=fun m e => h m (by simp [LOp.xs,e])
  have e2 : ∀ m,hi=some m→av m=av' m:=fun m e => h m (by simp [LOp.xs,e])
  rw [e0]
  clear h e0
  rcases lo with _ | y <;> rcases hi with _ | z
  ·cases mx <;> rfl
  ·dsimp only
   rw [e2 z rfl]
   generalize intOf' (av' z)=B
   rcases B with _ | b
   ·rfl
   ·rcases mx with _ | m
    ·rfl
    ·by_cases h2:b=0
     ·subst h2; simp only [Option.map_some,e3 m rfl]
     ·simp [h2]
  ·dsimp only
   rw [e1 y rfl]
   generalize intOf' (av' y)=A
   cases A <;> cases mx <;> rfl
  ·dsimp only
   rw [e1 y rfl,e2 z rfl]
   generalize intOf' (av' y)=A
   generalize intOf' (av' z)=B
   rcases A with _ | l
   ·rfl
   ·rcases B with _ | b
    ·rfl
    ·rcases mx with _ | m
     ·rfl
     ·by_cases h1:l=0
      ·by_cases h2:b=0
       ·subst h1; subst h2; simp only [Option.map_some,e3 m rfl]
       ·simp [h2]
      ·simp [h1]
 | slcs x lo hi =>
  simp only [pureOp]
  have e0:=h x (by simp [LOp.xs])
  have e1 : ∀ m,lo=some m→av m=av' m:=fun m e => h m (by simp [LOp.xs,e])
  have e2 : ∀ m,hi=some m→av m=av' m:=fun m e => h m (by simp [LOp.xs,e])
  rw [e0]
  rcases lo with _ | y <;> rcases hi with _ | z
  ·rfl
  ·dsimp only
   rw [e2 z rfl]
  ·dsimp only
   rw [e1 y rfl]
  ·dsimp only
   rw [e1 y rfl,e2 z rfl]
 | ext x i => simp only [pureOp]; rw [h x (by simp [LOp.xs])]
 | mkf f caps => simp only [pureOp]; rw [map_av (av:=av) (av':=av') (xs:=caps) h]
 | nilchk x => simp only [pureOp]; rw [h x (by simp [LOp.xs])]
 | mki t x => simp only [pureOp]; rw [h x (by simp [LOp.xs])]
 | tas t z x => simp only [pureOp]; rw [h x (by simp [LOp.xs])]
 | mkb f fst => simp only [pureOp]; rw [map_av (av:=av) (av':=av') (xs:=fst) h]
 | _ => rfl
theorem bslGo_av {sz:Nat} : ∀ (ps:List (Nat × LX)) (hp:HW) (es:List (List FV)),(∀ x∈ps.map (fun p => p.2),av x=av' x)→bslGo sz av hp es ps=bslGo sz av' hp es ps
 | [],hp,es,h => rfl
 | (i,x) :: r,hp,es,h => by
  simp only [bslGo]
  rw [h x (by simp)]
  have ih:=fun hp es => bslGo_av (sz:=sz) r hp es fun y hy => h y (by simp at hy ⊢; exact .inr hy)
  simp only [ih]
theorem bslGoR_av {sz:Nat} : ∀ (ps:List (Nat × LX)) (es:List (List AV)),(∀ x∈ps.map (fun p => p.2),av x=av' x)→bslGoR sz av es ps=bslGoR sz av' es ps
 | [],es,h => rfl
 | (i,x) :: r,es,h => by
  simp only [bslGoR]
  rw [h x (by simp)]
  have ih:=fun es => bslGoR_av (sz:=sz) r es fun y hy => h y (by simp at hy ⊢; exact .inr hy)
  simp only [ih]
theorem heapOp_av {rf:RF} {nm:Nat} {st:St} {l:LOp} (h : ∀ x∈l.xs,av x=av' x):heapOp rf av nm st l=heapOp rf av' nm st l:=by
 cases l with
 | alloc z => rfl
 | abld T U => rfl
 | box x => simp only [heapOp]; rw [h x (by simp [LOp.xs])]
 | load ag p => simp only [heapOp]; rw [h p (by simp [LOp.xs])]
 | store n p x => simp only [heapOp]; rw [h p (by simp [LOp.xs]),h x (by simp [LOp.xs])]
 | bsl sz z len ps => simp only [heapOp]; rw [bslGo_av ps _ _ h]
 | mks sz bytes z l c => simp only [heapOp]; rw [h l (by simp [LOp.xs]),h c (by simp [LOp.xs])]
 | app sz bytes str s x => simp only [heapOp]; rw [h s (by simp [LOp.xs]),h x (by simp [LOp.xs])]
 | cpy sz d x => simp only [heapOp]; rw [h d (by simp [LOp.xs]),h x (by simp [LOp.xs])]
 | clr sz z x => simp only [heapOp]; rw [h x (by simp [LOp.xs])]
 | s2b x => simp only [heapOp]; rw [h x (by simp [LOp.xs])]
 | b2s x => simp only [heapOp]; rw [h x (by simp [LOp.xs])]
 | cv2 x => simp only [heapOp]; rw [h x (by simp [LOp.xs])]
 | slca n x lo hi =>
  have h1:loI av lo=loI av' lo:=by
   cases lo with
   | none => rfl
   | some y => simp only [loI]; rw [h y (by simp [LOp.xs])]
  have h2:hiI av n hi=hiI av' n hi:=by
   cases hi with
   | none => rfl
   | some y => simp only [hiI]; rw [h y (by simp [LOp.xs])]
  simp only [heapOp]; rw [h1,h2,h x (by simp [LOp.xs])]
 | call f xs =>
  simp only [heapOp]
  rw [h f (by simp [LOp.xs]),map_av (av:=av) (av':=av') (xs:=xs) fun x hx => h x (by simp [LOp.xs,hx])]
 | lcall f xs =>
  simp only [heapOp]
  rw [h f (by simp [LOp.xs]),map_av (av:=av) (av':=av') (xs:=xs) fun x hx => h x (by simp [LOp.xs,hx])]
 | mset k m key x => simp only [heapOp]; rw [h m (by simp [LOp.xs]),h key (by simp [LOp.xs]),h x (by simp [LOp.xs])]
 | mget k z c m key => simp only [heapOp]; rw [h m (by simp [LOp.xs]),h key (by simp [LOp.xs])]
 | mrng m => simp only [heapOp]; rw [h m (by simp [LOp.xs])]
 | ment m => simp only [heapOp]; rw [h m (by simp [LOp.xs])]
 | loadr p => simp only [heapOp]; rw [h p (by simp [LOp.xs])]
 | bslr sz z len ps => simp only [heapOp]; rw [bslGoR_av ps _ h]
 | mksr sz bytes z l c => simp only [heapOp]; rw [h l (by simp [LOp.xs]),h c (by simp [LOp.xs])]
 | mdel k m key => simp only [heapOp]; rw [h m (by simp [LOp.xs]),h key (by simp [LOp.xs])]
 | inv tb x xs =>
  simp only [heapOp]
  rw [h x (by simp [LOp.xs]),map_av (av:=av) (av':=av') (xs:=xs) fun x hx => h x (by simp [LOp.xs,hx])]
 | _ => rfl
theorem touch_av {nm:Nat} {st:St} {l:LOp} (h : ∀ x∈l.xs,av x=av' x):touch av nm st l=touch av' nm st l:=by
 cases l with
 | alloc z => rfl
 | abld T U => rfl
 | box x => rfl
 | load ag p => simp only [touch]; rw [h p (by simp [LOp.xs])]
 | store n p x => simp only [touch]; rw [h p (by simp [LOp.xs]),h x (by simp [LOp.xs])]
 | bsl sz z len ps =>
  simp only [touch]
  have:(ps.map fun p => av p.2)=ps.map fun p => av' p.2:=List.map_congr_left fun p hp => h p.2 (by simp only [LOp.xs]; exact List.mem_map_of_mem hp)
  rw [this]
 | mks sz bytes z l c => rfl
 | app sz bytes str s x => simp only [touch]; rw [h s (by simp [LOp.xs]),h x (by simp [LOp.xs])]
 | cpy sz d x => simp only [touch]; rw [h d (by simp [LOp.xs]),h x (by simp [LOp.xs])]
 | clr sz z x => simp only [touch]; rw [h x (by simp [LOp.xs])]
 | s2b x => rfl
 | b2s x => simp only [touch]; rw [h x (by simp [LOp.xs])]
 | cv2 x => simp only [touch]; rw [h x (by simp [LOp.xs])]
 | slca n x lo hi => simp only [touch]; rw [h x (by simp [LOp.xs])]
 | call f xs =>
  simp only [touch]
  rw [h f (by simp [LOp.xs]),map_av (av:=av) (av':=av') (xs:=xs) fun x hx => h x (by simp [LOp.xs,hx])]
 | lcall f xs =>
  simp only [touch]
  rw [map_av (av:=av) (av':=av') (xs:=xs) fun x hx => h x (by simp [LOp.xs,hx])]
 | mset k m key x => simp only [touch]; rw [h m (by simp [LOp.xs]),h x (by simp [LOp.xs])]
 | mget k z c m key => simp only [touch]; rw [h m (by simp [LOp.xs])]
 | mrng m => simp only [touch]; rw [h m (by simp [LOp.xs])]
 | ment m => simp only [touch]; rw [h m (by simp [LOp.xs])]
 | loadr p => simp only [touch]; rw [h p (by simp [LOp.xs])]
 | mdel k m key => simp only [touch]; rw [h m (by simp [LOp.xs])]
 | inv tb x xs =>
  simp only [touch]
  rw [h x (by simp [LOp.xs]),map_av (av:=av) (av':=av') (xs:=xs) fun x hx => h x (by simp [LOp.xs,hx])]
 | _ => rfl
end
end Go.Vai
