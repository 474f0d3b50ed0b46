/-
  What functions of layer 9 and of its reference compute: equations of the abstract run, and plain laws of them.
-/
import Derived.Test.YtljbbcpahapmnaaGreatDoorCK0
set_option linter.unusedVariables false
set_option linter.unusedSimpArgs false
set_option linter.unnecessarySimpa false
set_option linter.unusedSectionVars false
namespace Go.Vai
variable {m:Int} {e3 e4:Value}
end Go.Vai
namespace Go.Vai
variable {m:Int} {e3 e4:Value}
abbrev tok6 (k:Int) (t:List UInt8) (n r c:Int) (b:Bool):List FV:=[.sc (.int .i64 k),.sc (.string (mkB t)),.sc (.int .i64 n),.sc (.int .i64 r),.sc (.int .i64 c),.sc (.bool b)]
def rTok:Tok→List FV
 | .sign t => tok6 0 t 0 0 0 false
 | .num n => tok6 1 [] n 0 0 false
 | .txt t => tok6 2 t 0 0 0 false
 | .plc r c => tok6 3 [] 0 r c false
 | .name t => tok6 0 t 0 0 0 true
end Go.Vai
namespace Go.Vai
variable {m:Int} {e3 e4:Value}
theorem drop_take (l:List UInt8) (a n:Nat):(l.take (a + n)).drop a=(l.drop a).take n:=by
 rw [List.drop_take,Nat.add_sub_cancel_left]
end Go.Vai
namespace Go.Vai
variable {m:Int} {e3 e4:Value}
end Go.Vai
namespace Go.Vai
variable {m:Int} {e3 e4:Value}
@[simp] theorem rTok_len (t : Tok) : (rTok t).length = 6 := by cases t <;> rfl
end Go.Vai
namespace Go.Vai
variable {m:Int} {e3 e4:Value}
inductive Nd where
 | mk (kind num:Int) (text:List UInt8) (fr fc tr tc:Int) (args:List Nd)
mutual
def eNd:Nd→List FV
 | .mk k n t a b c d l => [.sc (.int .i64 k),.sc (.int .i64 n),.sc (.string (mkB t)),.sc (.int .i64 a),.sc (.int .i64 b),.sc (.int .i64 c),.sc (.int .i64 d),.sl (eNds l)]
def eNds:List Nd→List (List FV)
 | [] => []
 | n :: r => eNd n :: eNds r
end
def ndA (n:Nd):AV:=.agg ((eNd n).map .fz)
def zNd:Nd:=.mk 0 0 [] 0 0 0 0 []
def op2 (s:List UInt8) (a b:Nd):Nd:=.mk 5 0 s 0 0 0 0 [a,b]
def op1 (a:Nd):Nd:=.mk 5 0 [45] 0 0 0 0 [a]
def numN (n:Int):Nd:=.mk 1 n [] 0 0 0 0 []
def txtN (t:List UInt8):Nd:=.mk 2 0 t 0 0 0 0 []
def celN (a b:Int):Nd:=.mk 3 0 [] a b 0 0 []
def rngN (a b c d:Int):Nd:=.mk 4 0 [] a b c d []
def calN (t:List UInt8) (l:List Nd):Nd:=.mk 6 0 t 0 0 0 0 l
def takeS (sg:List (List UInt8)):List Tok→Option (List UInt8 × List Tok)
 | .sign s :: r => if s∈sg then some (s,r) else none
 | _ => none
abbrev Rd:=Option (Nd × List Tok)
def pRow (part:List Tok→Rd) (sg:List (List UInt8)):Nat→Nd→List Tok→Rd
 | 0,n,ts => some (n,ts)
 | j + 1, n, ts => match takeS sg ts with
  | none => some (n,ts)
  | some (s,r) => match part r with
   | none => none
   | some (b,ts') => pRow part sg j (op2 s n b) ts'
def pArg (part:List Tok→Rd):Nat→List Nd→List Tok→Option (List Nd × List Tok)
 | 0,_,_ => none
 | j + 1, ns, ts => match part ts with
  | none => none
  | some (a,ts') => match takeS [[44]] ts' with
   | some (_,r) => pArg part j (ns ++ [a]) r
   | none => some (ns ++ [a],ts')
inductive PK where
 | form | join | sum | prod | minus | single
def cmpL:List (List UInt8):=[[61],[60,62],[60],[60,61],[62],[62,61]]
def pr : Nat → PK → Nat → List Tok → Rd
 | 0,_,_,_ => none
 | k + 1,.form,d,ts => match pr k .join d ts with
  | none => none
  | some (n,ts1) => pRow (pr k .join d) cmpL 1 n ts1
 | k + 1,.join,d,ts => match pr k .sum d ts with
  | none => none
  | some (n,ts1) => pRow (pr k .sum d) [[38]] ts1.length n ts1
 | k + 1,.sum,d,ts => match pr k .prod d ts with
  | none => none
  | some (n,ts1) => pRow (pr k .prod d) [[43],[45]] ts1.length n ts1
 | k + 1,.prod,d,ts => match pr k .minus d ts with
  | none => none
  | some (n,ts1) => pRow (pr k .minus d) [[42],[47]] ts1.length n ts1
 | k + 1,.minus,d,ts => match takeS [[45]] ts with
  | some (_,r) => if d + 1 > 32 then none else (pr k .minus (d + 1) r).map fun p => (op1 p.1,p.2)
  | none => pr k .single d ts
 | k + 1, .single, d, ts => match takeS [[40]] ts with
  | some (_,r) => if d + 1 > 32 then none else match pr k .form (d + 1) r with
   | none => none
   | some (n,ts1) => (takeS [[41]] ts1).map fun p => (n,p.2)
  | none => match ts with
   | [] => none
   | .num n :: r => some (numN n,r)
   | .txt t :: r => some (txtN t,r)
   | .plc a b :: r => match takeS [[58]] r with
    | none => some (celN a b,r)
    | some (_,.plc a2 b2 :: r3) => some (rngN a b a2 b2,r3)
    | some (_,_) => none
   | .name t :: r => match takeS [[40]] r with
    | none => none
    | some (_, r2) => if d + 1 > 32 then none else match takeS [[41]] r2 with
     | some (_,r3) => some (calN t [],r3)
     | none => match pArg (pr k .form (d + 1)) (r2.length + 1) [] r2 with
      | none => none
      | some (ns,ts1) => (takeS [[41]] ts1).map fun p => (calN t ns,p.2)
   | .sign _ :: _ => none
theorem takeS_len {sg:List (List UInt8)} {ts:List Tok} {p:List UInt8 × List Tok} (h:takeS sg ts=some p):ts.length=p.2.length + 1∧p.1∈sg:=by
 unfold takeS at h
 split at h
 ·split at h
  ·injection h with h; subst h; exact ⟨rfl,by assumption⟩
  ·cases h
 ·cases h
theorem pRow_len {part:List Tok→Rd} {sg:List (List UInt8)} (hp : ∀ ts n ts',part ts=some (n,ts')→ts'.length < ts.length) : ∀ (j:Nat) (n:Nd) (ts:List Tok) (n':Nd) (ts':List Tok),pRow part sg j n ts=some (n',ts')→ts'.length≤ts.length
 | 0,n,ts,n',ts',h => by simp [pRow] at h; rw [h.2]; exact Nat.le_refl _
 | j + 1, n, ts, n', ts', h => by
  rw [pRow] at h
  split at h
  ·simp at h; rw [h.2]; exact Nat.le_refl _
  ·rename_i s r hs
   have:=takeS_len hs
   split at h
   ·cases h
   ·rename_i b ts2 hb
    have h2:=hp _ _ _ hb
    have h3:=pRow_len hp j _ _ _ _ h
    simp at this; omega
theorem pArg_len {part:List Tok→Rd} (hp : ∀ ts n ts',part ts=some (n,ts')→ts'.length < ts.length) : ∀ (j:Nat) (ns:List Nd) (ts:List Tok) (ns':List Nd) (ts':List Tok),pArg part j ns ts=some (ns',ts')→ts'.length < ts.length
 | 0,ns,ts,ns',ts',h => by simp [pArg] at h
 | j + 1, ns, ts, ns', ts', h => by
  rw [pArg] at h
  split at h
  ·cases h
  ·rename_i a ts2 ha
   have h2:=hp _ _ _ ha
   split at h
   ·rename_i s r hs
    have:=takeS_len hs
    have h3:=pArg_len hp j _ _ _ _ h
    simp at this; omega
   ·simp at h; rw [← h.2]; exact h2
theorem pr_len : ∀ (k : Nat) (K : PK) (d : Nat) (ts : List Tok) (n : Nd) (ts' : List Tok), pr k K d ts = some (n, ts') → ts'.length < ts.length
 | 0,_,_,_,_,_,h => by simp [pr] at h
 | k + 1, .form, d, ts, n, ts', h => by
  simp only [pr] at h
  split at h
  ·cases h
  ·rename_i n1 ts1 h1
   have h2:=pr_len k _ _ _ _ _ h1
   have h3:=pRow_len (fun ts n ts' => pr_len k _ _ ts n ts') _ _ _ _ _ h
   omega
 | k + 1, .join, d, ts, n, ts', h => by
  simp only [pr] at h
  split at h
  ·cases h
  ·rename_i n1 ts1 h1
   have h2:=pr_len k _ _ _ _ _ h1
   have h3:=pRow_len (fun ts n ts' => pr_len k _ _ ts n ts') _ _ _ _ _ h
   omega
 | k + 1, .sum, d, ts, n, ts', h => by
  simp only [pr] at h
  split at h
  ·cases h
  ·rename_i n1 ts1 h1
   have h2:=pr_len k _ _ _ _ _ h1
   have h3:=pRow_len (fun ts n ts' => pr_len k _ _ ts n ts') _ _ _ _ _ h
   omega
 | k + 1, .prod, d, ts, n, ts', h => by
  simp only [pr] at h
  split at h
  ·cases h
  ·rename_i n1 ts1 h1
   have h2:=pr_len k _ _ _ _ _ h1
   have h3:=pRow_len (fun ts n ts' => pr_len k _ _ ts n ts') _ _ _ _ _ h
   omega
 | k + 1, .minus, d, ts, n, ts', h => by
  simp only [pr] at h
  split at h
  ·rename_i s r hs
   have:=takeS_len hs
   split at h
   ·cases h
   ·obtain ⟨p,h1,h2⟩:=Option.map_eq_some_iff.1 h
    injection h2 with h2 h3
    have h4:=pr_len k _ _ _ _ _ (show pr k .minus (d + 1) r=some (p.1,p.2) from h1)
    have q:=this.1
    simp only at q
    rw [← h3]; omega
  ·exact pr_len k _ _ _ _ _ h
 | k + 1, .single, d, ts, n, ts', h => by
  simp only [pr] at h
  split at h
  ·rename_i s r hs
   have:=takeS_len hs
   split at h
   ·cases h
   ·split at h
    ·cases h
    ·rename_i n1 ts1 h1
     have h2:=pr_len k _ _ _ _ _ h1
     obtain ⟨p,h3,h4⟩:=Option.map_eq_some_iff.1 h
     have h5:=(takeS_len h3).1
     injection h4 with h4 h6
     have q:=this.1
     simp only at q
     rw [← h6]; omega
  ·split at h
   ·cases h
   ·injection h with h; injection h with _ h; subst h; simp
   ·injection h with h; injection h with _ h; subst h; simp
   ·split at h
    ·injection h with h; injection h with _ h; subst h; simp
    ·rename_i hs
     have:=takeS_len hs
     injection h with h; injection h with _ h; subst h; simp at *; omega
    ·cases h
   ·split at h
    ·cases h
    ·rename_i s r2 hs
     have h0:=takeS_len hs
     split at h
     ·cases h
     ·split at h
      ·rename_i hs2
       have:=takeS_len hs2
       injection h with h; injection h with _ h; subst h; simp at *; omega
      ·split at h
       ·cases h
       ·rename_i ns ts1 ha
        have h2:=pArg_len (fun ts n ts' => pr_len k _ _ ts n ts') _ _ _ _ _ ha
        obtain ⟨p,h3,h4⟩:=Option.map_eq_some_iff.1 h
        have h5:=(takeS_len h3).1
        injection h4 with h4 h6
        have q:=h0.1
        simp only at q
        rw [← h6]
        simp only [List.length_cons]
        omega
   ·cases h
end Go.Vai
namespace Go.Vai
variable {m:Int} {e3 e4:Value}
def loV (av:LX→AV):Option LX→Option Int
 | none => some 0
 | some y => intOf' (av y)
def hiV (av:LX→AV):Option LX→Option (Option Int)
 | none => some none
 | some y => (intOf' (av y)).map some
def slcV (sz:Nat) (x:AV) (l:Option Int) (h:Option (Option Int)):Option AV :=
 match l,h with
 | some l, some h => match x with
  | .fz (.sl es) => let h':Int:=h.getD es.length
   if okSz sz es=true∧0≤l∧l≤h'∧h'≤es.length then some (.fz (.sl ((es.take h'.toNat).drop l.toNat))) else none
  | .emp => let h':Int:=h.getD 0
   if l=0∧h'=0 then some .emp else none
  | .osl b sz' off len => let h':Int:=h.getD len
   if sz'=sz∧0≤l∧l≤h'∧h'≤len then some (.osl b sz (off + l.toNat) (h' - l).toNat) else none
  | _ => none
 | _,_ => none
theorem pureOp_slc (av:LX→AV) (sz:Nat) (x:LX) (lo hi:Option LX):pureOp av (.slc sz x lo hi none)=slcV sz (av x) (loV av lo) (hiV av hi):=by
 cases lo with
 | none =>
  cases hi with
  | none =>
   simp only [pureOp,slcV,loV,hiV]
   generalize av x=w
   cases w with
   | fz y => cases y <;> rfl
   | _ => rfl
  | some b =>
   simp only [pureOp,slcV,loV,hiV]
   cases intOf' (av b) with
   | none => rfl
   | some n =>
    simp only [Option.map]
    generalize av x=w
    cases w with
    | fz y => cases y <;> rfl
    | _ => rfl
 | some a =>
  cases hi with
  | none =>
   simp only [pureOp,slcV,loV,hiV]
   cases intOf' (av a) with
   | none => rfl
   | some n =>
    simp only [Option.map]
    generalize av x=w
    cases w with
    | fz y => cases y <;> rfl
    | _ => rfl
  | some b =>
   simp only [pureOp,slcV,loV,hiV]
   cases intOf' (av a) with
   | none => rfl
   | some n =>
    cases intOf' (av b) with
    | none => rfl
    | some n =>
     simp only [Option.map]
     generalize av x=w
     cases w with
     | fz y => cases y <;> rfl
     | _ => rfl
@[simp] theorem slcV_osl (sz b sz' off len : Nat) (l : Int) (h : Option Int) : slcV sz (.osl b sz' off len) (some l) (some h) = if sz' = sz ∧ 0 ≤ l ∧ l ≤ h.getD len ∧ h.getD len ≤ len then some (.osl b sz (off + l.toNat) (h.getD len - l).toNat) else none := rfl
@[simp] theorem slcV_fz (sz : Nat) (es : List (List FV)) (l : Int) (h : Option Int) : slcV sz (.fz (.sl es)) (some l) (some h) = if okSz sz es = true ∧ 0 ≤ l ∧ l ≤ h.getD es.length ∧ h.getD es.length ≤ es.length then some (.fz (.sl ((es.take (h.getD es.length).toNat).drop l.toNat))) else none := rfl
attribute [simp] loV hiV
def eS (s:List UInt8):List FV:=[.sc (.string (mkB s))]
@[simp] theorem eS_len (s : List UInt8) : (eS s).length = 1 := rfl
def idxG:List (List UInt8)→List UInt8→Int
 | [],_ => -1
 | s :: r,v => if v=s then 0 else if idxG r v < 0 then -1 else idxG r v + 1
def liftI (i:Nat) (x:Int):Int:=if x < 0 then -1 else i + x
theorem idxG_mem : ∀ sg v,0≤idxG sg v↔v∈sg
 | [],v => by simp [idxG]
 | s :: r, v => by
  have ih:=idxG_mem r v
  unfold idxG
  by_cases h:v=s
  ·simp [h]
  ·rw [if_neg h]
   split
   ·rename_i h2
    simp [h]
    intro h3
    have:=ih.2 h3
    omega
   ·simp [h]
    exact ⟨fun _ => ih.1 (by omega),fun _ => by omega⟩
def S121 (sg:List (List UInt8)) (v:List UInt8) (i:Nat):St:={ sl:=[(0,.osl 0 1 0 sg.length),(1,bs v),(7,i64 sg.length),(8,i64 i)],hp:=[(0,some (.arr 1 (sg.map eS)))],nx:=1 }
theorem run_idxS (sg:List (List UInt8)) (v:List UInt8) (hn:sg.length≤100):(W m e3 e4).run 200 [.osl 0 1 0 sg.length,bs v] [some (.arr 1 (sg.map eS))]=some (i64 (idxG sg v),[some (.arr 1 (sg.map eS))]):=by
 refine run_wp (by rw [W_T]; exact rfl) ?_
 simp -dsimp -implicitDefEqProofs (maxSteps:=1000000) (disch:=omega) [ST]
 refine wp_inv (S121 sg v) (fun i => i≤sg.length∧liftI i (idxG (sg.drop i) v)=idxG sg v) (fun i => sg.length - i) 0 ⟨by simp,by
  have : -1≤idxG sg v:=by cases sg with
   | nil => simp [idxG]
   | cons s r => unfold idxG; split; omega; split <;> omega
  unfold liftI; rw [List.drop_zero]; split <;> omega⟩ (by simp -dsimp -implicitDefEqProofs (maxSteps:=1000000) (disch:=omega) [ST,S121]) ?_
 rintro i ⟨hi,hs⟩
 by_cases h:i < sg.length
 ·obtain ⟨s,hs2⟩ : ∃ s,sg[i]=s:=⟨_,rfl⟩
  rw [List.drop_eq_getElem_cons h,hs2,idxG] at hs
  by_cases hv:v=s
  ·rw [if_pos hv] at hs
   have e:idxG sg v=i:=by rw [← hs]; simp [liftI]
   rw [e]
   simp -dsimp -implicitDefEqProofs (maxSteps:=1000000) (disch:=omega) [ST,S121,h,hs2,eS,hv]
  ·rw [if_neg hv] at hs
   simp -dsimp -implicitDefEqProofs (maxSteps:=1000000) (disch:=omega) [ST,S121,h,hs2,eS,hv]
   refine again (i + 1) ⟨by omega,?_⟩ (by omega) (by simp -dsimp -implicitDefEqProofs (maxSteps:=1000000) (disch:=omega) [ST,S121])
   rw [← hs]
   unfold liftI
   split <;> split <;> omega
 ·have:i=sg.length:=by omega
  subst this
  rw [List.drop_length] at hs
  have e:idxG sg v = -1:=by rw [← hs]; rfl
  rw [e]
  simp -dsimp -implicitDefEqProofs (maxSteps:=1000000) (disch:=omega) [ST,S121,h]
theorem run_contS (sg:List (List UInt8)) (v:List UInt8) (hn:sg.length≤100):(W m e3 e4).run 149 [.osl 0 1 0 sg.length,bs v] [some (.arr 1 (sg.map eS))]=some (bo (decide (v∈sg)),[some (.arr 1 (sg.map eS))]):=by
 refine run_wp (by rw [W_T]; exact rfl) ?_
 have h:=run_idxS (m:=m) (e3:=e3) (e4:=e4) sg v hn
 have hm:=idxG_mem sg v
 by_cases hv:v∈sg
 ·have h0:=hm.2 hv
  simp -dsimp -implicitDefEqProofs (maxSteps:=1000000) (disch:=omega) [ST,h,hv,h0]
 ·have h0 : ¬ 0≤idxG sg v:=fun h => hv (hm.1 h)
  simp -dsimp -implicitDefEqProofs (maxSteps:=1000000) (disch:=omega) [ST,h,hv,h0]
theorem eTok_s (t:List UInt8):eTok (.sign t)=tok5 0 t 0 0 0:=rfl
theorem eTok_n (n:Int):eTok (.num n)=tok5 1 [] n 0 0:=rfl
theorem eTok_t (t:List UInt8):eTok (.txt t)=tok5 2 t 0 0 0:=rfl
theorem eTok_p (r c:Int):eTok (.plc r c)=tok5 3 [] 0 r c:=rfl
theorem eTok_m (t:List UInt8):eTok (.name t)=tok5 6 t 0 0 0:=rfl
def rdB (ts:List Tok) (d:Nat) (b:Bool):Option Blk:=some (.box [rw_ (ts.map eTok),i64 d,bo b])
def sgB (sg:List (List UInt8)):Option Blk:=some (.arr 1 (sg.map eS))
theorem run_sign (sg:List (List UInt8)) (ts:List Tok) (d:Nat) (hn:sg.length≤100) (hd:d≤100) (hl:ts.length≤1000000000000):(W m e3 e4).run 107 [.bp 0 0,.osl 1 1 0 sg.length] [rdB ts d false,sgB sg]=match takeS sg ts with
 | some (s,r) => some (.tup [bs s,bo true],[rdB r d false,sgB sg])
 | none => some (.tup [bs [],bo false],[rdB ts d false,sgB sg]):=by
 cases ts with
 | nil =>
  simp only [takeS]
  refine run_wp (by rw [W_T]; exact rfl) ?_
  simp -dsimp -implicitDefEqProofs (maxSteps:=1000000) (disch:=omega) [ST,rdB,sgB]
 | cons t r =>
  have zr:((r.length:Int) + 1).toNat=r.length + 1:=by omega
  cases t with
  | sign s =>
   have hc:=run_contS (m:=m) (e3:=e3) (e4:=e4) sg s hn
   by_cases hm:s∈sg
   ·have e:takeS sg (.sign s :: r)=some (s,r):=if_pos hm
    rw [e]
    simp only
    rw [decide_eq_true hm] at hc
    refine run_wp (by rw [W_T]; exact rfl) ?_
    simp -dsimp -implicitDefEqProofs (maxSteps:=1000000) (disch:=omega) [ST,rdB,sgB,eTok_s,eTok_n,eTok_t,eTok_p,eTok_m,hc,pureOp_slc,zr]
   ·have e:takeS sg (.sign s :: r)=none:=if_neg hm
    rw [e]
    simp only
    rw [decide_eq_false hm] at hc
    refine run_wp (by rw [W_T]; exact rfl) ?_
    simp -dsimp -implicitDefEqProofs (maxSteps:=1000000) (disch:=omega) [ST,rdB,sgB,eTok_s,eTok_n,eTok_t,eTok_p,eTok_m,hc,pureOp_slc,zr]
  | num n =>
   simp only [takeS]
   refine run_wp (by rw [W_T]; exact rfl) ?_
   simp -dsimp -implicitDefEqProofs (maxSteps:=1000000) (disch:=omega) [ST,rdB,sgB,eTok_s,eTok_n,eTok_t,eTok_p,eTok_m]
  | txt n =>
   simp only [takeS]
   refine run_wp (by rw [W_T]; exact rfl) ?_
   simp -dsimp -implicitDefEqProofs (maxSteps:=1000000) (disch:=omega) [ST,rdB,sgB,eTok_s,eTok_n,eTok_t,eTok_p,eTok_m]
  | plc a b =>
   simp only [takeS]
   refine run_wp (by rw [W_T]; exact rfl) ?_
   simp -dsimp -implicitDefEqProofs (maxSteps:=1000000) (disch:=omega) [ST,rdB,sgB,eTok_s,eTok_n,eTok_t,eTok_p,eTok_m]
  | name n =>
   simp only [takeS]
   refine run_wp (by rw [W_T]; exact rfl) ?_
   simp -dsimp -implicitDefEqProofs (maxSteps:=1000000) (disch:=omega) [ST,rdB,sgB,eTok_s,eTok_n,eTok_t,eTok_p,eTok_m]
theorem run_sign_bad (sg:List (List UInt8)) (ts:List Tok) (d:Nat):(W m e3 e4).run 107 [.bp 0 0,.osl 1 1 0 sg.length] [rdB ts d true,sgB sg]=some (.tup [bs [],bo false],[rdB ts d true,sgB sg]):=by
 refine run_wp (by rw [W_T]; exact rfl) ?_
 simp -dsimp -implicitDefEqProofs (maxSteps:=1000000) (disch:=omega) [ST,rdB,sgB]
end Go.Vai
namespace Go.Vai
variable {m:Int} {e3 e4:Value}
def RR (x:Rd) (d:Nat) (r:Option (AV × List (Option Blk))):Prop:=match x with
 | some p => r=some (ndA p.1,[rdB p.2 d false])
 | none => ∃ n ts',r=some (ndA n,[rdB ts' d true])
theorem run_want (s:List UInt8) (ts:List Tok) (d:Nat) (hd:d≤100) (hl:ts.length≤1000000000000):(W m e3 e4).run 280 [.bp 0 0,bs s] [rdB ts d false]=match takeS [s] ts with
 | some (_,r) => some (.tup [],[rdB r d false])
 | none => some (.tup [],[rdB ts d true]):=by
 have h:=run_sign (m:=m) (e3:=e3) (e4:=e4) [s] ts d (by simp) hd hl
 cases hs:takeS [s] ts with
 | none =>
  rw [hs] at h
  simp only [rdB,sgB,eS,List.map,List.length_cons,List.length_nil,Nat.zero_add] at h ⊢
  refine run_wp (by rw [W_T]; exact rfl) ?_
  simp -dsimp -implicitDefEqProofs (maxSteps:=1000000) (disch:=omega) [ST,h]
 | some p =>
  rw [hs] at h
  simp only [rdB,sgB,eS,List.map,List.length_cons,List.length_nil,Nat.zero_add] at h ⊢
  refine run_wp (by rw [W_T]; exact rfl) ?_
  simp -dsimp -implicitDefEqProofs (maxSteps:=1000000) (disch:=omega) [ST,h]
theorem run_want_bad (s:List UInt8) (ts:List Tok) (d:Nat):(W m e3 e4).run 280 [.bp 0 0,bs s] [rdB ts d true]=some (.tup [],[rdB ts d true]):=by
 have h:=run_sign_bad (m:=m) (e3:=e3) (e4:=e4) [s] ts d
 refine run_wp (by rw [W_T]; exact rfl) ?_
 simp only [rdB,sgB,eS,List.map,List.length_cons,List.length_nil,Nat.zero_add] at h ⊢
 simp -dsimp -implicitDefEqProofs (maxSteps:=1000000) (disch:=omega) [ST,h]
theorem ndA_mk (k n:Int) (t:List UInt8) (a b c d:Int) (l:List Nd):ndA (.mk k n t a b c d l)=.agg [i64 k,i64 n,bs t,i64 a,i64 b,i64 c,i64 d,.fz (.sl (eNds l))]:=rfl
theorem run_under (f:FuncId) (hf4 : @LT.lt Nat _ f 4096) (ts ts':List Tok) (d:Nat) (b:Bool) (n:Nd) (hd:d + 1≤32) (h:(W m e3 e4).run f [.bp 0 0] [rdB ts (d + 1) false]=some (ndA n,[rdB ts' (d + 1) b])) :
 (W m e3 e4).run 271 [.bp 0 0,.bm f [.bp 0 0]] [rdB ts d false]=some (ndA n,[rdB ts' d b]):=by
 obtain ⟨k,n,t,p1,p2,p3,p4,l⟩:=n
 refine run_wp (by rw [W_T]; exact rfl) ?_
 simp only [rdB,ndA_mk,Int.natCast_add,Int.natCast_one] at h ⊢
 simp -dsimp -implicitDefEqProofs (maxSteps:=1000000) (disch:=omega) [ST,h,hf4]
theorem run_under_deep (x:AV) (ts:List Tok) (d:Nat) (hd:d + 1 > 32) (hd2:d≤100) (bl:List (Option Blk)) (hx:x=.bm 62 [.bp 0 0]∨x=.bm 248 [.bp 0 0]) :
 (W m e3 e4).run 271 [.bp 0 0,x] [rdB ts d false]=some (ndA zNd,[rdB ts d true]):=by
 refine run_wp (by rw [W_T]; exact rfl) ?_
 rcases hx with rfl | rfl <;> simp only [rdB,zNd,ndA_mk] <;> simp -dsimp -implicitDefEqProofs (maxSteps:=1000000) (disch:=omega) [ST,eNds]
def cellM (a b:Int) (ts:List Tok):Rd:=match takeS [[58]] ts with
 | none => some (celN a b,ts)
 | some (_,.plc a2 b2 :: r3) => some (rngN a b a2 b2,r3)
 | some (_,_) => none
theorem run_cell (a b:Int) (ts:List Tok) (d:Nat) (hd:d≤100) (hl:ts.length≤1000000000000):RR (cellM a b ts) d ((W m e3 e4).run 281 [.bp 0 0,pl a b] [rdB ts d false]):=by
 have h:=run_sign (m:=m) (e3:=e3) (e4:=e4) [[58]] ts d (by simp) hd hl
 unfold cellM
 cases hs:takeS [[58]] ts with
 | none =>
  rw [hs] at h
  simp only [rdB,sgB,eS,List.map,List.length_cons,List.length_nil,Nat.zero_add] at h
  show _=_
  refine run_wp (by rw [W_T]; exact rfl) ?_
  simp only [rdB,celN,ndA_mk]
  simp -dsimp -implicitDefEqProofs (maxSteps:=1000000) (disch:=omega) [ST,h,eNds]
 | some p =>
  obtain ⟨s,r⟩:=p
  have hl2:=(takeS_len hs).1
  rw [hs] at h
  simp only [rdB,sgB,eS,List.map,List.length_cons,List.length_nil,Nat.zero_add] at h
  cases r with
  | nil =>
   refine ⟨zNd,[],?_⟩
   refine run_wp (by rw [W_T]; exact rfl) ?_
   simp only [rdB,zNd,ndA_mk]
   simp -dsimp -implicitDefEqProofs (maxSteps:=1000000) (disch:=omega) [ST,h,eNds]
  | cons t r =>
   have zr:((r.length:Int) + 1).toNat=r.length + 1:=by omega
   simp only at hl2
   rw [List.length_cons] at hl2
   cases t with
   | plc a2 b2 =>
    show _=_
    refine run_wp (by rw [W_T]; exact rfl) ?_
    simp only [rdB,rngN,ndA_mk]
    simp -dsimp -implicitDefEqProofs (maxSteps:=1000000) (disch:=omega) [ST,h,eNds,eTok_p,pureOp_slc,zr]
   | sign t =>
    refine ⟨zNd,.sign t :: r,?_⟩
    refine run_wp (by rw [W_T]; exact rfl) ?_
    simp only [rdB,zNd,ndA_mk]
    simp -dsimp -implicitDefEqProofs (maxSteps:=1000000) (disch:=omega) [ST,h,eNds,eTok_s]
   | num t =>
    refine ⟨zNd,.num t :: r,?_⟩
    refine run_wp (by rw [W_T]; exact rfl) ?_
    simp only [rdB,zNd,ndA_mk]
    simp -dsimp -implicitDefEqProofs (maxSteps:=1000000) (disch:=omega) [ST,h,eNds,eTok_n]
   | txt t =>
    refine ⟨zNd,.txt t :: r,?_⟩
    refine run_wp (by rw [W_T]; exact rfl) ?_
    simp only [rdB,zNd,ndA_mk]
    simp -dsimp -implicitDefEqProofs (maxSteps:=1000000) (disch:=omega) [ST,h,eNds,eTok_t]
   | name t =>
    refine ⟨zNd,.name t :: r,?_⟩
    refine run_wp (by rw [W_T]; exact rfl) ?_
    simp only [rdB,zNd,ndA_mk]
    simp -dsimp -implicitDefEqProofs (maxSteps:=1000000) (disch:=omega) [ST,h,eNds,eTok_m]
end Go.Vai
namespace Go.Vai
variable {m:Int} {e3 e4:Value}
theorem run_wpE {v:Env} {f:FuncId} {n np:Nat} {res:List LRes} {own:Bool} {ent fin:List Co} {body:LCode} (hT:v.T f=some ⟨n,np,res,own,none,ent,fin,body⟩) {xs:List AV} {bl:List (Option Blk)} {P:AV × List (Option Blk)→Prop}
 (h:v.wp bl.length body (coSts ent { sl:=slots0 0 xs,hp:=numd 0 bl,nx:=bl.length }) (fun e s => ∃ R,P R∧doneQ res own fin bl.length R .mk e s) .mk) : ∃ R,P R∧v.run f xs bl=some R:=by
 rw [v.run_code hT rfl]
 obtain ⟨r,s,e,R,hP,q⟩:=h
 rw [e]
 refine ⟨R,hP,?_⟩
 cases r with
 | nor => exact q
 | ret => exact q
 | exit i => exact q.elim
def RP (x:Rd) (d:Nat) (tl:List (Option Blk)) (R:AV × List (Option Blk)):Prop:=match x with
 | some p => R=(ndA p.1,rdB p.2 d false :: tl)
 | none => ∃ n ts',R=(ndA n,rdB ts' d true :: tl)
theorem RR_iff (x:Rd) (d:Nat) (r:Option (AV × List (Option Blk))):RR x d r↔∃ R,RP x d [] R∧r=some R:=by
 unfold RR RP
 cases x with
 | none =>
  constructor
  ·rintro ⟨n,ts',h⟩; exact ⟨_,⟨n,ts',rfl⟩,h⟩
  ·rintro ⟨R,⟨n,ts',rfl⟩,h⟩; exact ⟨n,ts',h⟩
 | some p =>
  constructor
  ·intro h; exact ⟨_,rfl,h⟩
  ·rintro ⟨R,rfl,h⟩; exact h
def hd7:Nd→List AV
 | .mk k n t a b c d _ => [i64 k,i64 n,bs t,i64 a,i64 b,i64 c,i64 d]
def argsOf:Nd→List Nd
 | .mk _ _ _ _ _ _ _ l => l
@[simp] theorem eNd_len (n : Nd) : (eNd n).length = 8 := by cases n; rfl
structure Row86 where
 n:Nd
 ts:List Tok
 b:Bool
 j:Nat
 o:Bool
def S86 (f:FuncId) (sg:List (List UInt8)) (d:Nat) (x:Row86):St :=
 { sl := [(0, .bp 0 0), (1, .bm f [.bp 0 0]), (2, .osl 1 1 0 sg.length), (6, .bp 2 0), (7, .bp 3 0)],
   hp:=[(0,rdB x.ts d x.b),(1,sgB sg),(2,some (.box [i64 0,i64 0,bs [],i64 0,i64 0,i64 0,i64 0,.emp])),(3,some (.box (hd7 x.n ++ [if x.o=true then .osl 4 8 0 (argsOf x.n).length else .fz (.sl (eNds (argsOf x.n)))])))] ++ (if x.o=true then [(4,some (.arr 8 (eNds (argsOf x.n))))] else []),nx:=if x.o=true then 5 else 4 }
def I86 (part:List Tok→Rd) (sg:List (List UInt8)) (N:Nat) (X:Rd) (x:Row86):Prop :=
 (x.o=true→∃ s a b,x.n=op2 s a b)∧match x.b with
 | false => x.ts.length≤x.j∧x.ts.length≤N∧pRow part sg x.j x.n x.ts=X
 | true => X=none
def rowM (part:List Tok→Rd) (sg:List (List UInt8)) (ts:List Tok):Rd:=match part ts with
 | none => none
 | some (n,ts1) => pRow part sg ts1.length n ts1
theorem run_row (f:FuncId) (hf4 : @LT.lt Nat _ f 4096) (part:List Tok→Rd) (sg:List (List UInt8)) (d N:Nat) (hn:sg.length≤100) (hd:d≤100) (hN:N≤1000000000000)
 (hlen : ∀ ts n ts',part ts=some (n,ts')→ts'.length < ts.length)
 (hp : ∀ ts:List Tok,ts.length≤N→RR (part ts) d ((W m e3 e4).run f [.bp 0 0] [rdB ts d false])) (ts:List Tok) (hl:ts.length≤N) :
 ∃ R,RP (rowM part sg ts) d [sgB sg] R∧(W m e3 e4).run 147 [.bp 0 0,.bm f [.bp 0 0],.osl 1 1 0 sg.length] [rdB ts d false,sgB sg]=some R:=by
 refine run_wpE (by rw [W_T]; exact rfl) ?_
 have h0:=hp ts hl
 unfold rowM
 generalize hX:(match part ts with
  | none => (none:Rd)
  | some (n,ts1) => pRow part sg ts1.length n ts1)=X
 have key : ∃ n1 ts1 b,(W m e3 e4).run f [.bp 0 0] [rdB ts d false]=some (ndA n1,[rdB ts1 d b])∧I86 part sg N X ⟨n1,ts1,b,ts1.length,false⟩:=by
  cases hpt:part ts with
  | none =>
   rw [hpt] at h0 hX
   obtain ⟨n1,ts1,h⟩:=h0
   exact ⟨n1,ts1,true,h,by simp,hX.symm⟩
  | some p =>
   obtain ⟨n1,ts1⟩:=p
   rw [hpt] at h0 hX
   have:=hlen _ _ _ hpt
   exact ⟨n1,ts1,false,h0,by simp,Nat.le_refl _,by simp only; omega,hX⟩
 obtain ⟨n1,ts1,b,h1,hI⟩:=key
 obtain ⟨k,n,t,p1,p2,p3,p4,l⟩:=n1
 simp only [rdB,sgB,ndA_mk] at h1 ⊢
 simp -dsimp -implicitDefEqProofs (maxSteps:=1000000) (disch:=omega) [ST,h1,hf4]
 refine wp_inv (S86 f sg d) (I86 part sg N X) (fun x => if x.b=true then 0 else x.ts.length + 1) ⟨.mk k n t p1 p2 p3 p4 l,ts1,b,ts1.length,false⟩ hI (by simp -dsimp -implicitDefEqProofs (maxSteps:=1000000) (disch:=omega) [ST,S86,rdB,sgB,hd7,argsOf]) ?_
 rintro ⟨n0,ts1,b,j,o⟩ ⟨hO,hI⟩
 have shape : ∃ k n t p1 p2 p3 p4 l,n0=.mk k n t p1 p2 p3 p4 l∧(o=true→∃ a b,l=[a,b]):=by
  cases o with
  | true =>
   obtain ⟨s,a,b,h⟩:=hO rfl
   exact ⟨_,_,_,_,_,_,_,_,h,fun _ => ⟨a,b,rfl⟩⟩
  | false =>
   cases n0
   exact ⟨_,_,_,_,_,_,_,_,rfl,fun h => by cases h⟩
 obtain ⟨k,n,t,p1,p2,p3,p4,l,rfl,hl2⟩:=shape
 clear hO
 cases b with
 | true =>
  have hX:X=none:=hI
  subst hX
  have hs:=run_sign_bad (m:=m) (e3:=e3) (e4:=e4) sg ts1 d
  simp only [rdB,sgB] at hs
  cases o with
  | true =>
   obtain ⟨a,b,rfl⟩:=hl2 rfl
   simp -dsimp -implicitDefEqProofs (maxSteps:=1000000) (disch:=omega) [ST,S86,rdB,sgB,hd7,argsOf,hs,eNds]
   exact ⟨.mk k n t p1 p2 p3 p4 [a,b],ts1,rfl⟩
  | false =>
   simp -dsimp -implicitDefEqProofs (maxSteps:=1000000) (disch:=omega) [ST,S86,rdB,sgB,hd7,argsOf,hs]
   exact ⟨.mk k n t p1 p2 p3 p4 l,ts1,rfl⟩
 | false =>
  obtain ⟨g1,g2,g3⟩:=hI
  simp only at g1 g2 g3
  have hs:=run_sign (m:=m) (e3:=e3) (e4:=e4) sg ts1 d hn hd (by omega)
  cases htk:takeS sg ts1 with
  | none =>
   rw [htk] at hs
   simp only [rdB,sgB] at hs
   have hX:X=some (.mk k n t p1 p2 p3 p4 l,ts1):=by
    rw [← g3]
    cases j with
    | zero => rfl
    | succ j => rw [pRow,htk]
   subst hX
   cases o with
   | true =>
    obtain ⟨a,b,rfl⟩:=hl2 rfl
    simp -dsimp -implicitDefEqProofs (maxSteps:=1000000) (disch:=omega) [ST,S86,rdB,sgB,hd7,argsOf,hs,eNds]
    rfl
   | false =>
    simp -dsimp -implicitDefEqProofs (maxSteps:=1000000) (disch:=omega) [ST,S86,rdB,sgB,hd7,argsOf,hs]
    rfl
  | some q =>
   obtain ⟨s,r⟩:=q
   have hl3:=(takeS_len htk).1
   simp only at hl3
   rw [htk] at hs
   simp only [rdB,sgB] at hs
   obtain ⟨j,rfl⟩ : ∃ j',j=j' + 1:=⟨j - 1,by omega⟩
   rw [pRow,htk] at g3
   simp only at g3
   have h2:=hp r (by omega)
   have key : ∃ n2 ts2 b2,(W m e3 e4).run f [.bp 0 0] [rdB r d false]=some (ndA n2,[rdB ts2 d b2])∧I86 part sg N X ⟨op2 s (.mk k n t p1 p2 p3 p4 l) n2,ts2,b2,j,true⟩∧(if b2=true then 0 else ts2.length + 1) < ts1.length + 1:=by
    cases hpt:part r with
    | none =>
     rw [hpt] at h2 g3
     obtain ⟨n2,ts2,h⟩:=h2
     exact ⟨n2,ts2,true,h,⟨fun _ => ⟨_,_,_,rfl⟩,g3.symm⟩,by simp⟩
    | some p =>
     obtain ⟨n2,ts2⟩:=p
     rw [hpt] at h2 g3
     have:=hlen _ _ _ hpt
     exact ⟨n2,ts2,false,h2,⟨fun _ => ⟨_,_,_,rfl⟩,by simp only; omega,by simp only; omega,g3⟩,by simp; omega⟩
   obtain ⟨n2,ts2,b2,h3,hI2,hmu⟩:=key
   obtain ⟨k',n',t',q1,q2,q3,q4,l'⟩:=n2
   simp only [rdB,ndA_mk] at h3
   cases o with
   | true =>
    obtain ⟨a,b,rfl⟩:=hl2 rfl
    simp -dsimp -implicitDefEqProofs (maxSteps:=1000000) (disch:=omega) [ST,S86,rdB,sgB,hd7,argsOf,hs,h3,hf4,eNds]
    refine again ⟨op2 s (.mk k n t p1 p2 p3 p4 [a,b]) (.mk k' n' t' q1 q2 q3 q4 l'),ts2,b2,j,true⟩ hI2 (by simpa using hmu) (by simp -dsimp -implicitDefEqProofs (maxSteps:=1000000) (disch:=omega) [ST,S86,rdB,sgB,hd7,argsOf,op2,eNds,eNd])
   | false =>
    simp -dsimp -implicitDefEqProofs (maxSteps:=1000000) (disch:=omega) [ST,S86,rdB,sgB,hd7,argsOf,hs,h3,hf4]
    refine again ⟨op2 s (.mk k n t p1 p2 p3 p4 l) (.mk k' n' t' q1 q2 q3 q4 l'),ts2,b2,j,true⟩ hI2 (by simpa using hmu) (by simp -dsimp -implicitDefEqProofs (maxSteps:=1000000) (disch:=omega) [ST,S86,rdB,sgB,hd7,argsOf,op2,eNds,eNd])
end Go.Vai
