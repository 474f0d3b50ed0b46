/-
  A part of the abstract run of Go functions and of the proof that it tells the truth.
-/
import Derived.Test.YtljbbcpahapmnaaGreatDoorVa3
set_option linter.unusedVariables false
set_option linter.unusedSimpArgs false
namespace Go.Vai
def compX:Operand→LX
 | .tmp t => .tm t
 | .const (.func (.func f) ⟨[]⟩ ⟨[]⟩) => .fu f
 | .const v => .cn v
 | .global g => .gl g
 | .func f => .fu f
def agT (P:Program) (t:TypeId):Option (Option Nat) :=
 match P.underlying t with
 | some (.struct _) => (P.info? t).map fun i => some i.size
 | some (.array _ _) => (P.info? t).map fun i => some i.size
 | some _ => some none
 | none => none
def zeroC (P:Program) (t:TypeId):Option (List Value) :=
 match P.info? t with
 | some i => match i.zero with
  | some v => if v.cells.toList.all leafV=true then some v.cells.toList else none
  | none => none
 | none => none
def bldC (P : Program) (e : TypeId) : Option TypeId :=
 match zeroC P e with
 | some [.pointer none, .slice none 0 0] => match P.underlying e with
  | some (.struct fs) => match fs[1]? with
   | some f => match P.underlying f.type with
    | some (.slice u) => some u
    | _ => none
   | none => none
  | _ => none
 | _ => none
def sizeC (P:Program) (t:TypeId):Option Nat:=(P.info? t).map (·.size)
def fieldKinds (P:Program):Nat→List Field→Option (List Nat)
 | _,[] => some []
 | i, f :: r => if f.name ≠ "_" ∧ f.offset = i then
  match P.underlying f.type,fieldKinds P (i + 1) r with
  | some (.int _),some l => some (0 :: l)
  | some .string,some l => some (1 :: l)
  | some .bool,some l => some (2 :: l)
  | _,_ => none
  else none
def fieldKinds2 (P : Program) : Nat → List Field → Option (List Nat)
 | _,[] => some []
 | i, f :: r => match fieldKinds P i [f] with
  | some l => match fieldKinds2 P (i + 1) r with
   | some m => some (l ++ m)
   | none => none
  | none => if f.name ≠ "_" ∧ f.offset = i ∧ P.stoodInHeld f.type = false then
   match P.underlying f.type,sizeC P f.type with
   | some (.struct gs), some n => match fieldKinds P 0 gs.toList with
    | some l => if l.length=n then
     match fieldKinds2 P (i + n) r with
     | some m => some (l ++ m)
     | none => none
     else none
    | none => none
   | _,_ => none
   else none
def nilK (P:Program) (t:TypeId):Operand→Option Nat
 | .const (.slice none 0 0) => match P.underlying t with
  | some (.slice _) => some 0
  | _ => none
 | .const (.pointer none) => match P.underlying t with
  | some (.pointer _) => some 1
  | _ => none
 | .const .nilFunc => match P.underlying t with
  | some (.func _ _ _) => some 2
  | _ => none
 | .const .nilIface => match P.underlying t with
  | some (.interface _) => some 3
  | _ => none
 | _ => none
def compNil (P:Program) (ng:Bool) (t:TypeId) (x y:Operand):Option LOp :=
 match nilK P t y with
 | some k => some (.isnil k ng (compX x))
 | none => match nilK P t x with
  | some k => some (.isnil k ng (compX y))
  | none => none
def compBin (P:Program) (op:BinOp) (t:TypeId) (x y:Operand):Option LOp :=
 match P.underlying t with
 | some (.int _) => some (.bin op (compX x) (compX y))
 | some .string => some (.bin op (compX x) (compX y))
 | some .bool => if op=.eql then some (.beq false (compX x) (compX y)) else if op=.neq then some (.beq true (compX x) (compX y)) else none
 | some (.struct fs) => match fieldKinds2 P 0 fs.toList with
  | some ks => if P.stoodInHeld t=false∧P.eqGuardType P.depth t=false then
   (if op=.eql then some (.eqs ks false (compX x) (compX y)) else if op=.neq then some (.eqs ks true (compX x) (compX y)) else none)
   else none
  | none => none
 | some _ => if op=.eql then compNil P false t x y else if op=.neq then compNil P true t x y else none
 | none => none
def isByte (P:Program) (e:TypeId):Bool:=match P.underlying e with
 | some (.int .u8) => true
 | _ => false
def compConv (P:Program) (src dst:TypeId) (x:Operand):Option LOp :=
 match P.underlying src,P.underlying dst with
 | some (.int _),some (.int k) => some (.conv k (compX x))
 | some (.int _),some .string => some (.i2s (compX x))
 | some .string,some .string => some (.s2s (compX x))
 | some .string,some (.slice e) => if isByte P e then some (.s2b (compX x)) else none
 | some (.slice e),some .string => if isByte P e then some (.b2s (compX x)) else none
 | some (.slice _),some (.slice e) => if src=dst∧isByte P e then some (.cv2 (compX x)) else none
 | _,_ => none
def compParts (P:Program) (place:Nat→Option (Nat × Nat)):List (Nat × Operand)→Option (List (Nat × Nat × LX))
 | [] => some []
 | (i,x) :: r => match place i,compParts P place r with
  | some (o,n),some l => some ((o,n,compX x) :: l)
  | _,_ => none
def keyK (P:Program) (t:TypeId):Option (Nat × TypeId) :=
 match P.underlying t with
 | some (.map k e) => match P.underlying k with
  | some (.int _) => some (0,e)
  | some .string => some (1,e)
  | some (.struct fs) => if fieldKinds P 0 fs.toList=some [0,0]∧P.stoodInHeld k=false then some (3,e) else none
  | _ => none
 | _ => none
def compBuiltin (P:Program) (b:Builtin) (ts:List TypeId) (xs:List Operand):Option LOp :=
 match b,ts,xs with
 | .len, [t], [x] => match P.underlying t with
  | some .string => some (.slen (compX x))
  | some (.slice _) => some (.len (compX x))
  | some (.array n _) => some (.alen n)
  | some (.pointer a) => match P.underlying a with
   | some (.array n _) => some (.alen n)
   | _ => none
  | _ => none
 | .max,_,xs => some (.mx (xs.map compX))
 | .min,_,xs => some (.mn (xs.map compX))
 | .append, [t, u], [s, x] => match P.underlying t with
  | some (.slice e) => match P.underlying u,P.info? e with
   | some (.slice e'),some i => if 0 < i.size∧0 < i.bytes∧(zeroC P e).map List.length=some i.size then some (.app i.size i.bytes false (compX s) (compX x)) else none
   | some .string,some i => if i.size=1∧0 < i.bytes∧(zeroC P e).map List.length=some i.size then some (.app i.size i.bytes true (compX s) (compX x)) else none
   | _,_ => none
  | _ => none
 | .copy, [t, u], [d, x] => match P.underlying t with
  | some (.slice e) => match sizeC P e with
   | some n => if 0 < n then some (.cpy n (compX d) (compX x)) else none
   | none => none
  | _ => none
 | .clear, [t], [x] => match P.underlying t with
  | some (.slice e) => match sizeC P e,zeroC P e with
   | some n,some z => if 0 < n∧z.length=n then some (.clr n z (compX x)) else none
   | _,_ => none
  | _ => none
 | .delete,[t,u],[m,k] => match keyK P t with
  | some q => some (.mdel q.1 (compX m) (compX k))
  | none => none
 | _,_,_ => none
def compFields (P:Program) (fs:Array Field) (i:Nat):Option (Nat × Nat) :=
 match fs[i]? with
 | some f => (sizeC P f.type).map fun n => (f.offset,n)
 | none => none
def methK (P : Program) (name : String) (t : TypeId) : Option FuncId :=
 match P.info? t with
 | some i => match P.underlying t with
  | some (.struct _) => match i.methods.find? (·.name == name) with
   | some m => match m.func with
    | some (f,false) => if m.path.isEmpty=true∧f < 4096 then some f else none
    | _ => none
   | none => none
  | _ => none
 | none => none
def methT (P:Program) (name:String):List TypeId→List (TypeId × FuncId)
 | [] => []
 | t :: r => match methK P name t with
  | some f => (t,f) :: methT P name r
  | none => methT P name r
def zero1 (P:Program) (t:TypeId):Option Value :=
 match P.info? t with
 | some i => match i.zero with
  | some v => if leafV v=true then some v else none
  | none => none
 | none => none
def compOp (P : Program) (o : Op) : Option LOp :=
 match o with
 | .move x => some (.mov (compX x))
 | .assign x => some (.mov (compX x))
 | .pick c a b => some (.pick (compX c) (compX a) (compX b))
 | .alloc e => match bldC P e with
  | some u => some (.abld e u)
  | none => (zeroC P e).map .alloc
 | .box e x => some (.box (compX x))
 | .load t a => (agT P t).map fun g => .load g (compX a)
 | .store t a x => match sizeC P t with
  | some n => some (.store n (compX a) (compX x))
  | none => none
 | .binOp op t x y _ => compBin P op t x y
 | .unOp op _ x => some (.un op (compX x))
 | .convert s d x => compConv P s d x
 | .makeSlice t l c => match P.underlying t with
  | some (.slice e) => match P.info? e,zeroC P e with
   | some i,some z => if 0 < i.bytes∧0 < i.size∧z.length=i.size then some (.mks i.size i.bytes z (compX l) (compX c)) else none
   | _,_ => none
  | _ => none
 | .slice t x lo hi mx => match P.underlying t with
  | some .string => if mx.isNone then some (.slcs (compX x) (lo.map compX) (hi.map compX)) else none
  | some (.slice e) => match sizeC P e with
   | some n => if 0 < n then some (.slc n (compX x) (lo.map compX) (hi.map compX) (mx.map compX)) else none
   | none => none
  | some (.array n e) => if sizeC P e=some 1∧mx.isNone=true then some (.slca n (compX x) (lo.map compX) (hi.map compX)) else none
  | _ => none
 | .fieldAddr s x k => match P.underlying s with
  | some (.struct fs) => match fs[k]? with
   | some f => match sizeC P f.type with
    | some n => if 0 < n then some (.fld (compX x) f.offset) else none
    | none => none
   | none => none
  | _ => none
 | .field s x k => match P.underlying s with
  | some (.struct fs) => match fs[k]? with
   | some f => (agT P f.type).map fun g => .field g (compX x) f.offset
   | none => none
  | _ => none
 | .indexAddr t x i => match P.underlying t with
  | some (.slice e) => match sizeC P e with
   | some n => if 0 < n then some (.ixa n (compX x) (compX i)) else none
   | none => none
  | some (.array m e) => match sizeC P e with
   | some n => if 0 < n then some (.ixp m n (compX x) (compX i)) else none
   | none => none
  | _ => none
 | .index t x i => match P.underlying t with
  | some .string => some (.ixs (compX x) (compX i))
  | some (.array m e) => match sizeC P e,agT P e with
   | some n,some g => some (.ixv m n g (compX x) (compX i))
   | _,_ => none
  | _ => none
 | .extract x i => some (.ext (compX x) i)
 | .makeFunc (.func f) ⟨[]⟩ caps => some (.mkf f (caps.toList.map compX))
 | .makeFunc (.func f) ⟨x :: xs⟩ ⟨[]⟩ => some (.mkb f ((x :: xs).map compX))
 | .makeInterface t x => match P.underlying t with
  | some (.struct _) => some (.mki t (compX x))
  | _ => none
 | .typeAssert x _ t true => match P.underlying t, P.info? t with
  | some (.struct _),some i => match i.zero with
   | some (.agg cs) => some (.tas t cs.toList (compX x))
   | _ => none
  | _,_ => none
 | .nilCheck x => some (.nilchk (compX x))
 | .build t ps => match P.underlying t, zeroC P t with
  | some (.struct fs),some z => if fs.toList.all (fun f => (sizeC P f.type).isSome) then (compParts P (compFields P fs) ps.toList).map fun l => .build z l else none
  | some (.array _ e),some z => match sizeC P e with
   | some n => (compParts P (fun i => some (i * n,n)) ps.toList).map fun l => .build z l
   | none => none
  | _,_ => none
 | .buildSlice t len ps => match P.underlying t with
  | some (.slice e) => match sizeC P e,zeroC P e with
   | some n,some z => if 0 < n∧z.length=n∧len * n≤16777216 then some (.bsl n z len (ps.toList.map fun p => (p.1,compX p.2))) else none
   | _,_ => none
  | _ => none
 | .makeMap _ none => some .mkm
 | .mapUpdate t m k x => (keyK P t).map fun q => .mset q.1 (compX m) (compX k) (compX x)
 | .insert t m k x => (keyK P t).map fun q => .mset q.1 (compX m) (compX k) (compX x)
 | .lookup t m k comma => match keyK P t with
  | some (q,e) => (zero1 P e).map fun z => .mget q [z] comma (compX m) (compX k)
  | none => none
 | .range t m => (keyK P t).map fun _ => .mrng (compX m)
 | .entry it => some (.ment (compX it))
 | .next it false => some (.nxt (compX it))
 | .call { callee:=.builtin b,args:=xs,argTypes:=ts } => compBuiltin P b ts.toList xs.toList
 | .call { callee:=.value f,args:=xs,argTypes:=_ } => some (.call (compX f) (xs.toList.map compX))
 | .call { callee:=.invoke x name,args:=xs,argTypes:=_ } => some (.inv (methT P name (List.range P.types.size)) (compX x) (xs.toList.map compX))
 | _ => none
def compOper (P:Program) (ops:Array Oper) (N:Nat) (o:Oper):Option LOper :=
 let l:=(compOp P o.op).getD .bad
 if o.dst.all (· < N) then match o.guard with
  | none => some ⟨o.dst,l,none⟩
  | some (j,want) => match (ops[j]?).bind (·.dst) with
   | some d => some ⟨o.dst,l,some (d,want)⟩
   | none => none
  else none
def compOpers (P:Program) (ops:Array Oper) (N:Nat):List Oper→Option (List LOper)
 | [] => some []
 | o :: r => match compOper P ops N o,compOpers P ops N r with
  | some l,some ls => some (l :: ls)
  | _,_ => none
def LOp.ro:LOp→Bool
 | .load _ _ => true
 | .b2s _ => true
 | .lcall _ _ => true
 | _ => false
def LOp.mkOnly:LOp→Bool
 | .alloc _ => true
 | .abld _ _ => true
 | .box _ => true
 | .mks _ _ _ _ _ => true
 | .s2b _ => true
 | .mksr _ _ _ _ _ => true
 | .mkm => true
 | _ => false
def LOp.isCall:LOp→Bool
 | .call _ _ => true
 | .inv _ _ _ => true
 | _ => false
def heedful (a b:LOp):Bool:=a.isHeap && b.isHeap && !(a.ro && b.ro) && !(a.mkOnly && b.mkOnly)
def LOp.xs:LOp→List LX
 | .mov x => [x]
 | .pick c a b => [c,a,b]
 | .bin _ x y => [x,y]
 | .beq _ x y => [x,y]
 | .eqs _ _ x y => [x,y]
 | .isnil _ _ x => [x]
 | .un _ x => [x]
 | .conv _ x => [x]
 | .i2s x => [x]
 | .s2s x => [x]
 | .slen x => [x]
 | .len x => [x]
 | .alen _ => []
 | .mx xs => xs
 | .mn xs => xs
 | .fld p _ => [p]
 | .ixa _ x i => [x,i]
 | .ixp _ _ p i => [p,i]
 | .ixs x i => [x,i]
 | .ixv _ _ _ x i => [x,i]
 | .field _ x _ => [x]
 | .build _ ps => ps.map fun p => p.2.2
 | .slc _ x lo hi q => x :: (lo.toList ++ hi.toList ++ q.toList)
 | .slcs x lo hi => x :: (lo.toList ++ hi.toList)
 | .ext x _ => [x]
 | .mkf _ caps => caps
 | .nilchk x => [x]
 | .alloc _ => []
 | .abld _ _ => []
 | .box x => [x]
 | .load _ p => [p]
 | .store _ p x => [p,x]
 | .bsl _ _ _ ps => ps.map fun p => p.2
 | .mks _ _ _ l c => [l,c]
 | .app _ _ _ s x => [s,x]
 | .cpy _ d x => [d,x]
 | .clr _ _ x => [x]
 | .cv2 x => [x]
 | .slca _ x lo hi => x :: (lo.toList ++ hi.toList)
 | .bad => []
 | .s2b x => [x]
 | .b2s x => [x]
 | .call f xs => f :: xs
 | .mkm => []
 | .mset _ m k x => [m,k,x]
 | .mget _ _ _ m k => [m,k]
 | .mrng m => [m]
 | .ment it => [it]
 | .nxt it => [it]
 | .loadr p => [p]
 | .bslr _ _ _ ps => ps.map fun p => p.2
 | .mksr _ _ _ l c => [l,c]
 | .lcall f xs => f :: xs
 | .mdel _ m k => [m,k]
 | .mki _ x => [x]
 | .tas _ _ x => [x]
 | .mkb _ fst => fst
 | .inv _ x xs => x :: xs
def LX.tmps:List LX→List Nat
 | [] => []
 | .tm n :: r => n :: LX.tmps r
 | _ :: r => LX.tmps r
def LOper.uses (o:LOper):List Nat:=match o.gd with
 | some (g,_) => g :: LX.tmps o.op.xs
 | none => LX.tmps o.op.xs
def LOper.apart (a b:LOper):Bool :=
 (match a.dst with
  | some d => !b.uses.contains d && !(b.dst == some d)
  | none => true) &&
 (match b.dst with
  | some d => !a.uses.contains d
  | none => true)
def openPairs (ops:Array Oper):List (Nat × Nat) :=
 let b:=Region.before ops
 (List.range ops.size).flatMap fun j => ((List.range j).filter fun i => !(b.getD j 0).testBit i).map fun i => (i,j)
def pairOk (ops:Array Oper) (ls:List LOper) (prs:List (Nat × Nat)) (p:Nat × Nat):Bool :=
 match ops[p.1]?,ops[p.2]?,ls[p.1]?,ls[p.2]? with
 | some x,some y,some a,some b => a.apart b && !(a.op.isCall && b.op.isCall) && (!heedful a.op b.op || prs.contains p)
 | _,_,_,_ => false
def heedPairs (ops:Array Oper) (ls:List LOper):List (Nat × Nat) :=
 (openPairs ops).filter fun p => match ls[p.1]?,ls[p.2]? with
   | some a,some b => heedful a.op b.op
   | _,_ => false
def backEdges (ops:Array Oper):Bool:=ops.toList.zipIdx.all fun (o,i) => o.after.all fun e => !Region.binds .any e || decide (e.on < i)
abbrev Hints:=List (List Co × List Nat)
def lkp:List (Nat × List Co)→Nat→List Co
 | [],_ => []
 | (i,c) :: r,k => if i=k then c else lkp r k
def nxtOps:List LOper→Option (Nat × Nat × Nat)
 | [a, b] => match a with
  | ⟨some nx,.nxt (.tm it),none⟩ => match b with
   | ⟨some more,.ext (.tm nx2) 0,none⟩ => if nx=nx2∧nx≠it∧more≠it∧nx≠more then some (nx,more,it) else none
   | _ => none
  | _ => none
 | _ => none
def notRng:LCode→Bool
 | .rng _ _ _ _ _ _ _ _ => false
 | .pre _ (.rng _ _ _ _ _ _ _ _) => false
 | _ => true
def rngBody:LCode→Option (Nat × Nat × Nat × Nat × LCode)
 | .seq (.ops l) (.seq (.cond (.tm t) .skip (.exit out)) b) => match nxtOps l with
  | some (nx,more,it) => if t=more∧notRng b=true then some (nx,more,it,out,b) else none
  | none => none
 | _ => none
def rngLoop:LCode→Option (List Co × List Nat × Nat × Nat × Nat × Nat × LCode)
 | .loop live b => (rngBody b).map fun q => ([],live,q)
 | .pre (c :: cs) (.loop live b) => (rngBody b).map fun q => (c :: cs,live,q)
 | _ => none
def varOp:LOp→LOp
 | .bsl sz z len ps => .bslr sz z len ps
 | .mks sz b z l c => .mksr sz b z l c
 | .load none p => .loadr p
 | .call f xs => .lcall f xs
 | o => o
def varAt:Nat→List LOper→List LOper
 | _,[] => []
 | 0,o :: r => { o with op:=varOp o.op } :: r
 | n + 1,o :: r => o :: varAt n r
def varOps:List Co→List LOper→List LOper
 | [],l => l
 | .rowop i :: cs,l => varOps cs (varAt i l)
 | .lend i :: cs,l => varOps cs (varAt i l)
 | _ :: cs,l => varOps cs l
def withCo (cs:List Co) (c:LCode):LCode:=match cs with
 | [] => c
 | cs => .pre cs c
def fuse (x y:LCode) (lv:Hints):LCode × Hints :=
 match x,lv with
 | .seq R (.block out l),(_,live2) :: lv3 => match rngLoop l with
  | some (cs,live,nx,more,it,out2,b) => if out=out2 then (.seq R (withCo cs (.rng live nx more it out b y live2)),lv3) else (.seq x y,lv)
  | none => (.seq x y,lv)
 | _,_ => (.seq x y,lv)
def kid:Code→Nat→Option Code
 | .seq a _,0 => some a
 | .seq _ b,1 => some b
 | .cond _ a _,0 => some a
 | .cond _ _ b,1 => some b
 | .block _ b,0 => some b
 | .loop b,0 => some b
 | _,_ => none
def nav (c:Code):Nat→Nat→Option Code
 | 0,_ => none
 | n + 1,p => if p=1 then some c else match nav c n (p / 2) with
  | some d => kid d (p % 2)
  | none => none
def rcOf (P:Program):RC:=fun pf => match P.funcs[pf % 4096]? with
 | some fn => match fn.body with
  | some b => match nav b (pf / 4096 + 1) (pf / 4096) with
   | some (.rangeFunc _ ps as bd) => some (fn.ntmps,ps,as,bd)
   | _ => none
  | none => none
 | none => none
def lends:List Co→List Nat
 | [] => []
 | .lend i :: r => i :: lends r
 | _ :: r => lends r
def hasBody (P:Program) (f:FuncId):Bool:=match P.funcs[f]? with
 | some fn => fn.body.isSome && !(fn.name == "runtime.NumGoroutine")
 | none => false
abbrev Pos:=Option (FuncId × Nat)
def Pos.go (q:Pos) (i:Nat):Pos:=q.map fun x => (x.1,2 * x.2 + i)
def compC (P:Program) (N:Nat) (pr:List (Nat × List Co)):Pos→Code→Hints→Option (LCode × Hints)
 | _,.skip,lv => some (.skip,lv)
 | _,.region id ops false,lv => match compOpers P ops N ops.toList with
  | some l => some (withCo (lkp pr id) (.ops (varOps (lkp pr id) l)),lv)
  | none => none
 | _,.region id ops true,lv => match (compOpers P ops N ops.toList).map (varOps (lkp pr id)) with
  | some l => if (openPairs ops).all (pairOk ops l (heedPairs ops l)) && backEdges ops then some (withCo (lkp pr id) (.draw l (heedPairs ops l)),lv) else none
  | none => none
 | q, .seq a b, lv => match compC P N pr (q.go 0) a lv with
  | some (x,lv1) => match compC P N pr (q.go 1) b lv1 with
   | some (y,lv2) => some (fuse x y lv2)
   | none => none
  | none => none
 | q, .cond c a b, lv => match compC P N pr (q.go 0) a lv with
  | some (x,lv1) => match compC P N pr (q.go 1) b lv1 with
   | some (y,lv2) => some (.cond (compX c) x y,lv2)
   | none => none
  | none => none
 | q,.block id b,lv => match compC P N pr (q.go 0) b lv with
  | some (x,lv1) => some (.block id x,lv1)
  | none => none
 | q,.loop b,(cs,l) :: lv => match compC P N pr (q.go 0) b lv with
  | some (x,lv1) => some (withCo cs (.loop l x),lv1)
  | none => none
 | some q,.rangeFunc g _ _ _,(cs,l) :: lv => if (lends cs).all (hasBody P)=true∧1≤q.2 then some (withCo cs (.rfn (compX g) (4096 * q.2 + q.1) l (lends cs)),lv) else some (.bad,lv)
 | _,.exit id,lv => some (.exit id,lv)
 | _,.ret,lv => some (.ret,lv)
 | _,_,lv => some (.bad,lv)
def compRes (P:Program):List ResultVar→Option (List LRes)
 | [] => some []
 | .tmp t :: r => match compRes P r with
  | some l => some (.t t :: l)
  | none => none
 | .cell a t :: r => match agT P t,compRes P r with
  | some g,some l => some (.cell a g :: l)
  | _,_ => none
structure Hint where
 own:Bool
 pr:List (Nat × List Co)
 lv:Hints
 ent:List Co
 fin:List Co
def compF (P:Program) (f:FuncId) (fn:Func) (h:Hint):Option LFunc :=
 match fn.body with
 | some b => match compC P fn.ntmps h.pr (some (f,1)) b h.lv,compRes P fn.results.toList with
  | some (c,[]),some r => if fn.params.size≤fn.ntmps∧f < 4096 then some ⟨fn.ntmps,fn.params.size,r,h.own,none,h.ent,h.fin,c⟩ else none
  | _,_ => none
 | none => none
def noEx:LCode→Bool
 | .skip => true
 | .ops _ => true
 | .draw _ _ => true
 | .pre _ c => noEx c
 | .seq a b => noEx a && noEx b
 | _ => false
def compR (P:Program) (pf:FuncId) (h:Hint):Option LFunc :=
 match rcOf P pf with
 | some (N, ps, as, bd) => match compC P N h.pr none as h.lv with
  | some (a,lv) => match compC P N h.pr none bd lv with
   | some (b,[]) => if noEx a=true∧ps.toList.Nodup∧(ps.toList.all fun t => decide (t < N))=true then some ⟨N,ps.size,[],false,some ps.toList,h.ent,h.fin,.seq a b⟩ else none
   | _ => none
  | none => none
 | none => none
end Go.Vai
