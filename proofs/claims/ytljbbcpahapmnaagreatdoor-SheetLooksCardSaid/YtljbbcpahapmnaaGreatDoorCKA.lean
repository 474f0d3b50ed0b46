/-
  What functions of layer 9 and of its reference compute: equations of the abstract run, and plain laws of them.
-/
import Derived.Lib.AtoiAll
import Derived.Lib.ItoaNum
import Derived.Lib.Join
import Derived.Lib.Case
import Derived.Lib.Bytealg
import Derived.Test.YtljbbcpahapmnaaGreatDoorCShX
import Derived.Test.YtljbbcpahapmnaaGreatDoorVaZ
set_option linter.unusedVariables false
set_option linter.unusedSimpArgs false
set_option linter.unnecessarySimpa false
set_option linter.unusedSectionVars false
namespace Go.Vai
open Go.RowKit Go.Proofs
def decC:Nat→Nat→List UInt8
 | 0,_ => []
 | k + 1,u => if u < 10 then [UInt8.ofNat (48 + u)] else decC k (u / 10) ++ [UInt8.ofNat (48 + u % 10)]
def itoaC (n:Int):List UInt8:=if n < 0 then 45 :: decC 20 n.natAbs else decC 20 n.toNat
theorem decC_eq : ∀ (k u:Nat),u < 10 ^ (k + 1)→decC (k + 1) u=Lib.decDigits u
 | k, u, h => by
  rw [decC,Lib.decDigits]
  split
  ·rfl
  ·match k with
   | 0 => omega
   | k + 1 => rw [decC_eq k (u / 10) (by rw [Nat.pow_succ] at h; omega)]
theorem itoaC_eq (n:Int) (h : -9223372036854775808≤n∧n≤9223372036854775807):itoaC n=Lib.itoa n:=by
 unfold itoaC Lib.itoa
 rw [decC_eq 19 _ (by omega),decC_eq 19 _ (by omega)]
def dbl:List UInt8→List UInt8
 | [] => []
 | b :: r => if b=34 then 34 :: 34 :: dbl r else b :: dbl r
def strsOf:List (List FV)→Option (List (List UInt8))
 | [] => some []
 | [.sc (.string s)] :: r => (strsOf r).map (s.data.toList :: ·)
 | _ => none
def joinC (sep:List UInt8):List (List UInt8)→List UInt8
 | [] => []
 | [x] => x
 | x :: r => x ++ (sep ++ joinC sep r)
theorem joinC_eq (sep:List UInt8) : ∀ xs,joinC sep xs=Lib.join xs sep
 | [] => by simp [joinC,Lib.join_nil]
 | [x] => by simp [joinC,Lib.join_one]
 | x :: y :: r => by
  have h:=joinC_eq sep (y :: r)
  rw [joinC,h,Lib.join_cons,Lib.join_cons]
  ·simp [Lib.joinTail]
  ·simp
abbrev Cel:=Int × Int × List UInt8
def eCel (c:Cel):List FV:=[.sc (.int .i64 c.1),.sc (.int .i64 c.2.1),.sc (.string (mkB c.2.2))]
def celLe (a b:Cel):Bool:=decide (a.1 < b.1) || (decide (a.1=b.1) && decide (a.2.1≤b.2.1))
def insC (c:Cel):List Cel→List Cel
 | [] => [c]
 | d :: r => if celLe c d then c :: d :: r else d :: insC c r
def sortC:List Cel→List Cel
 | [] => []
 | c :: r => insC c (sortC r)
def insZ (c:Int):List Int→List Int
 | [] => [c]
 | d :: r => if c≤d then c :: d :: r else d :: insZ c r
def sortZ:List Int→List Int
 | [] => []
 | c :: r => insZ c (sortZ r)
def celsOf:List (Nat × Value × FV)→Option (List Cel)
 | [] => some []
 | (_,.agg ⟨[.int .i64 a,.int .i64 b]⟩,.sc (.string s)) :: r => (celsOf r).map ((a,b,s.data.toList) :: ·)
 | _ => none
def intsOf:List (List FV)→Option (List Int)
 | [] => some []
 | [.sc (.int .i64 a)] :: r => (intsOf r).map (a :: ·)
 | _ => none
def keysOk:List Cel→Bool
 | [] => true
 | c :: r => r.all (fun d => !(decide (d.1=c.1) && decide (d.2.1=c.2.1))) && (decide (1≤c.1) && decide (c.1≤99) && decide (1≤c.2.1) && decide (c.2.1≤26)) && keysOk r
def bornOk:List (Nat × Value × FV)→Nat→Nat→Bool
 | [],_,_ => true
 | p :: r,lo,c => decide (lo≤p.1) && decide (p.1 < c) && bornOk r (p.1 + 1) c
def E0:RF:=fun f xs bl => match bl with
 | [] => match f, xs with
  | 63,[.fz (.sc (.string s)),.fz (.sc (.string a)),.fz (.sc (.string b))] => if a.data.toList=[34]∧b.data.toList=[34,34]∧s.size≤4000000000 then some (bs (dbl s.data.toList),[]) else none
  | 65,[.fz (.sl es),.fz (.sc (.string sep))] => (strsOf es).bind fun xs => if (joinC sep.data.toList xs).length≤140737488355328∧xs.length≤140737488355328 then some (bs (joinC sep.data.toList xs),[]) else none
  | 87,[.fz (.sc (.int .i64 n))] => if -9223372036854775808≤n∧n≤9223372036854775807 then some (bs (itoaC n),[]) else none
  | 112,[.fz (.sc (.string s))] => if s.size≤281474976710656 then some (match Lib.atoiAll s.data.toList with
   | .ok v => .tup [i64 v,.fz (.sc .nilIface)]
   | .range => .tup [i64 (Lib.atoiSat s.data.toList),.err]
   | _ => .tup [i64 0,.err],[]) else none
  | 198,[.fz (.sc (.string s))] => if s.size≤140737488355328∧(s.data.toList.all fun b => decide (b.toNat < 128))=true then some (bs (Lib.toUpperA s.data.toList),[]) else none
  | 237,[.fz (.sc (.string s)),.fz (.sc (.int .u8 c))] => some (i64 (Lib.indexByte s.data.toList c.toNat.toUInt8),[])
  | 211,[.fz (.sc (.string a)),.fz (.sc (.string b))] => some (i64 (Lib.compareBytes a.data.toList b.data.toList),[])
  | _,_ => none
 | _ => none
def Ez:RF:=fun f xs bl => match f,xs,bl with
 | 89,[.osl 0 1 0 n],[some (.arr 1 es)] => (intsOf es).bind fun l => if n=l.length∧l.length < 4611686018427387904 then some (.tup [],[some (.arr 1 ((sortZ l).map fun z => [.sc (.int .i64 z)]))]) else none
 | 89,[.fz (.sc (.slice none 0 0))],[] => some (.tup [],[])
 | 60,[.mp 0],[some (.map es c)] => (celsOf es).bind fun l => if keysOk l=true∧bornOk es 0 c=true∧l.length≤100000 then some (.osl 1 3 0 l.length,[some (.map es c),some (.arr 3 ((sortC l).map eCel))]) else none
 | f,xs,bl => E0 f xs bl
def Gz (m:Int) (e3 e4:Value):Nat→Option (List FV)
 | 0 => some [.sc (.int .i64 m)]
 | 5 => some (Lib.pow10Tab.map fun z => .sc (.int .u64 z))
 | 3 => some [.sc e3]
 | 4 => some [.sc e4]
 | _ => none
def W (m:Int) (e3 e4:Value):Env:={ G:=Gz m e3 e4,T:=Tz,E:=Ez }
end Go.Vai
namespace Go.Vai
def isIf (v:Value):Prop := ∃ t p,v=.iface t p
end Go.Vai
