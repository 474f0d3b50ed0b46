/-
  A part of the abstract run of Go functions and of the proof that it tells the truth.
-/
import Derived.Test.YtljbbcpahapmnaaGreatDoorVaS
import Derived.Test.YtljbbcpahapmnaaGreatDoorVaD
set_option linter.unusedVariables false
set_option linter.unusedSimpArgs false
namespace Go.Vai
theorem wrap_i64 {n:Int} (h0 : -9223372036854775808≤n) (h1:n≤9223372036854775807):IntKind.i64.wrap n=n:=wrap64_id h0 h1
theorem wrap_u8 {n:Int} (h0:0≤n) (h1:n≤255):IntKind.u8.wrap n=n:=by
 simp only [IntKind.wrap,IntKind.bits,IntKind.signed]
 simp
 omega
@[simp] theorem get_mid {α : Type} (l : List α) (a : α) (r : List α) : (l ++ a :: r)[l.length]? = some a := by simp
@[simp] theorem get_map_mid {α β : Type} (f : α → β) (l : List α) (a : β) (r : List β) : (l.map f ++ a :: r)[l.length]? = some a := by
 have:l.length=(l.map f).length:=by simp
 rw [this]; exact get_mid _ _ _
abbrev i64 (n:Int):AV:=.fz (.sc (.int .i64 n))
abbrev i32 (n:Int):AV:=.fz (.sc (.int .i32 n))
abbrev u8 (n:Int):AV:=.fz (.sc (.int .u8 n))
abbrev bo (b:Bool):AV:=.fz (.sc (.bool b))
abbrev str (s:ByteArray):AV:=.fz (.sc (.string s))
abbrev rw_ (es:List (List FV)):AV:=.fz (.sl es)
@[simp] theorem okSz_nil (sz : Nat) : okSz sz [] = true := by simp [okSz]
@[simp] theorem okSz_cons (sz : Nat) (c : List FV) (r : List (List FV)) : okSz sz (c :: r) = (c.length == sz && okSz sz r) := by simp [okSz]
@[simp] theorem okSz_app (sz : Nat) (a b : List (List FV)) : okSz sz (a ++ b) = (okSz sz a && okSz sz b) := by simp [okSz]
@[simp] theorem okSz_map {α : Type} (sz : Nat) (f : α → List FV) (l : List α) : okSz sz (l.map f) = l.all fun a => (f a).length == sz := by
 simp [okSz,Function.comp_def]
@[simp] theorem all_tt {α : Type} (l : List α) : (l.all fun _ => true) = true := by simp
@[simp] theorem take_map_len {α β : Type} (f : α → β) (l : List α) : (l.map f).take l.length = l.map f := by
 rw [← List.length_map (f:=f),List.take_length]
theorem condP_pos {p A B:Prop} {w:Wit (A,B)} (h:p):condP p A B w=A:=by simp [condP,h]
theorem optP_pos {α:Type} {c:Prop} [Decidable c] {x:Option α} {k:α→Prop} {w:Wit k} (h:c):optP (if c then x else none) k w=optP x k .mk:=by rw [if_pos h]
theorem condP_neg {p A B:Prop} {w:Wit (A,B)} (h : ¬ p):condP p A B w=B:=by simp [condP,h]
def mkB (l:List UInt8):ByteArray:=⟨l.toArray⟩
theorem mk_mkB (a:Array UInt8):ByteArray.mk a=mkB a.toList:=by simp [mkB]
theorem mkB_data (s:ByteArray):mkB s.data.toList=s:=by simp [mkB]
@[simp] theorem mkB_size (l : List UInt8) : (mkB l).size = l.length := by simp [mkB, ByteArray.size]
@[simp] theorem mkB_list (l : List UInt8) : (mkB l).data.toList = l := by simp [mkB]
@[simp] theorem mkB_inj (l k : List UInt8) : (mkB l = mkB k) = (l = k) := by simp [mkB]
@[simp] theorem mkB_app (l k : List UInt8) : mkB l ++ mkB k = mkB (l ++ k) := by
 apply ByteArray.ext
 simp [mkB]
@[simp] theorem mkB_ext (l : List UInt8) (a b : Nat) : (mkB l).extract a b = mkB ((l.take b).drop a) := by
 apply ByteArray.ext
 simp [mkB,List.drop_take]
def eB (b:UInt8):List FV:=[.sc (.int .u8 b.toNat)]
@[simp] theorem bytesFV_mkB (l : List UInt8) : bytesFV (mkB l) = l.map eB := by
 simp [bytesFV,mkB,eB]
@[simp] theorem eB_len (b : UInt8) : (eB b).length = 1 := rfl
@[simp] theorem bytesOf_map (l : List UInt8) : bytesOf' (l.map eB) = some l := by
 induction l with
 | nil => rfl
 | cons a r ih => simp [bytesOf',eB,byteOf'] at ih ⊢; simp [ih]
attribute [simp] mk_mkB List.getElem?_cons_zero
abbrev bs (l:List UInt8):AV:=.fz (.sc (.string (mkB l)))
theorem ST:(∀ {p A B:Prop} {w:Wit (A,B)},p→condP p A B w=A)∧(∀ {p A B:Prop} {w:Wit (A,B)},¬p→condP p A B w=B)∧(∀ {α:Type} {c:Prop} [inst:Decidable c] {x:Option α} {k:α→Prop} {w:Wit k},c→optP (if c then x else none) k w=optP x k Wit.mk)∧(∀ {p:Prop} [inst:Decidable p],p→decide p=true)∧(∀ {p:Prop} [inst:Decidable p],¬p→decide p=false)∧(∀ {n:Int},-9223372036854775808≤n→n≤9223372036854775807→IntKind.i64.wrap n=n)∧(∀ {m n:Nat},(m:Int)=(n:Int)↔m=n) :=
 ⟨condP_pos,condP_neg,optP_pos,decide_eq_true,decide_eq_false,wrap_i64,Int.natCast_inj⟩
end Go.Vai
