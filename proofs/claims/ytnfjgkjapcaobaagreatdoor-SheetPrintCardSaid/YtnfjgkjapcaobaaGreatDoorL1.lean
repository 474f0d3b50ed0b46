/-
  What functions of layer 9 and of its reference compute: equations of the abstract run, and plain laws of them.
-/
import Derived.Test.YtnfjgkjapcaobaaGreatDoorK7
set_option linter.unusedVariables false
set_option linter.unusedSimpArgs false
set_option linter.unnecessarySimpa false
set_option linter.unusedSectionVars false
namespace Go.Vai
variable {m : Int} {e3 e4 : Value}
inductive Nd where
 | mk (kind num : Int) (text : List UInt8) (fr fc tr tc : Int) (args : List Nd)
mutual
def eNd : Nd → List FV
 | .mk k n t a b c d l => [.sc (.int .i64 k), .sc (.int .i64 n), .sc (.string (mkB t)), .sc (.int .i64 a), .sc (.int .i64 b), .sc (.int .i64 c), .sc (.int .i64 d), .sl (eNds l)]
def eNds : List Nd → List (List FV)
 | [] => []
 | n :: r => eNd n :: eNds r
end
def ndA (n : Nd) : AV := .agg ((eNd n).map .fz)
def op2 (s : List UInt8) (a b : Nd) : Nd := .mk 5 0 s 0 0 0 0 [a, b]
def op1 (a : Nd) : Nd := .mk 5 0 [45] 0 0 0 0 [a]
def numN (n : Int) : Nd := .mk 1 n [] 0 0 0 0 []
def txtN (t : List UInt8) : Nd := .mk 2 0 t 0 0 0 0 []
def celN (a b : Int) : Nd := .mk 3 0 [] a b 0 0 []
def rngN (a b c d : Int) : Nd := .mk 4 0 [] a b c d []
def calN (t : List UInt8) (l : List Nd) : Nd := .mk 6 0 t 0 0 0 0 l
def takeS (sg : List (List UInt8)) : List Tok → Option (List UInt8 × List Tok)
 | .sign s :: r => if s ∈ sg then some (s, r) else none
 | _ => none
abbrev Rd := Option (Nd × List Tok)
def pRow (part : List Tok → Rd) (sg : List (List UInt8)) : Nat → Nd → List Tok → Rd
 | 0, n, ts => some (n, ts)
 | j + 1, n, ts => match takeS sg ts with
  | none => some (n, ts)
  | some (s, r) => match part r with
   | none => none
   | some (b, ts') => pRow part sg j (op2 s n b) ts'
def pArg (part : List Tok → Rd) : Nat → List Nd → List Tok → Option (List Nd × List Tok)
 | 0, _, _ => none
 | j + 1, ns, ts => match part ts with
  | none => none
  | some (a, ts') => match takeS [[44]] ts' with
   | some (_, r) => pArg part j (ns ++ [a]) r
   | none => some (ns ++ [a], ts')
inductive PK where
 | form | join | sum | prod | minus | single
def cmpL : List (List UInt8) := [[61], [60, 62], [60], [60, 61], [62], [62, 61]]
def pr : Nat → PK → Nat → List Tok → Rd
 | 0, _, _, _ => none
 | k + 1, .form, d, ts => match pr k .join d ts with
  | none => none
  | some (n, ts1) => pRow (pr k .join d) cmpL 1 n ts1
 | k + 1, .join, d, ts => match pr k .sum d ts with
  | none => none
  | some (n, ts1) => pRow (pr k .sum d) [[38]] ts1.length n ts1
 | k + 1, .sum, d, ts => match pr k .prod d ts with
  | none => none
  | some (n, ts1) => pRow (pr k .prod d) [[43], [45]] ts1.length n ts1
 | k + 1, .prod, d, ts => match pr k .minus d ts with
  | none => none
  | some (n, ts1) => pRow (pr k .minus d) [[42], [47]] ts1.length n ts1
 | k + 1, .minus, d, ts => match takeS [[45]] ts with
  | some (_, r) => if d + 1 > 32 then none else (pr k .minus (d + 1) r).map fun p => (op1 p.1, p.2)
  | none => pr k .single d ts
 | k + 1, .single, d, ts => match takeS [[40]] ts with
  | some (_, r) => if d + 1 > 32 then none else match pr k .form (d + 1) r with
   | none => none
   | some (n, ts1) => (takeS [[41]] ts1).map fun p => (n, p.2)
  | none => match ts with
   | [] => none
   | .num n :: r => some (numN n, r)
   | .txt t :: r => some (txtN t, r)
   | .plc a b :: r => match takeS [[58]] r with
    | none => some (celN a b, r)
    | some (_, .plc a2 b2 :: r3) => some (rngN a b a2 b2, r3)
    | some (_, _) => none
   | .name t :: r => match takeS [[40]] r with
    | none => none
    | some (_, r2) => if d + 1 > 32 then none else match takeS [[41]] r2 with
     | some (_, r3) => some (calN t [], r3)
     | none => match pArg (pr k .form (d + 1)) (r2.length + 1) [] r2 with
      | none => none
      | some (ns, ts1) => (takeS [[41]] ts1).map fun p => (calN t ns, p.2)
   | .sign _ :: _ => none
end Go.Vai
namespace Go.Vai
variable {m : Int} {e3 e4 : Value}
def loV (av : LX → AV) : Option LX → Option Int
 | none => some 0
 | some y => intOf' (av y)
def hiV (av : LX → AV) : Option LX → Option (Option Int)
 | none => some none
 | some y => (intOf' (av y)).map some
def slcV (sz : Nat) (x : AV) (l : Option Int) (h : Option (Option Int)) : Option AV :=
 match l, h with
 | some l, some h => match x with
  | .fz (.sl es) => let h' : Int := h.getD es.length
   if okSz sz es = true ∧ 0 ≤ l ∧ l ≤ h' ∧ h' ≤ es.length then some (.fz (.sl ((es.take h'.toNat).drop l.toNat))) else none
  | .emp => let h' : Int := h.getD 0
   if l = 0 ∧ h' = 0 then some .emp else none
  | .osl b sz' off len => let h' : Int := h.getD len
   if sz' = sz ∧ 0 ≤ l ∧ l ≤ h' ∧ h' ≤ len then some (.osl b sz (off + l.toNat) (h' - l).toNat) else none
  | _ => none
 | _, _ => none
@[simp] theorem slcV_osl (sz b sz' off len : Nat) (l : Int) (h : Option Int) : slcV sz (.osl b sz' off len) (some l) (some h) = if sz' = sz ∧ 0 ≤ l ∧ l ≤ h.getD len ∧ h.getD len ≤ len then some (.osl b sz (off + l.toNat) (h.getD len - l).toNat) else none := rfl
@[simp] theorem slcV_fz (sz : Nat) (es : List (List FV)) (l : Int) (h : Option Int) : slcV sz (.fz (.sl es)) (some l) (some h) = if okSz sz es = true ∧ 0 ≤ l ∧ l ≤ h.getD es.length ∧ h.getD es.length ≤ es.length then some (.fz (.sl ((es.take (h.getD es.length).toNat).drop l.toNat))) else none := rfl
attribute [simp] loV hiV
def eS (s : List UInt8) : List FV := [.sc (.string (mkB s))]
@[simp] theorem eS_len (s : List UInt8) : (eS s).length = 1 := rfl
end Go.Vai
namespace Go.Vai
variable {m : Int} {e3 e4 : Value}
theorem ndA_mk (k n : Int) (t : List UInt8) (a b c d : Int) (l : List Nd) : ndA (.mk k n t a b c d l) = .agg [i64 k, i64 n, bs t, i64 a, i64 b, i64 c, i64 d, .fz (.sl (eNds l))] := rfl
end Go.Vai
namespace Go.Vai
variable {m : Int} {e3 e4 : Value}
@[simp] theorem eNd_len (n : Nd) : (eNd n).length = 8 := by cases n; rfl
structure Row86 where
 n : Nd
 ts : List Tok
 b : Bool
 j : Nat
 o : Bool
end Go.Vai
