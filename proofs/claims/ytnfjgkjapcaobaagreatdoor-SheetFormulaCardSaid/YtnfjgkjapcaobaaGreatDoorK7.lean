/-
  What functions of layer 9 and of its reference compute: equations of the abstract run, and plain laws of them.
-/
import Derived.Test.YtnfjgkjapcaobaaGreatDoorK5
set_option linter.unusedVariables false
set_option linter.unusedSimpArgs false
set_option linter.unnecessarySimpa false
set_option linter.unusedSectionVars false
namespace Go.Vai
variable {m : Int} {e3 e4 : Value}
set_option maxRecDepth 100000 in
theorem upper_all : ∀ n : Fin 256, (Lib.upperB (UInt8.ofNat n.val)).toNat = upI (UInt8.ofNat n.val) := by decide
theorem upper_nat (b : UInt8) : ((Lib.upperB b).toNat : Int) = upI b := by
 have h := upper_all ⟨b.toNat, b.toNat_lt⟩
 simp only [UInt8.ofNat_toNat] at h
 rw [h]
def S92b (l : List UInt8) (e : Nat) (a : Nat × List UInt8) : St := { sl := [(0, bs l), (4, .bp 0 0), (11, i64 e), (12, .osl 1 1 0 a.2.length), (13, i64 a.1)], hp := [(0, some (.box zeroB)), (1, some (.arr 1 (a.2.map eB)))], nx := 2 }
theorem wordG_place (l : List UInt8) (h : spanG isD (l.drop (spanG isL l)) ≠ 0) (hl : 1 ≤ spanG isL l) : wordG l = (placeG (l.take (spanG isL l + spanG isD (l.drop (spanG isL l))))).map fun p => (.plc p.1 p.2, spanG isL l + spanG isD (l.drop (spanG isL l))) := by
 unfold wordG
 rw [if_neg h, placeG_I]
 have hle := spanG_le isL l
 have hsp := spanG_get isL l
 generalize spanG isD (l.drop (spanG isL l)) = d at *
 generalize spanG isL l = n at *
 by_cases h1 : n > 1
 ·rw [if_pos (.inl h1), if_neg]
  ·rfl
  ·intro hb
   match l, hle with
   | [], h3 => simp at h3; omega
   | [c], h3 => simp at h3; omega
   | c :: c2 :: r, h3 =>
    have h2 := hsp 1 c2 h1 rfl
    have e : (c :: c2 :: r).take (n + d) = c :: c2 :: r.take (n + d - 2) := by
     obtain ⟨k, hk⟩ : ∃ k, n + d = k + 2 := ⟨n + d - 2, by omega⟩
     rw [hk]; rfl
    rw [e, placeI] at hb
    split at hb
    ·rename_i h4
     unfold isL colG upI at h2
     simp only [decide_eq_true_eq] at h2
     have : ¬ (97 ≤ c2.toNat ∧ c2.toNat ≤ 122) := by omega
     rw [if_neg this, if_neg (by omega)] at h2
     omega
    ·cases hb
 ·by_cases h2 : (placeI (l.take (n + d))).2 = true
  ·rw [if_neg (by rintro (h | h); omega; exact h h2), if_pos h2]
   rfl
  ·rw [if_pos (.inr h2), if_neg h2]
   rfl
theorem drop_take (l : List UInt8) (a n : Nat) : (l.take (a + n)).drop a = (l.drop a).take n := by
 rw [List.drop_take, Nat.add_sub_cancel_left]
set_option maxHeartbeats 1000000 in
theorem run_rword_let (l : List UInt8) (at' : Nat) (c : UInt8) (hl : l.length ≤ 1000000000000) (ha : at' < l.length) (hc : l[at'] = c) (hd : isD c = false) (hL : isL c = true) :
 RT ((W m e3 e4).run 92 [bs l, i64 at'] []) at' (wordG (l.drop at')) := by
 have d1 := run_rdigit (m := m) (e3 := e3) (e4 := e4) c
 rw [hd] at d1
 have hcons : l.drop at' = c :: l.drop (at' + 1) := by rw [List.drop_eq_getElem_cons ha, hc]
 have h1 : 1 ≤ spanG isL (l.drop at') := by rw [hcons, spanG, if_pos hL]; omega
 have hw := fun h => wordG_place (l.drop at') h h1
 have hw0 : spanG isD ((l.drop at').drop (spanG isL (l.drop at'))) = 0 → wordG (l.drop at') = some (.name (Lib.toUpperA ((l.drop at').take (spanG isL (l.drop at')))), spanG isL (l.drop at')) := fun h => if_pos h
 have d3 := run_rspan (m := m) (e3 := e3) (e4 := e4) l at' true hl (by omega)
 have hle := spanG_le isL (l.drop at')
 rw [List.length_drop] at hle
 have e0 : spanG (isLD true) (l.drop at') = spanG isL (l.drop at') := rfl
 rw [e0] at d3
 have d4 := run_rspan (m := m) (e3 := e3) (e4 := e4) l (at' + spanG isL (l.drop at')) false hl (by omega)
 have e1 : spanG (isLD false) (l.drop (at' + spanG isL (l.drop at'))) = spanG isD ((l.drop at').drop (spanG isL (l.drop at'))) := by rw [List.drop_drop]; rfl
 rw [e1] at d4
 have hld := spanG_le isD ((l.drop at').drop (spanG isL (l.drop at')))
 rw [List.length_drop, List.length_drop] at hld
 generalize hW : wordG (l.drop at') = W' at *
 generalize spanG isD ((l.drop at').drop (spanG isL (l.drop at'))) = d at *
 generalize spanG isL (l.drop at') = n at *
 have ki : ∀ h : at' < l.length, l[at'] = c := fun _ => hc
 by_cases h0 : d = 0
 ·subst h0
  rw [hw0 rfl]
  rw [Nat.add_zero] at d4
  simp only [Int.natCast_add] at d3 d4
  refine run_wp (by rw [W_T]; exact rfl) ?_
  simp -dsimp -implicitDefEqProofs (maxSteps := 1000000) (disch := omega) [ST, ha, ki, d1, d3, d4]
  refine wp_inv (S92b l (at' + n)) (fun a => at' ≤ a.1 ∧ a.1 ≤ at' + n ∧ a.2 = Lib.toUpperA ((l.drop at').take (a.1 - at')) ∧ a.2.length = a.1 - at') (fun a => at' + n - a.1) (at', []) ⟨Nat.le_refl _, by simp, by simp [Lib.toUpperA], by simp⟩ (by simp -dsimp -implicitDefEqProofs (maxSteps := 1000000) (disch := omega) [ST, S92b, zeroB]) ?_
  rintro ⟨k, o⟩ ⟨g0, hk, hv, hb⟩
  simp only at g0 hk hv hb
  by_cases h : k < at' + n
  ·have hkl : k < l.length := by omega
   obtain ⟨b, hb1⟩ : ∃ b, l[k] = b := ⟨_, rfl⟩
   have hb2 : (l.drop at')[k - at']? = some b := by rw [List.getElem?_drop, show at' + (k - at') = k by omega, List.getElem?_eq_getElem hkl, hb1]
   have db := run_big (m := m) (e3 := e3) (e4 := e4) b
   have ht : Lib.toUpperA ((l.drop at').take (k - at' + 1)) = Lib.toUpperA ((l.drop at').take (k - at')) ++ [Lib.upperB b] := by
    unfold Lib.toUpperA
    rw [List.take_add_one, hb2]
    simp
   rw [← upper_nat] at db
   simp -dsimp -implicitDefEqProofs (maxSteps := 1000000) (disch := omega) [ST, -BitVec.toNat_xor, -BitVec.toNat_and, -BitVec.toNat_or, -BitVec.toNat_not, -BitVec.toNat_ushiftRight, -BitVec.toNat_shiftLeft, -BitVec.toNat_mul, -UInt8.toNat_xor, -UInt8.toNat_and, -UInt8.toNat_or, -UInt8.toNat_shiftLeft, -UInt8.toNat_shiftRight, S92b, zeroB, h, hkl, hb1, db, show o.length + 1 ≤ 140737488355328 by omega]
   refine again (k + 1, o ++ [Lib.upperB b]) ⟨by simp only; omega, by simp only; omega, by simp only; rw [show k + 1 - at' = k - at' + 1 by omega, ht, hv], by simp; omega⟩ (by simp only; omega) (by simp -dsimp -implicitDefEqProofs (maxSteps := 1000000) (disch := omega) [ST, -BitVec.toNat_xor, -BitVec.toNat_and, -BitVec.toNat_or, -BitVec.toNat_not, -BitVec.toNat_ushiftRight, -BitVec.toNat_shiftLeft, -BitVec.toNat_mul, -UInt8.toNat_xor, -UInt8.toNat_and, -UInt8.toNat_or, -UInt8.toNat_shiftLeft, -UInt8.toNat_shiftRight, S92b, zeroB, eB])
  ·have hkn : k = at' + n := by omega
   subst hkn
   rw [Nat.add_sub_cancel_left] at hv
   rw [← hv]
   simp -dsimp -implicitDefEqProofs (maxSteps := 1000000) (disch := omega) [ST, -BitVec.toNat_xor, -BitVec.toNat_and, -BitVec.toNat_or, -BitVec.toNat_not, -BitVec.toNat_ushiftRight, -BitVec.toNat_shiftLeft, -BitVec.toNat_mul, -UInt8.toNat_xor, -UInt8.toNat_and, -UInt8.toNat_or, -UInt8.toNat_shiftLeft, -UInt8.toNat_shiftRight, S92b, zeroB, h, tokA, rTok, RT]
 ·rw [hw h0]
  simp only [Int.natCast_add] at d3 d4
  have d5 := run_readPlace (m := m) (e3 := e3) (e4 := e4) ((l.drop at').take (n + d)) (by rw [List.length_take, List.length_drop]; omega)
  have tk : ((l.take (at' + n + d)).drop at') = (l.drop at').take (n + d) := by rw [Nat.add_assoc, drop_take]
  unfold placeR at d5
  cases hp : placeG ((l.drop at').take (n + d)) with
  | none =>
   rw [hp] at d5
   simp only at d5
   refine ⟨3, [], 0, 0, 0, false, (at' + n + d : Nat), ?_⟩
   refine run_wp (by rw [W_T]; exact rfl) ?_
   simp -dsimp -implicitDefEqProofs (maxSteps := 1000000) (disch := omega) [ST, ha, ki, d1, d3, d4, h0, d5, tk, tokA, show ((at' : Int) + n + d).toNat = at' + n + d by omega]
  | some p =>
   rw [hp] at d5
   simp only at d5
   show _ = _
   refine run_wp (by rw [W_T]; exact rfl) ?_
   simp -dsimp -implicitDefEqProofs (maxSteps := 1000000) (disch := omega) [ST, ha, ki, d1, d3, d4, h0, d5, tk, tokA, rTok, show ((at' : Int) + n + d).toNat = at' + n + d by omega]
   omega
end Go.Vai
namespace Go.Vai
variable {m : Int} {e3 e4 : Value}
def findG : List UInt8 → UInt8 → Nat
 | [], _ => 0
 | b :: r, c => if b = c then 0 else findG r c + 1
def S93 (l : List UInt8) (c : UInt8) (i : Nat) : St := { sl := [(0, bs l), (1, by8 c), (5, i64 i)], hp := [], nx := 0 }
theorem run_find (l : List UInt8) (c : UInt8) (hl : l.length ≤ 1000000000000) : (W m e3 e4).run 93 [bs l, by8 c] [] = some (i64 (findG l c), []) := by
 refine run_wp (by rw [W_T]; exact rfl) ?_
 simp -dsimp -implicitDefEqProofs (maxSteps := 1000000) (disch := omega) [ST]
 refine wp_inv (S93 l c) (fun i => i ≤ l.length ∧ i + findG (l.drop i) c = findG l c) (fun i => l.length - i) 0 ⟨by simp, by simp⟩ (by simp -dsimp -implicitDefEqProofs (maxSteps := 1000000) (disch := omega) [ST, S93]) ?_
 rintro i ⟨hi, hs⟩
 by_cases h : i < l.length
 ·obtain ⟨b, hb⟩ : ∃ b, l[i] = b := ⟨_, rfl⟩
  rw [List.drop_eq_getElem_cons h, hb, findG] at hs
  by_cases hbc : b = c
  ·subst hbc
   rw [if_pos rfl] at hs
   simp -dsimp -implicitDefEqProofs (maxSteps := 1000000) (disch := omega) [ST, S93, h, hb]
   omega
  ·rw [if_neg hbc] at hs
   have hn : ¬ b.toNat = c.toNat := fun e => hbc (UInt8.toNat.inj e)
   simp -dsimp -implicitDefEqProofs (maxSteps := 1000000) (disch := omega) [ST, S93, h, hb, hn]
   refine again (i + 1) ⟨by omega, by omega⟩ (by omega) (by simp -dsimp -implicitDefEqProofs (maxSteps := 1000000) (disch := omega) [ST, S93])
 ·have : i = l.length := by omega
  subst this
  rw [List.drop_length] at hs
  simp only [findG] at hs
  simp -dsimp -implicitDefEqProofs (maxSteps := 1000000) (disch := omega) [ST, S93, h]
  omega
def opsL : List UInt8 := [43, 45, 42, 47, 38, 61, 60, 62, 40, 41, 44, 58]
def oneG (c : UInt8) : Option (List UInt8) := if findG opsL c < 12 then some [c] else none
def twoB (c d : UInt8) : Bool := (c == 60 && d == 62) || (c == 60 && d == 61) || (c == 62 && d == 61)
def sgR : List UInt8 → Option (List UInt8)
 | [] => none
 | [c] => oneG c
 | c :: d :: _ => if twoB c d = true then some [c, d] else oneG c
theorem one_dec (c : UInt8) : oneG c = if c = 43 ∨ c = 45 ∨ c = 42 ∨ c = 47 ∨ c = 38 ∨ c = 61 ∨ c = 60 ∨ c = 62 ∨ c = 40 ∨ c = 41 ∨ c = 44 ∨ c = 58 then some [c] else none := by
 unfold oneG opsL
 congr 1
 rw [eq_iff_iff]
 simp only [findG]
 constructor
 ·intro h
  by_cases h1 : c = 43; exact .inl h1
  by_cases h2 : c = 45; simp [h2]
  by_cases h3 : c = 42; simp [h3]
  by_cases h4 : c = 47; simp [h4]
  by_cases h5 : c = 38; simp [h5]
  by_cases h6 : c = 61; simp [h6]
  by_cases h7 : c = 60; simp [h7]
  by_cases h8 : c = 62; simp [h8]
  by_cases h9 : c = 40; simp [h9]
  by_cases h10 : c = 41; simp [h10]
  by_cases h11 : c = 44; simp [h11]
  by_cases h12 : c = 58; simp [h12]
  simp only [Ne.symm h1, Ne.symm h2, Ne.symm h3, Ne.symm h4, Ne.symm h5, Ne.symm h6, Ne.symm h7, Ne.symm h8, Ne.symm h9, Ne.symm h10, Ne.symm h11, Ne.symm h12, if_false] at h
  omega
 ·rintro (rfl | rfl | rfl | rfl | rfl | rfl | rfl | rfl | rfl | rfl | rfl | rfl) <;> decide
theorem signG_R : ∀ l, signG l = sgR l
 | [] => rfl
 | [c] => by
  rw [sgR, one_dec]
  unfold signG signsL
  by_cases h1 : c = 43; · subst h1; rfl
  by_cases h2 : c = 45; · subst h2; rfl
  by_cases h3 : c = 42; · subst h3; rfl
  by_cases h4 : c = 47; · subst h4; rfl
  by_cases h5 : c = 38; · subst h5; rfl
  by_cases h6 : c = 61; · subst h6; rfl
  by_cases h7 : c = 60; · subst h7; rfl
  by_cases h8 : c = 62; · subst h8; rfl
  by_cases h9 : c = 40; · subst h9; rfl
  by_cases h10 : c = 41; · subst h10; rfl
  by_cases h11 : c = 44; · subst h11; rfl
  by_cases h12 : c = 58; · subst h12; rfl
  have bh1 : ((43 : UInt8) == c) = false := beq_eq_false_iff_ne.2 (fun e => h1 e.symm)
  have bh2 : ((45 : UInt8) == c) = false := beq_eq_false_iff_ne.2 (fun e => h2 e.symm)
  have bh3 : ((42 : UInt8) == c) = false := beq_eq_false_iff_ne.2 (fun e => h3 e.symm)
  have bh4 : ((47 : UInt8) == c) = false := beq_eq_false_iff_ne.2 (fun e => h4 e.symm)
  have bh5 : ((38 : UInt8) == c) = false := beq_eq_false_iff_ne.2 (fun e => h5 e.symm)
  have bh6 : ((61 : UInt8) == c) = false := beq_eq_false_iff_ne.2 (fun e => h6 e.symm)
  have bh7 : ((60 : UInt8) == c) = false := beq_eq_false_iff_ne.2 (fun e => h7 e.symm)
  have bh8 : ((62 : UInt8) == c) = false := beq_eq_false_iff_ne.2 (fun e => h8 e.symm)
  have bh9 : ((40 : UInt8) == c) = false := beq_eq_false_iff_ne.2 (fun e => h9 e.symm)
  have bh10 : ((41 : UInt8) == c) = false := beq_eq_false_iff_ne.2 (fun e => h10 e.symm)
  have bh11 : ((44 : UInt8) == c) = false := beq_eq_false_iff_ne.2 (fun e => h11 e.symm)
  have bh12 : ((58 : UInt8) == c) = false := beq_eq_false_iff_ne.2 (fun e => h12 e.symm)
  simp [List.find?, List.isPrefixOf, h1, h2, h3, h4, h5, h6, h7, h8, h9, h10, h11, h12, bh1, bh2, bh3, bh4, bh5, bh6, bh7, bh8, bh9, bh10, bh11, bh12]
 | c :: d :: r => by
  rw [sgR, one_dec]
  unfold signG signsL twoB
  by_cases h7 : c = 60
  ·subst h7
   by_cases d1 : d = 62; · subst d1; rfl
   by_cases d2 : d = 61; · subst d2; rfl
   have b1 : ((62 : UInt8) == d) = false := beq_eq_false_iff_ne.2 (fun e => d1 e.symm)
   have b2 : ((61 : UInt8) == d) = false := beq_eq_false_iff_ne.2 (fun e => d2 e.symm)
   simp [List.find?, List.isPrefixOf, d1, d2, b1, b2]
  by_cases h8 : c = 62
  ·subst h8
   by_cases d2 : d = 61; · subst d2; rfl
   have b2 : ((61 : UInt8) == d) = false := beq_eq_false_iff_ne.2 (fun e => d2 e.symm)
   simp [List.find?, List.isPrefixOf, d2, b2]
  by_cases h1 : c = 43; · subst h1; rfl
  by_cases h2 : c = 45; · subst h2; rfl
  by_cases h3 : c = 42; · subst h3; rfl
  by_cases h4 : c = 47; · subst h4; rfl
  by_cases h5 : c = 38; · subst h5; rfl
  by_cases h6 : c = 61; · subst h6; rfl
  by_cases h9 : c = 40; · subst h9; rfl
  by_cases h10 : c = 41; · subst h10; rfl
  by_cases h11 : c = 44; · subst h11; rfl
  by_cases h12 : c = 58; · subst h12; rfl
  have bh1 : ((43 : UInt8) == c) = false := beq_eq_false_iff_ne.2 (fun e => h1 e.symm)
  have bh2 : ((45 : UInt8) == c) = false := beq_eq_false_iff_ne.2 (fun e => h2 e.symm)
  have bh3 : ((42 : UInt8) == c) = false := beq_eq_false_iff_ne.2 (fun e => h3 e.symm)
  have bh4 : ((47 : UInt8) == c) = false := beq_eq_false_iff_ne.2 (fun e => h4 e.symm)
  have bh5 : ((38 : UInt8) == c) = false := beq_eq_false_iff_ne.2 (fun e => h5 e.symm)
  have bh6 : ((61 : UInt8) == c) = false := beq_eq_false_iff_ne.2 (fun e => h6 e.symm)
  have bh7 : ((60 : UInt8) == c) = false := beq_eq_false_iff_ne.2 (fun e => h7 e.symm)
  have bh8 : ((62 : UInt8) == c) = false := beq_eq_false_iff_ne.2 (fun e => h8 e.symm)
  have bh9 : ((40 : UInt8) == c) = false := beq_eq_false_iff_ne.2 (fun e => h9 e.symm)
  have bh10 : ((41 : UInt8) == c) = false := beq_eq_false_iff_ne.2 (fun e => h10 e.symm)
  have bh11 : ((44 : UInt8) == c) = false := beq_eq_false_iff_ne.2 (fun e => h11 e.symm)
  have bh12 : ((58 : UInt8) == c) = false := beq_eq_false_iff_ne.2 (fun e => h12 e.symm)
  simp [List.find?, List.isPrefixOf, h1, h2, h3, h4, h5, h6, h7, h8, h9, h10, h11, h12, bh1, bh2, bh3, bh4, bh5, bh6, bh7, bh8, bh9, bh10, bh11, bh12]
theorem nat_ne {c : UInt8} {k : Nat} (hk : k < 256) (h : ¬ c = UInt8.ofNat k) : ¬ c.toNat = k := fun e => h (by apply UInt8.toNat.inj; rw [e]; simp; omega)
theorem run_token_sign (l : List UInt8) (at' : Nat) (c : UInt8) (hl : l.length ≤ 1000000000000) (ha : at' < l.length) (hc : l[at'] = c) (h34 : ¬ c = 34) (hd : isD c = false) (hL : isL c = false) :
 RT ((W m e3 e4).run 46 [bs l, i64 at'] []) at' ((sgR (l.drop at')).map fun t => (.sign t, t.length)) := by
 have d1 := run_rdigit (m := m) (e3 := e3) (e4 := e4) c
 have d2 := run_rletter (m := m) (e3 := e3) (e4 := e4) c
 rw [hd] at d1
 rw [hL] at d2
 have d3 := run_find (m := m) (e3 := e3) (e4 := e4) opsL c (by decide)
 have eo : opsL = [43, 45, 42, 47, 38, 61, 60, 62, 40, 41, 44, 58] := rfl
 rw [eo] at d3
 have hcons : l.drop at' = c :: l.drop (at' + 1) := by rw [List.drop_eq_getElem_cons ha, hc]
 have ki : ∀ h : at' < l.length, l[at'] = c := fun _ => hc
 have hcn : ¬ c.toNat = 34 := nat_ne (by omega) h34
 have z1 : ((at' : Int) + 1).toNat = at' + 1 := by omega
 have z2 : ((at' : Int) + 2).toNat = at' + 2 := by omega
 have t1 : (l.take (at' + 1)).drop at' = [c] := by rw [drop_take, hcons]; rfl
 have hone : ∀ X : Prop, (oneG c = if findG [43, 45, 42, 47, 38, 61, 60, 62, 40, 41, 44, 58] c < 12 then some [c] else none) := fun _ => rfl
 by_cases h2 : at' + 1 < l.length
 ·obtain ⟨d, hd⟩ : ∃ d, l[at' + 1] = d := ⟨_, rfl⟩
  have hcons2 : l.drop (at' + 1) = d :: l.drop (at' + 2) := by rw [List.drop_eq_getElem_cons h2, hd]
  have t2 : (l.take (at' + 2)).drop at' = [c, d] := by rw [drop_take, hcons, hcons2]; rfl
  rw [hcons, hcons2, sgR]
  by_cases h3 : twoB c d = true
  ·rw [if_pos h3]
   unfold twoB at h3
   simp only [Bool.or_eq_true, Bool.and_eq_true, beq_iff_eq] at h3
   rcases h3 with (⟨hx, hy⟩ | ⟨hx, hy⟩) | ⟨hx, hy⟩
   ·have e : [c, d] = [60, 62] := by rw [hx, hy]
    rw [e] at t2 ⊢
    refine run_wp (by rw [W_T]; exact rfl) ?_
    simp -dsimp -implicitDefEqProofs (maxSteps := 1000000) (disch := omega) [ST, ha, ki, hcn, d1, d2, h2, z1, z2, t2, tokA, rTok, show (at' : Int) + 1 < l.length by omega]
   ·have e : [c, d] = [60, 61] := by rw [hx, hy]
    rw [e] at t2 ⊢
    refine run_wp (by rw [W_T]; exact rfl) ?_
    simp -dsimp -implicitDefEqProofs (maxSteps := 1000000) (disch := omega) [ST, ha, ki, hcn, d1, d2, h2, z1, z2, t2, tokA, rTok, show (at' : Int) + 1 < l.length by omega]
   ·have e : [c, d] = [62, 61] := by rw [hx, hy]
    rw [e] at t2 ⊢
    refine run_wp (by rw [W_T]; exact rfl) ?_
    simp -dsimp -implicitDefEqProofs (maxSteps := 1000000) (disch := omega) [ST, ha, ki, hcn, d1, d2, h2, z1, z2, t2, tokA, rTok, show (at' : Int) + 1 < l.length by omega]
  ·rw [if_neg h3]
   have n1 : ¬ [c, d] = [60, 62] := fun e => h3 (by injection e with e1 e; injection e with e2; rw [e1, e2]; rfl)
   have n2 : ¬ [c, d] = [60, 61] := fun e => h3 (by injection e with e1 e; injection e with e2; rw [e1, e2]; rfl)
   have n3 : ¬ [c, d] = [62, 61] := fun e => h3 (by injection e with e1 e; injection e with e2; rw [e1, e2]; rfl)
   have ho : oneG c = if findG [43, 45, 42, 47, 38, 61, 60, 62, 40, 41, 44, 58] c < 12 then some [c] else none := rfl
   rw [ho]
   generalize findG [43, 45, 42, 47, 38, 61, 60, 62, 40, 41, 44, 58] c = k at *
   by_cases hk : k < 12
   ·rw [if_pos hk]
    refine run_wp (by rw [W_T]; exact rfl) ?_
    simp -dsimp -implicitDefEqProofs (maxSteps := 1000000) (disch := omega) [ST, ha, ki, hcn, d1, d2, h2, z1, z2, t1, t2, n1, n2, n3, d3, hk, tokA, rTok, show (at' : Int) + 1 < l.length by omega]
   ·rw [if_neg hk]
    refine ⟨0, [c], 0, 0, 0, false, (at' : Int) + 1, ?_⟩
    refine run_wp (by rw [W_T]; exact rfl) ?_
    simp -dsimp -implicitDefEqProofs (maxSteps := 1000000) (disch := omega) [ST, ha, ki, hcn, d1, d2, h2, z1, z2, t1, t2, n1, n2, n3, d3, hk, tokA, rTok, show (at' : Int) + 1 < l.length by omega]
 ·have hnil : l.drop (at' + 1) = [] := List.drop_of_length_le (by omega)
  rw [hcons, hnil, sgR]
  have ho : oneG c = if findG [43, 45, 42, 47, 38, 61, 60, 62, 40, 41, 44, 58] c < 12 then some [c] else none := rfl
  rw [ho]
  generalize findG [43, 45, 42, 47, 38, 61, 60, 62, 40, 41, 44, 58] c = k at *
  by_cases hk : k < 12
  ·rw [if_pos hk]
   refine run_wp (by rw [W_T]; exact rfl) ?_
   simp -dsimp -implicitDefEqProofs (maxSteps := 1000000) (disch := omega) [ST, ha, ki, hcn, d1, d2, h2, z1, z2, t1, d3, hk, tokA, rTok, show ¬ (at' : Int) + 1 < l.length by omega]
  ·rw [if_neg hk]
   refine ⟨0, [c], 0, 0, 0, false, (at' : Int) + 1, ?_⟩
   refine run_wp (by rw [W_T]; exact rfl) ?_
   simp -dsimp -implicitDefEqProofs (maxSteps := 1000000) (disch := omega) [ST, ha, ki, hcn, d1, d2, h2, z1, z2, t1, d3, hk, tokA, rTok, show ¬ (at' : Int) + 1 < l.length by omega]
theorem run_token (l : List UInt8) (at' : Nat) (hl : l.length ≤ 1000000000000) (ha : at' < l.length) : RT ((W m e3 e4).run 46 [bs l, i64 at'] []) at' (nextG (l.drop at')) := by
 obtain ⟨c, hc⟩ : ∃ c, l[at'] = c := ⟨_, rfl⟩
 have hcons : l.drop at' = c :: l.drop (at' + 1) := by rw [List.drop_eq_getElem_cons ha, hc]
 have ki : ∀ h : at' < l.length, l[at'] = c := fun _ => hc
 have d1 := run_rdigit (m := m) (e3 := e3) (e4 := e4) c
 have d2 := run_rletter (m := m) (e3 := e3) (e4 := e4) c
 have e1 : nextG (l.drop at') = if isD c = true then (if spanG isD (l.drop at') > 9 then none else some (.num (valG ((l.drop at').take (spanG isD (l.drop at')))), spanG isD (l.drop at')))
  else if isL c = true then wordG (l.drop at')
  else if c = 34 then (putG [] 1 (quotG (l.drop (at' + 1)))).map fun p => (.txt p.1, p.2)
  else (signG (l.drop at')).map fun t => (.sign t, t.length) := by rw [hcons]; rfl
 rw [e1]
 have tail : ∀ x : Option (Tok × Nat), ¬ c = 34 → (isL c = true ∨ isD c = true) → RT ((W m e3 e4).run 92 [bs l, i64 at'] []) at' x → RT ((W m e3 e4).run 46 [bs l, i64 at'] []) at' x := by
  intro x h34 hld hr
  have hcn : ¬ c.toNat = 34 := nat_ne (by omega) h34
  cases x with
  | none =>
   obtain ⟨k, s, n, r', c', b, e, hr⟩ := hr
   refine ⟨k, s, n, r', c', b, e, ?_⟩
   simp only [tokA, List.map] at hr
   refine run_wp (by rw [W_T]; exact rfl) ?_
   by_cases hL : isL c = true
   ·rw [hL] at d2
    simp -dsimp -implicitDefEqProofs (maxSteps := 1000000) (disch := omega) [ST, ha, ki, hcn, d1, d2, hr, tokA]
   ·rw [Bool.eq_false_iff.2 hL] at d2
    rw [hld.resolve_left hL] at d1
    simp -dsimp -implicitDefEqProofs (maxSteps := 1000000) (disch := omega) [ST, ha, ki, hcn, d1, d2, hr, tokA]
  | some p =>
   obtain ⟨t, n⟩ := p
   show _ = _
   have hr : (W m e3 e4).run 92 [bs l, i64 at'] [] = some (.tup [tokA (rTok t), i64 (at' + n : Nat), bo true], []) := hr
   refine run_wp (by rw [W_T]; exact rfl) ?_
   by_cases hL : isL c = true
   ·rw [hL] at d2
    cases t <;> simp only [tokA, rTok, List.map] at hr <;> simp -dsimp -implicitDefEqProofs (maxSteps := 1000000) (disch := omega) [ST, ha, ki, hcn, d1, d2, hr, tokA, rTok]
   ·rw [Bool.eq_false_iff.2 hL] at d2
    rw [hld.resolve_left hL] at d1
    cases t <;> simp only [tokA, rTok, List.map] at hr <;> simp -dsimp -implicitDefEqProofs (maxSteps := 1000000) (disch := omega) [ST, ha, ki, hcn, d1, d2, hr, tokA, rTok]
 by_cases hd : isD c = true
 ·rw [if_pos hd]
  exact tail _ (by rintro rfl; cases hd) (.inr hd) (run_rword_num l at' c hl ha hc hd)
 ·rw [if_neg hd]
  by_cases hL : isL c = true
  ·rw [if_pos hL]
   exact tail _ (by rintro rfl; cases hL) (.inl hL) (run_rword_let l at' c hl ha hc (Bool.eq_false_iff.2 hd) hL)
  ·rw [if_neg hL]
   by_cases h34 : c = 34
   ·rw [if_pos h34]
    have hcn : c.toNat = 34 := by rw [h34]; rfl
    have dq := run_rquoted (m := m) (e3 := e3) (e4 := e4) l (at' + 1) hl (by omega)
    cases hq : quotG (l.drop (at' + 1)) with
    | none =>
     rw [hq] at dq
     simp only [putG, Option.map_none, rquotR, Int.natCast_add, Int.natCast_one] at dq
     refine ⟨2, [], 0, 0, 0, false, l.length, ?_⟩
     refine run_wp (by rw [W_T]; exact rfl) ?_
     simp -dsimp -implicitDefEqProofs (maxSteps := 1000000) (disch := omega) [ST, ha, ki, hcn, dq, tokA]
    | some p =>
     rw [hq] at dq
     simp only [putG, Option.map_some, rquotR, Int.natCast_add, Int.natCast_one, List.nil_append] at dq
     show _ = _
     refine run_wp (by rw [W_T]; exact rfl) ?_
     simp -dsimp -implicitDefEqProofs (maxSteps := 1000000) (disch := omega) [ST, ha, ki, hcn, dq, tokA, rTok]
     omega
   ·rw [if_neg h34, signG_R]
    exact run_token_sign l at' c hl ha hc h34 (Bool.eq_false_iff.2 hd) (Bool.eq_false_iff.2 hL)
end Go.Vai
namespace Go.Vai
variable {m : Int} {e3 e4 : Value}
def rtoksR : Option (List Tok) → AV
 | none => .tup [rw_ [], bo false]
 | some ts => .tup [rw_ (ts.map rTok), bo true]
@[simp] theorem rTok_len (t : Tok) : (rTok t).length = 6 := by cases t <;> rfl
theorem rTok_any (t : Tok) : ∃ k s n r c b, rTok t = tok6 k s n r c b := by cases t <;> exact ⟨_, _, _, _, _, _, rfl⟩
theorem toksG_space (r : List UInt8) : toksG (32 :: r) = toksG r := by
 rw [← toksG_trim, trimG, if_pos rfl, toksG_trim]
def S21 (l : List UInt8) (a : Nat × List Tok) : St := { sl := [(0, bs l), (4, .osl 0 6 0 a.2.length), (5, i64 a.1)], hp := [(0, some (.arr 6 (a.2.map rTok)))], nx := 1 }
theorem run_rtokens (l : List UInt8) (hl : l.length ≤ 1000000000000) : (W m e3 e4).run 21 [bs l] [] = some (rtoksR (toksG l), []) := by
 refine run_wp (by rw [W_T]; exact rfl) ?_
 simp -dsimp -implicitDefEqProofs (maxSteps := 1000000) (disch := omega) [ST]
 refine wp_inv (S21 l) (fun a => a.1 ≤ l.length ∧ (toksG (l.drop a.1)).map (a.2 ++ ·) = toksG l ∧ a.2.length ≤ a.1) (fun a => l.length - a.1) (0, []) ⟨by simp, by simp, by simp⟩ (by simp -dsimp -implicitDefEqProofs (maxSteps := 1000000) (disch := omega) [ST, S21]) ?_
 rintro ⟨i, o⟩ ⟨hi, ho, hle⟩
 simp only at hi ho hle
 by_cases h : i < l.length
 ·obtain ⟨c, hc⟩ : ∃ c, l[i] = c := ⟨_, rfl⟩
  have hcons : l.drop i = c :: l.drop (i + 1) := by rw [List.drop_eq_getElem_cons h, hc]
  by_cases h32 : c = 32
  ·have hcn : c.toNat = 32 := by rw [h32]; rfl
   rw [hcons, h32, toksG_space] at ho
   simp -dsimp -implicitDefEqProofs (maxSteps := 1000000) (disch := omega) [ST, S21, h, hc, hcn]
   refine again (i + 1, o) ⟨by simp only; omega, ho, by simp only; omega⟩ (by simp only; omega) (by simp -dsimp -implicitDefEqProofs (maxSteps := 1000000) (disch := omega) [ST, S21])
  ·have hcn : ¬ c.toNat = 32 := nat_ne (by omega) h32
   have ht : trimG (c :: l.drop (i + 1)) = c :: l.drop (i + 1) := by rw [trimG, if_neg h32]
   rw [hcons, toksG_cons ht, ← hcons] at ho
   have hr := run_token (m := m) (e3 := e3) (e4 := e4) l i hl h
   cases hx : nextG (l.drop i) with
   | none =>
    rw [hx] at ho hr
    simp only [Option.map_none] at ho
    obtain ⟨k, s, n, r', c', b, e, hr⟩ := hr
    simp only [tokA, List.map] at hr
    rw [← ho]
    simp -dsimp -implicitDefEqProofs (maxSteps := 1000000) (disch := omega) [ST, S21, h, hc, hcn, hr, rtoksR]
   | some p =>
    obtain ⟨t, n⟩ := p
    rw [hx] at ho hr
    have hr : (W m e3 e4).run 46 [bs l, i64 i] [] = some (.tup [tokA (rTok t), i64 (i + n : Nat), bo true], []) := hr
    simp only at ho
    obtain ⟨p1, p2⟩ := nextG_pos hx
    rw [List.length_drop] at p2
    obtain ⟨k, ts, nn, rr, cc, b, hk⟩ := rTok_any t
    simp only [hk, tokA, List.map, Int.natCast_add] at hr
    simp -dsimp -implicitDefEqProofs (maxSteps := 1000000) (disch := omega) [ST, S21, h, hc, hcn, hr, show o.length + 1 ≤ 140737488355328 by omega]
    refine again (i + n, o ++ [t]) ⟨by simp only; omega, ?_, by simp; omega⟩ (by simp only; omega) (by simp -dsimp -implicitDefEqProofs (maxSteps := 1000000) (disch := omega) [ST, S21, hk])
    simp only
    rw [← ho, List.drop_drop]
    cases toksG (l.drop (i + n)) <;> simp
 ·have : i = l.length := by omega
  subst this
  rw [List.drop_length] at ho
  have e : toksG l = some o := by rw [← ho]; simp [toksG, toksF, trimG]
  rw [e]
  simp -dsimp -implicitDefEqProofs (maxSteps := 1000000) (disch := omega) [ST, S21, rtoksR, List.take_of_length_le]
end Go.Vai
