/-
  What functions of layer 9 and of its reference compute: equations of the abstract run, and plain laws of them.
-/
import Derived.Test.YtnfjgkjapcaobaaGreatDoorL9
set_option linter.unusedVariables false
set_option linter.unusedSimpArgs false
set_option linter.unnecessarySimpa false
set_option linter.unusedSectionVars false
namespace Go.Vai
variable {m : Int} {e3 e4 : Value}
structure Row22 where
 n : Nd
 e : Int
 ok : Bool
 j : Nat
 o : Bool
def S22 (ts : List Tok) (lv d : Nat) (x : Row22) : St :=
 { sl := [(0, tl6 ts), (2, i64 lv), (3, i64 d), (8, .bp 0 0), (9, .bp 1 0)],
   hp := [(0, some (.box [i64 0, i64 0, bs [], i64 0, i64 0, i64 0, i64 0, .emp, i64 0, bo false])), (1, some (.box (hd7 x.n ++ [if x.o = true then .osl 2 8 0 (argsOf x.n).length else .fz (.sl (eNds (argsOf x.n))), i64 x.e, bo x.ok])))] ++ (if x.o = true then [(2, some (.arr 8 (eNds (argsOf x.n))))] else []), nx := if x.o = true then 3 else 2 }
def I22 (part : List Tok → Rd) (ts : List Tok) (lv : Nat) (X : Rd) (x : Row22) : Prop :=
 (x.o = true → ∃ s a b, x.n = op2 s a b) ∧ match x.ok with
 | true => (∃ a : Nat, x.e = a ∧ a ≤ ts.length ∧ (lv ≠ 0 → ts.length - a ≤ x.j) ∧ (lv = 0 → x.j = 1) ∧ pRow part (sgL lv) x.j x.n (ts.drop a) = X)
 | false => X = none
def opM (part : List Tok → Rd) (lv : Nat) (s : List Tok) : Rd := match part s with
 | none => none
 | some (n, ts1) => pRow part (sgL lv) (if lv = 0 then 1 else ts1.length) n ts1
theorem run_op (part : List Tok → Rd) (ts : List Tok) (lv d at' : Nat) (hlv : lv < 4) (hd : d ≤ 100) (hN : ts.length ≤ 1000000000000) (ha : at' ≤ ts.length)
 (hlen : ∀ ts n ts', part ts = some (n, ts') → ts'.length < ts.length)
 (hp : ∀ a : Nat, at' ≤ a → a ≤ ts.length → RG ts (part (ts.drop a)) ((W m e3 e4).run 22 [tl6 ts, i64 a, i64 ((lv : Int) + 1), i64 d] [])) :
 RG ts (opM part lv (ts.drop at')) ((W m e3 e4).run 22 [tl6 ts, i64 at', i64 lv, i64 d] []) := by
 obtain ⟨n1, e1, ok1, h1, h2⟩ := RG_shape (hp at' (Nat.le_refl _) ha)
 unfold opM
 generalize hX : (match part (ts.drop at') with
  | none => (none : Rd)
  | some (n, ts1) => pRow part (sgL lv) (if lv = 0 then 1 else ts1.length) n ts1) = X
 have hat : ok1 = true → ∃ a : Nat, e1 = a ∧ at' ≤ a := by
  intro hok
  rcases h2 with ⟨rfl, _⟩ | ⟨_, a, rfl, h3, h4⟩
  ·cases hok
  ·have := hlen _ _ _ h4
   simp only [List.length_drop] at this
   exact ⟨a, rfl, by omega⟩
 have hI : I22 part ts lv X ⟨n1, e1, ok1, if lv = 0 then 1 else ts.length - e1.toNat, false⟩ ∧ (ok1 = true → at' ≤ e1.toNat) := by
  refine ⟨⟨by simp, ?_⟩, fun hok => ?_⟩
  ·rcases h2 with ⟨rfl, h2⟩ | ⟨rfl, a, rfl, h3, h4⟩
   ·rw [h2] at hX; exact hX.symm
   ·rw [h4] at hX
    refine ⟨a, rfl, h3, fun h => ?_, fun h => ?_, ?_⟩
    ·simp only; rw [if_neg h]; simp
    ·simp only; rw [if_pos h]
    ·simp only at hX ⊢
     rw [← hX]
     congr 1
     rw [List.length_drop]
     simp
  ·obtain ⟨a, rfl, h⟩ := hat hok
   simpa using h
 have h5 : ¬ (lv : Int) = 4 := by omega
 refine run_wpE (by rw [W_T]; exact rfl) ?_
 obtain ⟨kk, n, t, p1, p2, p3, p4, l⟩ := n1
 simp only [rgA_mk] at h1
 simp -dsimp -implicitDefEqProofs (maxSteps := 1000000) (disch := omega) [ST, h1, h5]
 refine wp_inv (S22 ts lv d) (fun x => I22 part ts lv X x ∧ (x.ok = true → at' ≤ x.e.toNat)) (fun x => if x.ok = false then 0 else x.j + 1) ⟨.mk kk n t p1 p2 p3 p4 l, e1, ok1, if lv = 0 then 1 else ts.length - e1.toNat, false⟩ hI (by simp -dsimp -implicitDefEqProofs (maxSteps := 1000000) (disch := omega) [ST, S22, hd7, argsOf]) ?_
 rintro ⟨n0, e, ok, j, o⟩ ⟨⟨hO, hI⟩, hge⟩
 have shape : ∃ k n t p1 p2 p3 p4 l, n0 = .mk k n t p1 p2 p3 p4 l ∧ (o = true → ∃ a b, l = [a, b]) := by
  cases o with
  | true =>
   obtain ⟨s, a, b, h⟩ := hO rfl
   exact ⟨_, _, _, _, _, _, _, _, h, fun _ => ⟨a, b, rfl⟩⟩
  | false =>
   cases n0
   exact ⟨_, _, _, _, _, _, _, _, rfl, fun h => by cases h⟩
 clear h1 hat
 obtain ⟨k, n, t, p1, p2, p3, p4, l, rfl, hl2⟩ := shape
 clear hO
 cases ok with
 | false =>
  have hX : X = none := hI
  subst hX
  cases o with
  | true =>
   obtain ⟨a, b, rfl⟩ := hl2 rfl
   simp -dsimp -implicitDefEqProofs (maxSteps := 1000000) (disch := omega) [ST, S22, hd7, argsOf, eNds]
   exact ⟨.mk k n t p1 p2 p3 p4 [a, b], e, rfl⟩
  | false =>
   simp -dsimp -implicitDefEqProofs (maxSteps := 1000000) (disch := omega) [ST, S22, hd7, argsOf]
   exact ⟨.mk k n t p1 p2 p3 p4 l, e, rfl⟩
 | true =>
  obtain ⟨a, he, g1, g2, g3, g4⟩ := hI
  simp only at he g1 g2 g3 g4 hge
  subst he
  have ham := run_among (m := m) (e3 := e3) (e4 := e4) ts a lv hlv hN (by omega)
  cases htk : takeS (sgL lv) (ts.drop a) with
  | none =>
   rw [htk] at ham
   simp only [Option.isSome_none] at ham
   have hX : X = some (.mk k n t p1 p2 p3 p4 l, ts.drop a) := by
    rw [← g4]
    cases j with
    | zero => rfl
    | succ j => rw [pRow, htk]
   subst hX
   cases o with
   | true =>
    obtain ⟨a2, b2, rfl⟩ := hl2 rfl
    simp -dsimp -implicitDefEqProofs (maxSteps := 1000000) (disch := omega) [ST, S22, hd7, argsOf, ham, eNds]
    exact ⟨a, g1, rfl, rfl⟩
   | false =>
    simp -dsimp -implicitDefEqProofs (maxSteps := 1000000) (disch := omega) [ST, S22, hd7, argsOf, ham]
    exact ⟨a, g1, rfl, rfl⟩
  | some q =>
   obtain ⟨s, r⟩ := q
   rw [htk] at ham
   simp only [Option.isSome_some] at ham
   have hl3 := (takeS_len htk).1
   simp only [List.length_drop] at hl3
   have hal : a < ts.length := by omega
   have htok : ts.drop a = .sign s :: r ∧ r = ts.drop (a + 1) := by
    have hc := List.drop_eq_getElem_cons hal
    rw [hc] at htk
    unfold takeS at htk
    split at htk
    ·rename_i s' r' he
     injection he with he1 he2
     split at htk
     ·injection htk with htk; injection htk with q1 q2
      subst q1; subst q2
      rw [hc, he1, he2]
      exact ⟨rfl, rfl⟩
     ·cases htk
    ·cases htk
   obtain ⟨ht1, ht2⟩ := htok
   have hg : ∀ h : a < ts.length, ts[a] = .sign s := by
    intro h
    have hc := List.drop_eq_getElem_cons h
    rw [ht1] at hc
    injection hc with hc _
    exact hc.symm
   have hj0 : 0 < j := by
    by_cases h : lv = 0
    ·rw [g3 h]; omega
    ·have := g2 h; omega
   obtain ⟨j, rfl⟩ : ∃ j', j = j' + 1 := ⟨j - 1, by omega⟩
   rw [pRow, htk] at g4
   simp only at g4
   have hge2 : at' ≤ a := by have := hge trivial; simpa using this
   obtain ⟨n2, e2, ok2, h3, h4⟩ := RG_shape (hp (a + 1) (by omega) (by omega))
   rw [← ht2] at h4
   have hK : lv = 0 → RGP ts X (rgA (op2 s (.mk k n t p1 p2 p3 p4 l) n2) e2 ok2, []) := by
    intro h
    rcases h4 with ⟨rfl, h4⟩ | ⟨rfl, a2, rfl, h5, h4⟩
    ·rw [h4] at g4
     simp only at g4
     rw [← g4]
     exact ⟨_, _, rfl⟩
    ·rw [h4] at g4
     have : j = 0 := by have := g3 h; omega
     subst this
     simp only [pRow] at g4
     rw [← g4]
     exact ⟨a2, h5, rfl, rfl⟩
   have hI2 : lv ≠ 0 → (I22 part ts lv X ⟨op2 s (.mk k n t p1 p2 p3 p4 l) n2, e2, ok2, j, true⟩ ∧ (ok2 = true → at' ≤ e2.toNat)) := by
    intro h
    rcases h4 with ⟨rfl, h4⟩ | ⟨rfl, a2, rfl, h5, h4⟩
    ·rw [h4] at g4
     exact ⟨⟨fun _ => ⟨_, _, _, rfl⟩, g4.symm⟩, fun h => by cases h⟩
    ·rw [h4] at g4
     have hll := hlen _ _ _ h4
     rw [ht2] at hll
     simp only [List.length_drop] at hll
     exact ⟨⟨fun _ => ⟨_, _, _, rfl⟩, a2, rfl, h5, fun _ => by simp only; have := g2 h; omega, fun hh => absurd hh h, g4⟩, fun _ => by simp; omega⟩
   clear h4 g4
   obtain ⟨k', n', t', q1, q2, q3, q4, l'⟩ := n2
   simp only [rgA_mk, Int.natCast_add, Int.natCast_one] at h3
   by_cases hlv0 : lv = 0
   ·subst hlv0
    have hK := hK rfl
    simp only [Int.natCast_zero, Int.zero_add] at h3 ham
    cases o with
    | true =>
     obtain ⟨a2, b2, rfl⟩ := hl2 rfl
     simp -dsimp -implicitDefEqProofs (maxSteps := 1000000) (disch := omega) [ST, S22, hd7, argsOf, ham, h3, hal, hg, rTok_s, eNds]
     exact hK
    | false =>
     simp -dsimp -implicitDefEqProofs (maxSteps := 1000000) (disch := omega) [ST, S22, hd7, argsOf, ham, h3, hal, hg, rTok_s, eNds]
     exact hK
   ·have hI2 := hI2 hlv0
    have hlvi : ¬ (lv : Int) = 0 := by omega
    cases o with
    | true =>
     obtain ⟨a2, b2, rfl⟩ := hl2 rfl
     simp -dsimp -implicitDefEqProofs (maxSteps := 1000000) (disch := omega) [ST, S22, hd7, argsOf, ham, h3, hal, hg, rTok_s, eNds, hlvi, hlv0]
     refine again ⟨op2 s (.mk k n t p1 p2 p3 p4 [a2, b2]) (.mk k' n' t' q1 q2 q3 q4 l'), e2, ok2, j, true⟩ hI2 (by cases ok2 <;> simp) (by simp -dsimp -implicitDefEqProofs (maxSteps := 1000000) (disch := omega) [ST, S22, hd7, argsOf, op2, eNds, eNd])
    | false =>
     simp -dsimp -implicitDefEqProofs (maxSteps := 1000000) (disch := omega) [ST, S22, hd7, argsOf, ham, h3, hal, hg, rTok_s, eNds, hlvi, hlv0]
     refine again ⟨op2 s (.mk k n t p1 p2 p3 p4 l) (.mk k' n' t' q1 q2 q3 q4 l'), e2, ok2, j, true⟩ hI2 (by cases ok2 <;> simp) (by simp -dsimp -implicitDefEqProofs (maxSteps := 1000000) (disch := omega) [ST, S22, hd7, argsOf, op2, eNds, eNd])
end Go.Vai
namespace Go.Vai
variable {m : Int} {e3 e4 : Value}
theorem take_drop {sg : List (List UInt8)} {ts : List Tok} {a : Nat} {q : List UInt8 × List Tok} (h : takeS sg (ts.drop a) = some q) : a < ts.length ∧ q.2 = ts.drop (a + 1) ∧ ∀ h : a < ts.length, ts[a] = .sign q.1 := by
 have hl3 := (takeS_len h).1
 simp only [List.length_drop] at hl3
 have hal : a < ts.length := by omega
 have hc := List.drop_eq_getElem_cons hal
 rw [hc] at h
 unfold takeS at h
 split at h
 ·rename_i s' r' he
  injection he with he1 he2
  split at h
  ·injection h with h
   subst h
   exact ⟨hal, he2.symm, fun _ => he1⟩
  ·cases h
 ·cases h
theorem run_rminus {k : Nat} (ts : List Tok) (at' d : Nat) (hd : d ≤ 32) (hN : ts.length ≤ 1000000000000) (ha : at' ≤ ts.length) (hk : 8 * (ts.length - at') + 3 ≤ k + 1)
 (im : d + 1 ≤ 32 → at' + 1 ≤ ts.length → RG ts (pr k .minus (d + 1) (ts.drop (at' + 1))) ((W m e3 e4).run 47 [tl6 ts, i64 (at' + 1 : Nat), i64 (d + 1 : Nat)] []))
 (is : at' < ts.length → RG ts (pr k .single d (ts.drop at')) ((W m e3 e4).run 95 [tl6 ts, i64 at', i64 d] [])) :
 RG ts (pr (k + 1) .minus d (ts.drop at')) ((W m e3 e4).run 47 [tl6 ts, i64 at', i64 d] []) := by
 have hdi : ¬ (d : Int) > 32 := by omega
 have hd32 : ¬ d > 32 := by omega
 by_cases hat : at' < ts.length
 ·have hi := run_is (m := m) (e3 := e3) (e4 := e4) ts at' [45] hN (by omega)
  simp only [pr]
  cases htk : takeS [[45]] (ts.drop at') with
  | none =>
   rw [htk] at hi
   simp only [Option.isSome_none] at hi
   simp only
   obtain ⟨n, e, ok, h1, h2⟩ := RG_shape (is hat)
   refine RG_of (n := n) (e := e) (ok := ok) ?_ h2
   obtain ⟨kk, n, t, p1, p2, p3, p4, l⟩ := n
   refine run_wp (by rw [W_T]; exact rfl) ?_
   simp only [rgA_mk] at h1 ⊢
   simp -dsimp -implicitDefEqProofs (maxSteps := 1000000) (disch := omega) [ST, hi, h1, hat, hd32]
  | some q =>
   obtain ⟨s, r⟩ := q
   obtain ⟨q1, q2, q3⟩ := take_drop htk
   simp only at q2 q3
   rw [htk] at hi
   simp only [Option.isSome_some] at hi
   simp only
   by_cases hdeep : d + 1 > 32
   ·rw [if_pos hdeep]
    have hu := run_rminus_deep (m := m) (e3 := e3) (e4 := e4) ts (at' + 1) (d + 1) hdeep (by omega)
    refine RG_of (n := op1 zNd) (e := 0) (ok := false) ?_ (.inl ⟨rfl, rfl⟩)
    refine run_wp (by rw [W_T]; exact rfl) ?_
    simp only [op1, zNd, rgA_mk, Int.natCast_add, Int.natCast_one] at hu ⊢
    simp -dsimp -implicitDefEqProofs (maxSteps := 1000000) (disch := omega) [ST, hi, hu, hat, hd32, eNds, eNd]
   ·rw [if_neg hdeep]
    obtain ⟨n, e, ok, h1, h2⟩ := RG_shape (im (by omega) (by omega))
    rw [← q2] at h2
    refine RG_of (n := op1 n) (e := e) (ok := ok) ?_ ?_
    ·obtain ⟨kk, n, t, p1, p2, p3, p4, l⟩ := n
     refine run_wp (by rw [W_T]; exact rfl) ?_
     simp only [op1, rgA_mk, Int.natCast_add, Int.natCast_one] at h1 ⊢
     simp -dsimp -implicitDefEqProofs (maxSteps := 1000000) (disch := omega) [ST, hi, h1, hat, hd32, eNds, eNd]
    ·rcases h2 with ⟨rfl, h2⟩ | ⟨rfl, a, rfl, h3, h2⟩
     ·exact .inl ⟨rfl, by rw [h2]; rfl⟩
     ·exact .inr ⟨rfl, a, rfl, h3, by rw [h2]; rfl⟩
 ·have hnil : ts.drop at' = [] := List.drop_of_length_le (by omega)
  rw [hnil]
  obtain ⟨k, rfl⟩ : ∃ k', k = k' + 1 := ⟨k - 1, by omega⟩
  refine RG_of (n := zNd) (e := 0) (ok := false) ?_ (.inl ⟨rfl, rfl⟩)
  refine run_wp (by rw [W_T]; exact rfl) ?_
  simp only [zNd, rgA_mk]
  simp -dsimp -implicitDefEqProofs (maxSteps := 1000000) (disch := omega) [ST, hat, hd32, eNds]
end Go.Vai
