/-
  What functions of layer 9 and of its reference compute: equations of the abstract run, and plain laws of them.
-/
import Derived.Test.YtnfjgkjapcaobaaGreatDoorLB
set_option linter.unusedVariables false
set_option linter.unusedSimpArgs false
set_option linter.unnecessarySimpa false
set_option linter.unusedSectionVars false
namespace Go.Vai
variable {m : Int} {e3 e4 : Value}
def finC (t : List UInt8) (y : Option (List Nd × List Tok)) : Rd := match y with
 | none => none
 | some (ns, ts1) => (takeS [[41]] ts1).map fun p => (calN t ns, p.2)
structure Arg125 where
 l : List Nd
 a : Nat
 j : Nat
def S125 (ts : List Tok) (t : List UInt8) (d : Nat) (x : Arg125) : St :=
 { sl := [(0, tl6 ts), (2, i64 d), (6, .bp 0 0), (7, .bp 1 0), (8, i64 x.a)],
   hp := [(0, some (.box [i64 0, i64 0, bs [], i64 0, i64 0, i64 0, i64 0, .emp, i64 0, bo false])), (1, some (.box [i64 6, i64 0, bs t, i64 0, i64 0, i64 0, i64 0, .osl 2 8 0 x.l.length])), (2, some (.arr 8 (eNds x.l)))], nx := 3 }
theorem run_rcall {k : Nat} (ts : List Tok) (t : List UInt8) (at' d : Nat) (hd : d ≤ 32) (hN : ts.length ≤ 1000000000000) (ha : at' < ts.length) (ht : ts[at'] = .name t)
 (ih : d + 1 ≤ 32 → ∀ a : Nat, at' + 2 ≤ a → a ≤ ts.length → RG ts (pr k .form (d + 1) (ts.drop a)) ((W m e3 e4).run 22 [tl6 ts, i64 a, i64 0, i64 ((d : Int) + 1)] [])) :
 RG ts (callM k t d (ts.drop (at' + 1))) ((W m e3 e4).run 125 [tl6 ts, i64 at', i64 d] []) := by
 have hi1 := run_is (m := m) (e3 := e3) (e4 := e4) ts (at' + 1) [40] hN (by omega)
 have hi2 := run_is (m := m) (e3 := e3) (e4 := e4) ts (at' + 2) [41] hN (by omega)
 have hg : ∀ h : at' < ts.length, ts[at'] = .name t := fun _ => ht
 simp only [Int.natCast_add, Int.natCast_one, show ((2 : Nat) : Int) = 2 from rfl] at hi1 hi2
 unfold callM
 cases htk : takeS [[40]] (ts.drop (at' + 1)) with
 | none =>
  rw [htk] at hi1
  simp only [Option.isSome_none] at hi1
  simp only
  refine RG_of (n := zNd) (e := 0) (ok := false) ?_ (.inl ⟨rfl, rfl⟩)
  refine run_wp (by rw [W_T]; exact rfl) ?_
  simp only [zNd, rgA_mk]
  simp -dsimp -implicitDefEqProofs (maxSteps := 1000000) (disch := omega) [ST, hi1, eNds]
 | some q =>
  obtain ⟨s, r2⟩ := q
  obtain ⟨q1, q2, q3⟩ := take_drop htk
  simp only at q2 q3
  subst q2
  rw [htk] at hi1
  simp only [Option.isSome_some] at hi1
  simp only
  by_cases hdeep : d + 1 > 32
  ·rw [if_pos hdeep]
   refine RG_of (n := zNd) (e := 0) (ok := false) ?_ (.inl ⟨rfl, rfl⟩)
   refine run_wp (by rw [W_T]; exact rfl) ?_
   simp only [zNd, rgA_mk]
   simp -dsimp -implicitDefEqProofs (maxSteps := 1000000) (disch := omega) [ST, hi1, eNds, show (d : Int) + 1 > 32 by omega]
  ·rw [if_neg hdeep]
   have hdi : ¬ (32 : Int) < (d : Int) + 1 := by omega
   cases htk2 : takeS [[41]] (ts.drop (at' + 1 + 1)) with
   | some q2 =>
    obtain ⟨s2, r3⟩ := q2
    obtain ⟨w1, w2, w3⟩ := take_drop htk2
    simp only at w2
    subst w2
    rw [show at' + 2 = at' + 1 + 1 from rfl, htk2] at hi2
    simp only [Option.isSome_some] at hi2
    simp only
    refine RG_of (n := calN t []) (e := (at' : Int) + 3) (ok := true) ?_ (.inr ⟨rfl, at' + 1 + 1 + 1, by omega, by omega, rfl⟩)
    refine run_wp (by rw [W_T]; exact rfl) ?_
    simp only [calN, rgA_mk]
    simp -dsimp -implicitDefEqProofs (maxSteps := 1000000) (disch := omega) [ST, hi1, hi2, hdi, ha, hg, rTok_m, eNds]
   | none =>
    rw [show at' + 2 = at' + 1 + 1 from rfl, htk2] at hi2
    simp only [Option.isSome_none] at hi2
    simp only
    have ih := ih (by omega)
    show RG ts (finC t (pArg (pr k .form (d + 1)) ((ts.drop (at' + 1 + 1)).length + 1) [] (ts.drop (at' + 1 + 1)))) _
    obtain ⟨X, hX2⟩ : ∃ X, finC t (pArg (pr k .form (d + 1)) ((ts.drop (at' + 1 + 1)).length + 1) [] (ts.drop (at' + 1 + 1))) = X := ⟨_, rfl⟩
    rw [hX2]
    refine run_wpE (by rw [W_T]; exact rfl) ?_
    simp -dsimp -implicitDefEqProofs (maxSteps := 1000000) (disch := omega) [ST, hi1, hi2, hdi, ha, hg, rTok_m]
    refine wp_inv (S125 ts t d) (fun x => at' + 2 ≤ x.a ∧ x.a ≤ ts.length ∧ ts.length - x.a < x.j ∧ x.l.length + (ts.length - x.a) ≤ ts.length ∧ finC t (pArg (pr k .form (d + 1)) x.j x.l (ts.drop x.a)) = X) (fun x => ts.length - x.a) ⟨[], at' + 2, (ts.drop (at' + 1 + 1)).length + 1⟩ ⟨by simp, by simp only; omega, by simp only [List.length_drop]; omega, by simp, hX2⟩ (by simp -dsimp -implicitDefEqProofs (maxSteps := 1000000) (disch := omega) [ST, S125, eNds]) ?_
    rintro ⟨l, a, j⟩ ⟨g1, g2, g3, g4, g5⟩
    simp only at g1 g2 g3 g4 g5
    obtain ⟨j, rfl⟩ : ∃ j', j = j' + 1 := ⟨j - 1, by omega⟩
    rw [pArg] at g5
    obtain ⟨n2, e2, ok2, h3, h4⟩ := RG_shape (ih a g1 g2)
    obtain ⟨kk, n, t2, p1, p2, p3, p4, l2⟩ := n2
    simp only [rgA_mk] at h3
    rcases h4 with ⟨rfl, h4⟩ | ⟨rfl, a2, rfl, h5, h4⟩
    ·rw [h4] at g5
     have hX : X = none := g5.symm
     subst hX
     simp -dsimp -implicitDefEqProofs (maxSteps := 1000000) (disch := omega) [ST, S125, h3]
     exact ⟨zNd, 0, rfl⟩
    ·have hlen := pr_len _ _ _ _ _ _ h4
     simp only [List.length_drop] at hlen
     rw [h4] at g5
     simp only at g5
     have hj1 := run_is (m := m) (e3 := e3) (e4 := e4) ts a2 [41] hN (by omega)
     have hj2 := run_is (m := m) (e3 := e3) (e4 := e4) ts a2 [44] hN (by omega)
     cases htk4 : takeS [[41]] (ts.drop a2) with
     | some q4 =>
      obtain ⟨s4, r4⟩ := q4
      obtain ⟨w1, w2, w3⟩ := take_drop htk4
      simp only at w2
      have hno : takeS [[44]] (ts.drop a2) = none := by
       have hc := List.drop_eq_getElem_cons w1
       have hs4 : s4 = [41] := by have := (takeS_len htk4).2; simpa using this
       rw [hc, w3 w1, hs4]
       rfl
      rw [hno] at g5
      simp only [finC, htk4, Option.map_some] at g5
      rw [htk4] at hj1
      simp only [Option.isSome_some] at hj1
      subst g5
      simp -dsimp -implicitDefEqProofs (maxSteps := 1000000) (disch := omega) [ST, S125, h3, hj1, show l.length + 1 ≤ 140737488355328 by omega]
      exact ⟨a2 + 1, by omega, w2, by simp [calN, rgA_mk, eNds_app, eNd, eNds]⟩
     | none =>
      rw [htk4] at hj1
      simp only [Option.isSome_none] at hj1
      cases htk5 : takeS [[44]] (ts.drop a2) with
      | none =>
       rw [htk5] at g5 hj2
       simp only [finC, htk4, Option.map_none] at g5
       simp only [Option.isSome_none] at hj2
       subst g5
       simp -dsimp -implicitDefEqProofs (maxSteps := 1000000) (disch := omega) [ST, S125, h3, hj1, hj2, show l.length + 1 ≤ 140737488355328 by omega]
       exact ⟨zNd, 0, rfl⟩
      | some q5 =>
       obtain ⟨s5, r5⟩ := q5
       obtain ⟨w1, w2, w3⟩ := take_drop htk5
       simp only at w2
       subst w2
       rw [htk5] at g5 hj2
       simp only at g5
       simp only [Option.isSome_some] at hj2
       simp -dsimp -implicitDefEqProofs (maxSteps := 1000000) (disch := omega) [ST, S125, h3, hj1, hj2, show l.length + 1 ≤ 140737488355328 by omega]
       refine again ⟨l ++ [.mk kk n t2 p1 p2 p3 p4 l2], a2 + 1, j⟩ ⟨by simp only; omega, by simp only; omega, by simp only; omega, by simp; omega, g5⟩ (by simp only; omega) (by simp -dsimp -implicitDefEqProofs (maxSteps := 1000000) (disch := omega) [ST, S125, eNds_app, eNd])
end Go.Vai
namespace Go.Vai
variable {m : Int} {e3 e4 : Value}
theorem run_rsingle {k : Nat} (ts : List Tok) (at' d : Nat) (hd : d ≤ 32) (hN : ts.length ≤ 1000000000000) (ha : at' < ts.length)
 (ih : d + 1 ≤ 32 → ∀ a : Nat, at' + 1 ≤ a → a ≤ ts.length → RG ts (pr k .form (d + 1) (ts.drop a)) ((W m e3 e4).run 22 [tl6 ts, i64 a, i64 0, i64 ((d : Int) + 1)] [])) :
 RG ts (pr (k + 1) .single d (ts.drop at')) ((W m e3 e4).run 95 [tl6 ts, i64 at', i64 d] []) := by
 obtain ⟨t, ht⟩ : ∃ t, ts[at'] = t := ⟨_, rfl⟩
 have hg : ∀ h : at' < ts.length, ts[at'] = t := fun _ => ht
 rw [List.drop_eq_getElem_cons ha, ht]
 cases t with
 | name t =>
  rw [pr_name]
  obtain ⟨n, e, ok, h1, h2⟩ := RG_shape (run_rcall ts t at' d hd hN ha ht (fun hd2 a h3 h4 => ih hd2 a (by omega) h4))
  refine RG_of (n := n) (e := e) (ok := ok) ?_ h2
  obtain ⟨kk, n, t2, p1, p2, p3, p4, l⟩ := n
  refine run_wp (by rw [W_T]; exact rfl) ?_
  simp only [rgA_mk] at h1 ⊢
  simp -dsimp -implicitDefEqProofs (maxSteps := 1000000) (disch := omega) [ST, h1, ha, hg, rTok_m]
 | num n =>
  refine RG_of (n := numN n) (e := (at' : Int) + 1) (ok := true) ?_ (.inr ⟨rfl, at' + 1, by omega, by omega, rfl⟩)
  refine run_wp (by rw [W_T]; exact rfl) ?_
  simp only [numN, rgA_mk]
  simp -dsimp -implicitDefEqProofs (maxSteps := 1000000) (disch := omega) [ST, ha, hg, rTok_n, eNds]
 | txt n =>
  refine RG_of (n := txtN n) (e := (at' : Int) + 1) (ok := true) ?_ (.inr ⟨rfl, at' + 1, by omega, by omega, rfl⟩)
  refine run_wp (by rw [W_T]; exact rfl) ?_
  simp only [txtN, rgA_mk]
  simp -dsimp -implicitDefEqProofs (maxSteps := 1000000) (disch := omega) [ST, ha, hg, rTok_t, eNds]
 | plc a b =>
  rw [pr_plc]
  have hi1 := run_is (m := m) (e3 := e3) (e4 := e4) ts (at' + 1) [58] hN (by omega)
  simp only [Int.natCast_add, Int.natCast_one] at hi1
  unfold cellM
  cases htk : takeS [[58]] (ts.drop (at' + 1)) with
  | none =>
   rw [htk] at hi1
   simp only [Option.isSome_none] at hi1
   simp only
   refine RG_of (n := celN a b) (e := (at' : Int) + 1) (ok := true) ?_ (.inr ⟨rfl, at' + 1, by omega, by omega, rfl⟩)
   refine run_wp (by rw [W_T]; exact rfl) ?_
   simp only [celN, rgA_mk]
   simp -dsimp -implicitDefEqProofs (maxSteps := 1000000) (disch := omega) [ST, hi1, ha, hg, rTok_p, eNds]
  | some q =>
   obtain ⟨s, r2⟩ := q
   obtain ⟨w1, w2, w3⟩ := take_drop htk
   simp only at w2
   subst w2
   rw [htk] at hi1
   simp only [Option.isSome_some] at hi1
   by_cases h2 : at' + 2 < ts.length
   ·obtain ⟨t2, ht2⟩ : ∃ t, ts[at' + 2] = t := ⟨_, rfl⟩
    have hg2 : ∀ h : at' + 2 < ts.length, ts[at' + 2] = t2 := fun _ => ht2
    have z2 : ((at' : Int) + 2).toNat = at' + 2 := by omega
    rw [show at' + 1 + 1 = at' + 2 from rfl, List.drop_eq_getElem_cons h2, ht2]
    cases t2 with
    | plc a2 b2 =>
     simp only
     refine RG_of (n := rngN a b a2 b2) (e := (at' : Int) + 3) (ok := true) ?_ (.inr ⟨rfl, at' + 3, by omega, by omega, rfl⟩)
     refine run_wp (by rw [W_T]; exact rfl) ?_
     simp only [rngN, rgA_mk]
     simp -dsimp -implicitDefEqProofs (maxSteps := 1000000) (disch := omega) [ST, hi1, ha, hg, h2, hg2, z2, rTok_p, eNds, show (at' : Int) + 2 < ts.length by omega]
    | sign t2 =>
     simp only
     refine RG_of (n := zNd) (e := 0) (ok := false) ?_ (.inl ⟨rfl, rfl⟩)
     refine run_wp (by rw [W_T]; exact rfl) ?_
     simp only [zNd, rgA_mk]
     simp -dsimp -implicitDefEqProofs (maxSteps := 1000000) (disch := omega) [ST, hi1, ha, hg, h2, hg2, z2, rTok_p, rTok_s, eNds, show (at' : Int) + 2 < ts.length by omega]
    | num t2 =>
     simp only
     refine RG_of (n := zNd) (e := 0) (ok := false) ?_ (.inl ⟨rfl, rfl⟩)
     refine run_wp (by rw [W_T]; exact rfl) ?_
     simp only [zNd, rgA_mk]
     simp -dsimp -implicitDefEqProofs (maxSteps := 1000000) (disch := omega) [ST, hi1, ha, hg, h2, hg2, z2, rTok_p, rTok_n, eNds, show (at' : Int) + 2 < ts.length by omega]
    | txt t2 =>
     simp only
     refine RG_of (n := zNd) (e := 0) (ok := false) ?_ (.inl ⟨rfl, rfl⟩)
     refine run_wp (by rw [W_T]; exact rfl) ?_
     simp only [zNd, rgA_mk]
     simp -dsimp -implicitDefEqProofs (maxSteps := 1000000) (disch := omega) [ST, hi1, ha, hg, h2, hg2, z2, rTok_p, rTok_t, eNds, show (at' : Int) + 2 < ts.length by omega]
    | name t2 =>
     simp only
     refine RG_of (n := zNd) (e := 0) (ok := false) ?_ (.inl ⟨rfl, rfl⟩)
     refine run_wp (by rw [W_T]; exact rfl) ?_
     simp only [zNd, rgA_mk]
     simp -dsimp -implicitDefEqProofs (maxSteps := 1000000) (disch := omega) [ST, hi1, ha, hg, h2, hg2, z2, rTok_p, rTok_m, eNds, show (at' : Int) + 2 < ts.length by omega]
   ·rw [List.drop_of_length_le (by omega)]
    simp only
    refine RG_of (n := zNd) (e := 0) (ok := false) ?_ (.inl ⟨rfl, rfl⟩)
    refine run_wp (by rw [W_T]; exact rfl) ?_
    simp only [zNd, rgA_mk]
    simp -dsimp -implicitDefEqProofs (maxSteps := 1000000) (disch := omega) [ST, hi1, ha, hg, rTok_p, eNds, show ¬ (at' : Int) + 2 < ts.length by omega]
 | sign s =>
  by_cases hs : s = [40]
  ·subst hs
   have e0 : takeS [[40]] (.sign [40] :: ts.drop (at' + 1)) = some ([40], ts.drop (at' + 1)) := by simp [takeS]
   simp only [pr, e0]
   by_cases hdeep : d + 1 > 32
   ·rw [if_pos hdeep]
    have hu := run_rop_deep (m := m) (e3 := e3) (e4 := e4) ts (at' + 1) (d + 1) hdeep (by omega) 4 (by omega)
    refine RG_of (n := zNd) (e := 1) (ok := false) ?_ (.inl ⟨rfl, rfl⟩)
    refine run_wp (by rw [W_T]; exact rfl) ?_
    simp only [zNd, rgA_mk, Int.natCast_add, Int.natCast_one, Nat.sub_self, Int.natCast_zero] at hu ⊢
    simp -dsimp -implicitDefEqProofs (maxSteps := 1000000) (disch := omega) [ST, hu, ha, hg, rTok_s, eNds]
   ·rw [if_neg hdeep]
    obtain ⟨n, e, ok, h1, h2⟩ := RG_shape (ih (by omega) (at' + 1) (Nat.le_refl _) (by omega))
    obtain ⟨kk, n, t2, p1, p2, p3, p4, l⟩ := n
    simp only [rgA_mk, Int.natCast_add, Int.natCast_one] at h1
    rcases h2 with ⟨rfl, h2⟩ | ⟨rfl, a, rfl, h3, h2⟩
    ·rw [h2]
     refine RG_of (n := .mk kk n t2 p1 p2 p3 p4 l) (e := IntKind.i64.wrap (e + 1)) (ok := false) ?_ (.inl ⟨rfl, rfl⟩)
     refine run_wp (by rw [W_T]; exact rfl) ?_
     simp only [rgA_mk]
     simp -dsimp -implicitDefEqProofs (maxSteps := 1000000) (disch := omega) [ST, h1, ha, hg, rTok_s]
    ·rw [h2]
     simp only
     have hi := run_is (m := m) (e3 := e3) (e4 := e4) ts a [41] hN (by omega)
     cases htk : takeS [[41]] (ts.drop a) with
     | none =>
      rw [htk] at hi
      simp only [Option.isSome_none] at hi
      refine RG_of (n := .mk kk n t2 p1 p2 p3 p4 l) (e := (a : Int) + 1) (ok := false) ?_ (.inl ⟨rfl, rfl⟩)
      refine run_wp (by rw [W_T]; exact rfl) ?_
      simp only [rgA_mk]
      simp -dsimp -implicitDefEqProofs (maxSteps := 1000000) (disch := omega) [ST, h1, hi, ha, hg, rTok_s]
     | some q =>
      obtain ⟨s2, r2⟩ := q
      obtain ⟨w1, w2, w3⟩ := take_drop htk
      simp only at w2
      subst w2
      rw [htk] at hi
      simp only [Option.isSome_some] at hi
      refine RG_of (n := .mk kk n t2 p1 p2 p3 p4 l) (e := (a : Int) + 1) (ok := true) ?_ (.inr ⟨rfl, a + 1, by omega, by omega, rfl⟩)
      refine run_wp (by rw [W_T]; exact rfl) ?_
      simp only [rgA_mk]
      simp -dsimp -implicitDefEqProofs (maxSteps := 1000000) (disch := omega) [ST, h1, hi, ha, hg, rTok_s]
  ·have e0 : takeS [[40]] (.sign s :: ts.drop (at' + 1)) = none := by simp [takeS, hs]
   have e : pr (k + 1) .single d (.sign s :: ts.drop (at' + 1)) = none := by simp only [pr, e0]
   rw [e]
   refine RG_of (n := zNd) (e := 0) (ok := false) ?_ (.inl ⟨rfl, rfl⟩)
   refine run_wp (by rw [W_T]; exact rfl) ?_
   simp only [zNd, rgA_mk]
   simp -dsimp -implicitDefEqProofs (maxSteps := 1000000) (disch := omega) [ST, ha, hg, rTok_s, hs, eNds]
end Go.Vai
namespace Go.Vai
variable {m : Int} {e3 e4 : Value}
def kOf : Nat → PK
 | 0 => .form
 | 1 => .join
 | 2 => .sum
 | 3 => .prod
 | _ => .minus
theorem pr_op (k d : Nat) (s : List Tok) : ∀ lv, lv < 4 → pr (k + 1) (kOf lv) d s = opM (pr k (kOf (lv + 1)) d) lv s
 | 0, _ => rfl
 | 1, _ => rfl
 | 2, _ => rfl
 | 3, _ => rfl
 | n + 4, h => by omega
theorem run_rop4 (ts : List Tok) (at' d : Nat) (x : Rd) (h : RG ts x ((W m e3 e4).run 47 [tl6 ts, i64 at', i64 d] [])) : RG ts x ((W m e3 e4).run 22 [tl6 ts, i64 at', i64 4, i64 d] []) := by
 obtain ⟨n, e, ok, h1, h2⟩ := RG_shape h
 refine RG_of (n := n) (e := e) (ok := ok) ?_ h2
 obtain ⟨kk, n, t, p1, p2, p3, p4, l⟩ := n
 refine run_wp (by rw [W_T]; exact rfl) ?_
 simp only [rgA_mk] at h1 ⊢
 simp -dsimp -implicitDefEqProofs (maxSteps := 1000000) (disch := omega) [ST, h1]
def IHr (m : Int) (e3 e4 : Value) (ts : List Tok) (k : Nat) : Prop := ∀ d at' : Nat, d ≤ 32 → at' ≤ ts.length →
 (∀ lv : Nat, lv ≤ 4 → 8 * (ts.length - at') + (7 - lv) ≤ k → RG ts (pr k (kOf lv) d (ts.drop at')) ((W m e3 e4).run 22 [tl6 ts, i64 at', i64 lv, i64 d] [])) ∧
 (8 * (ts.length - at') + 3 ≤ k → RG ts (pr k .minus d (ts.drop at')) ((W m e3 e4).run 47 [tl6 ts, i64 at', i64 d] [])) ∧
 (8 * (ts.length - at') + 2 ≤ k → at' < ts.length → RG ts (pr k .single d (ts.drop at')) ((W m e3 e4).run 95 [tl6 ts, i64 at', i64 d] []))
theorem run_rpr (ts : List Tok) (hN : ts.length ≤ 1000000000000) : ∀ k, IHr m e3 e4 ts k
 | 0 => fun d at' _ _ => ⟨fun lv h1 h2 => by omega, fun h => by omega, fun h => by omega⟩
 | k + 1 => fun d at' hd ha => by
  have ih := run_rpr ts hN k
  have hm : 8 * (ts.length - at') + 3 ≤ k + 1 → RG ts (pr (k + 1) .minus d (ts.drop at')) ((W m e3 e4).run 47 [tl6 ts, i64 at', i64 d] []) := fun hk =>
   run_rminus ts at' d hd hN ha hk (fun h1 h2 => (ih (d + 1) (at' + 1) h1 h2).2.1 (by omega)) (fun h => (ih d at' hd ha).2.2 (by omega) h)
  refine ⟨fun lv h1 hk => ?_, hm, fun hk hat => ?_⟩
  ·by_cases h4 : lv = 4
   ·subst h4
    exact run_rop4 ts at' d _ (hm (by omega))
   ·rw [pr_op k d _ lv (by omega)]
    refine run_op (pr k (kOf (lv + 1)) d) ts lv d at' (by omega) (by omega) hN ha (pr_len k _ d) fun a g1 g2 => ?_
    have := (ih d a hd g2).1 (lv + 1) (by omega) (by omega)
    rw [Int.natCast_add, Int.natCast_one] at this
    exact this
  ·refine run_rsingle ts at' d hd hN hat fun h1 a g1 g2 => ?_
   have := (ih (d + 1) a h1 g2).1 0 (by omega) (by omega)
   rw [Int.natCast_add, Int.natCast_one] at this
   exact this
theorem run_rParse (l : List UInt8) (hl : l.length ≤ 10000000000) : (W m e3 e4).run 8 [bs l] [] = some (parseR (parseM l), []) := by
 have h1 := run_rtokens (m := m) (e3 := e3) (e4 := e4) l (by omega)
 unfold parseM
 cases htk : toksG l with
 | none =>
  rw [htk] at h1
  simp only [rtoksR] at h1
  refine run_wp (by rw [W_T]; exact rfl) ?_
  simp only [parseR, zNd, ndA_mk]
  simp -dsimp -implicitDefEqProofs (maxSteps := 1000000) (disch := omega) [ST, h1, eNds]
 | some ts =>
  have hts := toksG_len l.length l (Nat.le_refl _) ts htk
  rw [htk] at h1
  simp only [rtoksR] at h1 ⊢
  have h2 := (run_rpr (m := m) (e3 := e3) (e4 := e4) ts (by omega) (8 * ts.length + 7) 0 0 (by omega) (by omega)).1 0 (by omega) (by omega)
  obtain ⟨n, e, ok, h3, h4⟩ := RG_shape h2
  have ep : pr (8 * ts.length + 7) (kOf 0) 0 (ts.drop 0) = prT ts := rfl
  rw [ep] at h4
  obtain ⟨kk, n, t, p1, p2, p3, p4, l'⟩ := n
  simp only [rgA_mk, Int.natCast_zero] at h3
  rcases h4 with ⟨rfl, h4⟩ | ⟨rfl, a, rfl, h5, h4⟩
  ·rw [h4]
   refine run_wp (by rw [W_T]; exact rfl) ?_
   simp only [parseR, zNd, ndA_mk]
   simp -dsimp -implicitDefEqProofs (maxSteps := 1000000) (disch := omega) [ST, h1, h3, eNds]
  ·rw [h4]
   by_cases ha : a = ts.length
   ·subst ha
    rw [List.drop_length]
    refine run_wp (by rw [W_T]; exact rfl) ?_
    simp only [parseR, ndA_mk]
    simp -dsimp -implicitDefEqProofs (maxSteps := 1000000) (disch := omega) [ST, h1, h3, eNds]
   ·rw [List.drop_eq_getElem_cons (show a < ts.length by omega)]
    refine run_wp (by rw [W_T]; exact rfl) ?_
    simp only [parseR, zNd, ndA_mk]
    simp -dsimp -implicitDefEqProofs (maxSteps := 1000000) (disch := omega) [ST, h1, h3, eNds, ha]
end Go.Vai
