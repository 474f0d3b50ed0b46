/-
  What functions of layer 9 and of its reference compute: equations of the abstract run, and plain laws of them.
-/
import Derived.Test.YtnfjgkjapcaobaaGreatDoorL5
set_option linter.unusedVariables false
set_option linter.unusedSimpArgs false
set_option linter.unnecessarySimpa false
set_option linter.unusedSectionVars false
namespace Go.Vai
variable {m : Int} {e3 e4 : Value}
theorem rTok_s (t : List UInt8) : rTok (.sign t) = tok6 0 t 0 0 0 false := rfl
theorem rTok_n (n : Int) : rTok (.num n) = tok6 1 [] n 0 0 false := rfl
theorem rTok_t (t : List UInt8) : rTok (.txt t) = tok6 2 t 0 0 0 false := rfl
theorem rTok_p (r c : Int) : rTok (.plc r c) = tok6 3 [] 0 r c false := rfl
theorem rTok_m (t : List UInt8) : rTok (.name t) = tok6 0 t 0 0 0 true := rfl
abbrev tl6 (ts : List Tok) : AV := rw_ (ts.map rTok)
theorem run_is (ts : List Tok) (at' : Nat) (s : List UInt8) (hl : ts.length ≤ 1000000000000) (ha : at' ≤ 10000000000000) : (W m e3 e4).run 94 [tl6 ts, i64 at', bs s] [] = some (bo (takeS [s] (ts.drop at')).isSome, []) := by
 by_cases h : at' < ts.length
 ·obtain ⟨t, ht⟩ : ∃ t, ts[at'] = t := ⟨_, rfl⟩
  have hg : ∀ h : at' < ts.length, ts[at'] = t := fun _ => ht
  rw [List.drop_eq_getElem_cons h, ht]
  cases t with
  | sign t =>
   by_cases he : t = s
   ·subst he
    have e : (takeS [t] (.sign t :: ts.drop (at' + 1))).isSome = true := by simp [takeS]
    rw [e]
    refine run_wp (by rw [W_T]; exact rfl) ?_
    simp -dsimp -implicitDefEqProofs (maxSteps := 1000000) (disch := omega) [ST, h, hg, rTok_s]
   ·have e : (takeS [s] (.sign t :: ts.drop (at' + 1))).isSome = false := by simp [takeS, he]
    rw [e]
    refine run_wp (by rw [W_T]; exact rfl) ?_
    simp -dsimp -implicitDefEqProofs (maxSteps := 1000000) (disch := omega) [ST, h, hg, rTok_s, he]
  | num n =>
   simp only [takeS, Option.isSome_none]
   refine run_wp (by rw [W_T]; exact rfl) ?_
   simp -dsimp -implicitDefEqProofs (maxSteps := 1000000) (disch := omega) [ST, h, hg, rTok_n]
  | txt n =>
   simp only [takeS, Option.isSome_none]
   refine run_wp (by rw [W_T]; exact rfl) ?_
   simp -dsimp -implicitDefEqProofs (maxSteps := 1000000) (disch := omega) [ST, h, hg, rTok_t]
  | plc a b =>
   simp only [takeS, Option.isSome_none]
   refine run_wp (by rw [W_T]; exact rfl) ?_
   simp -dsimp -implicitDefEqProofs (maxSteps := 1000000) (disch := omega) [ST, h, hg, rTok_p]
  | name n =>
   simp only [takeS, Option.isSome_none]
   refine run_wp (by rw [W_T]; exact rfl) ?_
   simp -dsimp -implicitDefEqProofs (maxSteps := 1000000) (disch := omega) [ST, h, hg, rTok_m]
 ·rw [List.drop_of_length_le (by omega)]
  simp only [takeS, Option.isSome_none]
  refine run_wp (by rw [W_T]; exact rfl) ?_
  simp -dsimp -implicitDefEqProofs (maxSteps := 1000000) (disch := omega) [ST, h]
def sgL : Nat → List (List UInt8)
 | 0 => cmpL
 | 1 => [[38]]
 | 2 => [[43], [45]]
 | _ => [[42], [47]]
theorem takeS_or (sg : List (List UInt8)) (ts : List Tok) : (takeS sg ts).isSome = sg.any fun s => (takeS [s] ts).isSome := by
 unfold takeS
 split
 ·rename_i s r
  by_cases h : s ∈ sg
  ·rw [if_pos h]
   simp only [Option.isSome_some]
   symm
   rw [List.any_eq_true]
   exact ⟨s, h, by simp⟩
  ·rw [if_neg h]
   simp only [Option.isSome_none]
   symm
   rw [List.any_eq_false]
   intro x hx
   have : ¬ s = x := fun e => h (e ▸ hx)
   simp [this]
 ·simp only [Option.isSome_none]
  symm
  rw [List.any_eq_false]
  intro x hx
  simp
theorem run_among (ts : List Tok) (at' lv : Nat) (hlv : lv < 4) (hl : ts.length ≤ 1000000000000) (ha : at' ≤ 10000000000000) : (W m e3 e4).run 48 [tl6 ts, i64 at', i64 lv] [] = some (bo (takeS (sgL lv) (ts.drop at')).isSome, []) := by
 have h := fun s => run_is (m := m) (e3 := e3) (e4 := e4) ts at' s hl ha
 rw [takeS_or]
 match lv, hlv with
 | 0, _ =>
  have h1 := h [61]; have h2 := h [60, 62]; have h3 := h [60]; have h4 := h [60, 61]; have h5 := h [62]; have h6 := h [62, 61]
  simp only [sgL, cmpL, List.any_cons, List.any_nil]
  generalize (takeS [[61]] (ts.drop at')).isSome = b1 at *
  generalize (takeS [[60, 62]] (ts.drop at')).isSome = b2 at *
  generalize (takeS [[60]] (ts.drop at')).isSome = b3 at *
  generalize (takeS [[60, 61]] (ts.drop at')).isSome = b4 at *
  generalize (takeS [[62]] (ts.drop at')).isSome = b5 at *
  generalize (takeS [[62, 61]] (ts.drop at')).isSome = b6 at *
  refine run_wp (by rw [W_T]; exact rfl) ?_
  cases b1
  ·cases b2
   ·cases b3
    ·cases b4
     ·cases b5
      ·cases b6 <;> simp -dsimp -implicitDefEqProofs (maxSteps := 1000000) (disch := omega) [ST, h1, h2, h3, h4, h5, h6]
      ·simp -dsimp -implicitDefEqProofs (maxSteps := 1000000) (disch := omega) [ST, h1, h2, h3, h4, h5]
     ·simp -dsimp -implicitDefEqProofs (maxSteps := 1000000) (disch := omega) [ST, h1, h2, h3, h4]
    ·simp -dsimp -implicitDefEqProofs (maxSteps := 1000000) (disch := omega) [ST, h1, h2, h3]
   ·simp -dsimp -implicitDefEqProofs (maxSteps := 1000000) (disch := omega) [ST, h1, h2]
  ·simp -dsimp -implicitDefEqProofs (maxSteps := 1000000) (disch := omega) [ST, h1]
 | 1, _ =>
  have h1 := h [38]
  simp only [sgL, List.any_cons, List.any_nil]
  generalize (takeS [[38]] (ts.drop at')).isSome = b1 at *
  refine run_wp (by rw [W_T]; exact rfl) ?_
  cases b1 <;> simp -dsimp -implicitDefEqProofs (maxSteps := 1000000) (disch := omega) [ST, h1]
 | 2, _ =>
  have h1 := h [43]; have h2 := h [45]
  simp only [sgL, List.any_cons, List.any_nil]
  generalize (takeS [[43]] (ts.drop at')).isSome = b1 at *
  generalize (takeS [[45]] (ts.drop at')).isSome = b2 at *
  refine run_wp (by rw [W_T]; exact rfl) ?_
  cases b1
  ·cases b2 <;> simp -dsimp -implicitDefEqProofs (maxSteps := 1000000) (disch := omega) [ST, h1, h2]
  ·simp -dsimp -implicitDefEqProofs (maxSteps := 1000000) (disch := omega) [ST, h1]
 | 3, _ =>
  have h1 := h [42]; have h2 := h [47]
  simp only [sgL, List.any_cons, List.any_nil]
  generalize (takeS [[42]] (ts.drop at')).isSome = b1 at *
  generalize (takeS [[47]] (ts.drop at')).isSome = b2 at *
  refine run_wp (by rw [W_T]; exact rfl) ?_
  cases b1
  ·cases b2 <;> simp -dsimp -implicitDefEqProofs (maxSteps := 1000000) (disch := omega) [ST, h1, h2]
  ·simp -dsimp -implicitDefEqProofs (maxSteps := 1000000) (disch := omega) [ST, h1]
end Go.Vai
namespace Go.Vai
variable {m : Int} {e3 e4 : Value}
def rgA (n : Nd) (e : Int) (ok : Bool) : AV := .agg ((eNd n).map .fz ++ [i64 e, bo ok])
theorem rgA_mk (k n : Int) (t : List UInt8) (a b c d : Int) (l : List Nd) (e : Int) (ok : Bool) : rgA (.mk k n t a b c d l) e ok = .agg [i64 k, i64 n, bs t, i64 a, i64 b, i64 c, i64 d, .fz (.sl (eNds l)), i64 e, bo ok] := rfl
def RGP (ts : List Tok) (x : Rd) (R : AV × List (Option Blk)) : Prop := match x with
 | some p => ∃ a : Nat, a ≤ ts.length ∧ p.2 = ts.drop a ∧ R = (rgA p.1 a true, [])
 | none => ∃ n e, R = (rgA n e false, [])
def RG (ts : List Tok) (x : Rd) (r : Option (AV × List (Option Blk))) : Prop := ∃ R, RGP ts x R ∧ r = some R
theorem RG_shape {ts : List Tok} {x : Rd} {r : Option (AV × List (Option Blk))} (h : RG ts x r) : ∃ n e ok, r = some (rgA n e ok, []) ∧ ((ok = false ∧ x = none) ∨ (ok = true ∧ ∃ a : Nat, e = a ∧ a ≤ ts.length ∧ x = some (n, ts.drop a))) := by
 obtain ⟨R, h1, rfl⟩ := h
 cases x with
 | none => obtain ⟨n, e, rfl⟩ := h1; exact ⟨n, e, false, rfl, .inl ⟨rfl, rfl⟩⟩
 | some p => obtain ⟨a, h2, h3, rfl⟩ := h1; exact ⟨p.1, a, true, rfl, .inr ⟨rfl, a, rfl, h2, by rw [← h3]⟩⟩
theorem RG_of {ts : List Tok} {x : Rd} {n : Nd} {e : Int} {ok : Bool} {r : Option (AV × List (Option Blk))} (hr : r = some (rgA n e ok, [])) (h : (ok = false ∧ x = none) ∨ (ok = true ∧ ∃ a : Nat, e = a ∧ a ≤ ts.length ∧ x = some (n, ts.drop a))) : RG ts x r := by
 refine ⟨_, ?_, hr⟩
 rcases h with ⟨rfl, rfl⟩ | ⟨rfl, a, rfl, h2, rfl⟩
 ·exact ⟨n, e, rfl⟩
 ·exact ⟨a, h2, rfl, rfl⟩
theorem run_rminus_deep (ts : List Tok) (at' : Nat) (d : Nat) (hd : d > 32) (hd2 : d ≤ 100) : (W m e3 e4).run 47 [tl6 ts, i64 at', i64 d] [] = some (rgA zNd 0 false, []) := by
 refine run_wp (by rw [W_T]; exact rfl) ?_
 simp only [zNd, rgA_mk]
 simp -dsimp -implicitDefEqProofs (maxSteps := 1000000) (disch := omega) [ST, hd, eNds]
theorem run_rop_deep (ts : List Tok) (at' : Nat) (d : Nat) (hd : d > 32) (hd2 : d ≤ 100) : ∀ j : Nat, j ≤ 4 → (W m e3 e4).run 22 [tl6 ts, i64 at', i64 (4 - j : Nat), i64 d] [] = some (rgA zNd 0 false, [])
 | 0, _ => by
  have h := run_rminus_deep (m := m) (e3 := e3) (e4 := e4) ts at' d hd hd2
  refine run_wp (by rw [W_T]; exact rfl) ?_
  simp only [zNd, rgA_mk] at h ⊢
  simp -dsimp -implicitDefEqProofs (maxSteps := 1000000) (disch := omega) [ST, h, eNds]
 | j + 1, hj => by
  have h := run_rop_deep ts at' d hd hd2 j (by omega)
  have e : (((4 - j : Nat)) : Int) = ((4 - (j + 1) : Nat) : Int) + 1 := by omega
  rw [e] at h
  have hne : ¬ ((4 - (j + 1) : Nat) : Int) = 4 := by omega
  have hb : (4 - (j + 1) : Nat) ≤ 4 := by omega
  generalize (4 - (j + 1) : Nat) = lv at *
  refine run_wp (by rw [W_T]; exact rfl) ?_
  simp only [zNd, rgA_mk] at h ⊢
  simp -dsimp -implicitDefEqProofs (maxSteps := 1000000) (disch := omega) [ST, h, hne, eNds]
  refine wp_inv (fun _ : Unit => { sl := [(0, tl6 ts), (2, i64 lv), (3, i64 d), (8, .bp 0 0), (9, .bp 1 0)], hp := [(0, some (.box [i64 0, i64 0, bs [], i64 0, i64 0, i64 0, i64 0, .emp, i64 0, bo false])), (1, some (.box [i64 0, i64 0, bs [], i64 0, i64 0, i64 0, i64 0, .fz (.sl []), i64 0, bo false]))], nx := 2 }) (fun _ => True) (fun _ => 0) () trivial (by simp -dsimp -implicitDefEqProofs (maxSteps := 1000000) (disch := omega) [ST, eNds]) ?_
  rintro ⟨⟩ _
  simp -dsimp -implicitDefEqProofs (maxSteps := 1000000) (disch := omega) [ST, eNds]
end Go.Vai
