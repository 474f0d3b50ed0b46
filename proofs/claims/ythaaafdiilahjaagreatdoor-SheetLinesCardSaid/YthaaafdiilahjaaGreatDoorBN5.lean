/-
  What functions of layer 9 and of its reference compute: equations of the abstract run, and plain laws of them.
-/
import Derived.Test.YthaaafdiilahjaaGreatDoorBN1
set_option linter.unusedVariables false
set_option linter.unusedSimpArgs false
set_option linter.unnecessarySimpa false
set_option linter.unusedSectionVars false
namespace Go.Vai
variable {m : Int} {e3 e4 : Value}
def okFrom : Option Cel → List Cel → Bool
 | _, [] => true
 | p, c :: r => (plB c.1 c.2.1 && (decide (¬ c.2.2 = []) && (decide (¬ (10 : UInt8) ∈ c.2.2) && (match p with | none => true | some q => befB q.1 q.2.1 c.1 c.2.1)))) && okFrom (some c) r
def widB (l : List Int) : Bool := l.all fun w => decide (1 ≤ w) && decide (w ≤ 20)
def macB (l : List (List UInt8)) : Bool := l.all fun t => decide (¬ (10 : UInt8) ∈ t)
def rightB (s : Sh) : Bool := decide (s.wid.length = 26) && (widB s.wid && (okFrom none s.cells && macB s.mac))
end Go.Vai
namespace Go.Vai
variable {m : Int} {e3 e4 : Value}
theorem idx_ge (l : List UInt8) (c : UInt8) : (0 ≤ Lib.indexByte l c) ↔ c ∈ l := by
 induction l with
 | nil => simp [Lib.indexByte]
 | cons b l ih =>
  unfold Lib.indexByte
  have hg := Lib.indexByte_ge l c
  by_cases hb : b = c
  ·subst hb; simp
  ·have hb' : ¬ c = b := fun h => hb h.symm
   rw [if_neg (by simpa using hb)]
   rw [List.mem_cons, or_iff_right hb', ← ih]
   split
   ·rename_i h; have := beq_iff_eq.1 h; omega
   ·rename_i h; constructor <;> intro h2
    ·have : ¬ Lib.indexByte l c = -1 := fun h3 => h (beq_iff_eq.2 h3)
     omega
    ·omega
def ixG (l : List UInt8) : Int := if [10] = l then 0 else Lib.indexByte l 10
theorem run_idx1 (l : List UInt8) (hl : l.length ≤ 1000000000000) : (W m e3 e4).run 130 [bs l, bs [10]] [] = some (i64 (ixG l), []) := by
 have hE : (W m e3 e4).run 166 [bs l, .fz (.sc (.int .u8 10))] [] = some (i64 (Lib.indexByte l 10), []) := by
  refine run_E rfl ?_
  simp only [Ez, E0, mkB_list]
  rfl
 refine run_wp (by rw [W_T]; exact rfl) ?_
 unfold ixG
 by_cases h : [10] = l
 ·subst h
  simp -dsimp -implicitDefEqProofs (maxSteps := 1000000) (disch := omega) [ST]
 ·simp -dsimp -implicitDefEqProofs (maxSteps := 1000000) (disch := omega) [ST, h, hE]
theorem ixG_ge (l : List UInt8) : decide (0 ≤ ixG l) = decide ((10 : UInt8) ∈ l) := by
 unfold ixG
 split
 ·rename_i h; subst h; rfl
 ·rw [decide_eq_decide]; exact idx_ge l 10
theorem run_lineless (l : List UInt8) (hl : l.length ≤ 1000000000000) : (W m e3 e4).run 28 [bs l] [] = some (bo (decide (¬ (10 : UInt8) ∈ l)), []) := by
 have h1 := run_idx1 (m := m) (e3 := e3) (e4 := e4) l hl
 have hg := ixG_ge l
 have h2 : (W m e3 e4).run 97 [bs l, bs [10]] [] = some (i64 (ixG l), []) := by
  refine run_wp (by rw [W_T]; exact rfl) ?_
  simp -dsimp -implicitDefEqProofs (maxSteps := 1000000) (disch := omega) [ST, h1]
 have h3 : (W m e3 e4).run 63 [bs l, bs [10]] [] = some (bo (decide ((10 : UInt8) ∈ l)), []) := by
  refine run_wp (by rw [W_T]; exact rfl) ?_
  by_cases h : (10 : UInt8) ∈ l
  ·have : 0 ≤ ixG l := by simpa [h] using hg
   simp -dsimp -implicitDefEqProofs (maxSteps := 1000000) (disch := omega) [ST, h2, this, h]
  ·have : ¬ 0 ≤ ixG l := by simpa [h] using hg
   simp -dsimp -implicitDefEqProofs (maxSteps := 1000000) (disch := omega) [ST, h2, this, h]
 refine run_wp (by rw [W_T]; exact rfl) ?_
 by_cases h : (10 : UInt8) ∈ l <;> simp -dsimp -implicitDefEqProofs (maxSteps := 1000000) (disch := omega) [ST, h3, h]
theorem run_wide (n : Int) : (W m e3 e4).run 26 [i64 n] [] = some (bo (!(decide (1 ≤ n) && decide (n ≤ 20))), []) := by
 refine run_wp (by rw [W_T]; exact rfl) ?_
 by_cases h1 : 1 ≤ n
 ·by_cases h2 : n ≤ 20
  ·simp -dsimp -implicitDefEqProofs (maxSteps := 1000000) (disch := omega) [ST, h1, h2, show ¬ n < 1 by omega]
  ·simp -dsimp -implicitDefEqProofs (maxSteps := 1000000) (disch := omega) [ST, h1, h2, show ¬ n < 1 by omega]
 ·simp -dsimp -implicitDefEqProofs (maxSteps := 1000000) (disch := omega) [ST, h1, show n < 1 by omega]
theorem run_lined (l : List UInt8) (hl : l.length ≤ 1000000000000) : (W m e3 e4).run 31 [bs l] [] = some (bo (decide ((10 : UInt8) ∈ l)), []) := by
 have h1 := run_lineless (m := m) (e3 := e3) (e4 := e4) l hl
 refine run_wp (by rw [W_T]; exact rfl) ?_
 by_cases h : (10 : UInt8) ∈ l <;> simp -dsimp -implicitDefEqProofs (maxSteps := 1000000) (disch := omega) [ST, h1, h]
end Go.Vai
namespace Go.Vai
variable {m : Int} {e3 e4 : Value}
def S62 (l : List Int) (i : Nat) : St := { sl := [(0, rwS (l.map eIn)), (1, .fn 26 []), (7, i64 l.length), (8, i64 i)], hp := [], nx := 0 }
theorem run_contInts (l : List Int) (hl : l.length ≤ 1000000000000) : (W m e3 e4).run 25 [rwS (l.map eIn), .fn 26 []] [] = some (bo (!widB l), []) := by
 have h62 : ∃ n : Int, (W m e3 e4).run 62 [rwS (l.map eIn), .fn 26 []] [] = some (i64 n, []) ∧ (decide (0 ≤ n) = !widB l) := by
  have main : ∀ r : Int, r = (match l.findIdx? (fun w => !(decide (1 ≤ w) && decide (w ≤ 20))) with | some i => (i : Int) | none => -1) → (W m e3 e4).run 62 [rwS (l.map eIn), .fn 26 []] [] = some (i64 r, []) := by
   intro r hr
   refine run_wp (by rw [W_T]; exact rfl) ?_
   simp -dsimp -implicitDefEqProofs (maxSteps := 1000000) (disch := omega) [ST, rwS]
   refine wp_inv (S62 l) (fun i => i ≤ l.length ∧ ∀ k < i, ∀ w, l[k]? = some w → (decide (1 ≤ w) && decide (w ≤ 20)) = true) (fun i => l.length - i) 0 ⟨by simp, by simp⟩ (by simp -dsimp -implicitDefEqProofs (maxSteps := 1000000) (disch := omega) [ST, S62, rwS]) ?_
   rintro i ⟨hi, hp⟩
   by_cases h : i < l.length
   ·obtain ⟨x, hx⟩ : ∃ x, l[i] = x := ⟨_, rfl⟩
    have hx2 : l[i]? = some x := by rw [List.getElem?_eq_getElem h, hx]
    have hw := run_wide (m := m) (e3 := e3) (e4 := e4) x
    cases hb : (decide (1 ≤ x) && decide (x ≤ 20))
    ·have hf : l.findIdx? (fun w => !(decide (1 ≤ w) && decide (w ≤ 20))) = some i := by
      rw [List.findIdx?_eq_some_iff_getElem]
      refine ⟨h, by rw [hx, hb]; rfl, fun j hj => ?_⟩
      have := hp j hj l[j] (List.getElem?_eq_getElem (by omega))
      rw [this]; simp
     rw [hf] at hr
     simp only at hr
     subst hr
     rw [hb] at hw
     simp -dsimp -implicitDefEqProofs (maxSteps := 1000000) (disch := omega) [ST, S62, rwS, h, hx, eIn, hw]
    ·rw [hb] at hw
     simp -dsimp -implicitDefEqProofs (maxSteps := 1000000) (disch := omega) [ST, S62, rwS, h, hx, eIn, hw]
     refine again (i + 1) ⟨by omega, ?_⟩ (by omega) (by simp -dsimp -implicitDefEqProofs (maxSteps := 1000000) (disch := omega) [ST, S62, rwS, eIn])
     intro k hk w hkw
     by_cases hki : k = i
     ·subst hki; rw [hx2] at hkw; injection hkw with e; subst e; exact hb
     ·exact hp k (by omega) w hkw
   ·have hf : l.findIdx? (fun w => !(decide (1 ≤ w) && decide (w ≤ 20))) = none := by
     rw [List.findIdx?_eq_none_iff]
     intro x hx
     obtain ⟨k, hk, e⟩ := List.getElem_of_mem hx
     rw [hp k (by omega) x (by rw [List.getElem?_eq_getElem hk, e])]; rfl
    rw [hf] at hr
    simp only at hr
    subst hr
    simp -dsimp -implicitDefEqProofs (maxSteps := 1000000) (disch := omega) [ST, S62, rwS, h]
  refine ⟨_, main _ rfl, ?_⟩
  cases hf : l.findIdx? (fun w => !(decide (1 ≤ w) && decide (w ≤ 20))) with
  | some i =>
   have hi := (List.findIdx?_eq_some_iff_getElem.1 hf)
   obtain ⟨hlt, h1, -⟩ := hi
   have : widB l = false := by
    unfold widB
    rw [List.all_eq_false]
    exact ⟨l[i], List.getElem_mem hlt, by simp at h1 ⊢; omega⟩
   simp [this]
  | none =>
   have : widB l = true := by
    unfold widB
    rw [List.all_eq_true]
    intro x hx
    have := List.findIdx?_eq_none_iff.1 hf x hx
    simpa using this
   simp [this]
 obtain ⟨n, h1, h2⟩ := h62
 simp only [rwS] at h1 ⊢
 refine run_wp (by rw [W_T]; exact rfl) ?_
 cases hb : widB l <;> rw [hb] at h2
 ·have : 0 ≤ n := by simpa using h2
  simp -dsimp -implicitDefEqProofs (maxSteps := 1000000) (disch := omega) [ST, h1, this]
 ·have : ¬ 0 ≤ n := by simpa using h2
  simp -dsimp -implicitDefEqProofs (maxSteps := 1000000) (disch := omega) [ST, h1, this]
def S64 (l : List (List UInt8)) (i : Nat) : St := { sl := [(0, rwS (l.map eTx)), (1, .fn 31 []), (7, i64 l.length), (8, i64 i)], hp := [], nx := 0 }
theorem run_contTexts (l : List (List UInt8)) (hl : l.length ≤ 1000000000000) (hT : ∀ t ∈ l, t.length ≤ 1000000000000) : (W m e3 e4).run 30 [rwS (l.map eTx), .fn 31 []] [] = some (bo (!macB l), []) := by
 have h64 : ∃ n : Int, (W m e3 e4).run 64 [rwS (l.map eTx), .fn 31 []] [] = some (i64 n, []) ∧ (decide (0 ≤ n) = !macB l) := by
  have main : ∀ r : Int, r = (match l.findIdx? (fun w => !(decide (¬ (10 : UInt8) ∈ w))) with | some i => (i : Int) | none => -1) → (W m e3 e4).run 64 [rwS (l.map eTx), .fn 31 []] [] = some (i64 r, []) := by
   intro r hr
   refine run_wp (by rw [W_T]; exact rfl) ?_
   simp -dsimp -implicitDefEqProofs (maxSteps := 1000000) (disch := omega) [ST, rwS]
   refine wp_inv (S64 l) (fun i => i ≤ l.length ∧ ∀ k < i, ∀ w, l[k]? = some w → (decide (¬ (10 : UInt8) ∈ w)) = true) (fun i => l.length - i) 0 ⟨by simp, by simp⟩ (by simp -dsimp -implicitDefEqProofs (maxSteps := 1000000) (disch := omega) [ST, S64, rwS]) ?_
   rintro i ⟨hi, hp⟩
   by_cases h : i < l.length
   ·obtain ⟨x, hx⟩ : ∃ x, l[i] = x := ⟨_, rfl⟩
    have hx2 : l[i]? = some x := by rw [List.getElem?_eq_getElem h, hx]
    have hw : (W m e3 e4).run 31 [bs x] [] = some (bo (!(decide (¬ (10 : UInt8) ∈ x))), []) := by
     rw [run_lined x (hT x (List.mem_of_getElem? hx2))]; by_cases h10 : (10 : UInt8) ∈ x <;> simp [h10]
    cases hb : (decide (¬ (10 : UInt8) ∈ x))
    ·have hf : l.findIdx? (fun w => !(decide (¬ (10 : UInt8) ∈ w))) = some i := by
      rw [List.findIdx?_eq_some_iff_getElem]
      refine ⟨h, by rw [hx, hb]; rfl, fun j hj => ?_⟩
      have := hp j hj l[j] (List.getElem?_eq_getElem (by omega))
      rw [this]; simp
     rw [hf] at hr
     simp only at hr
     subst hr
     rw [hb] at hw
     simp -dsimp -implicitDefEqProofs (maxSteps := 1000000) (disch := omega) [ST, S64, rwS, h, hx, eTx, hw]
    ·rw [hb] at hw
     simp -dsimp -implicitDefEqProofs (maxSteps := 1000000) (disch := omega) [ST, S64, rwS, h, hx, eTx, hw]
     refine again (i + 1) ⟨by omega, ?_⟩ (by omega) (by simp -dsimp -implicitDefEqProofs (maxSteps := 1000000) (disch := omega) [ST, S64, rwS, eTx])
     intro k hk w hkw
     by_cases hki : k = i
     ·subst hki; rw [hx2] at hkw; injection hkw with e; subst e; exact hb
     ·exact hp k (by omega) w hkw
   ·have hf : l.findIdx? (fun w => !(decide (¬ (10 : UInt8) ∈ w))) = none := by
     rw [List.findIdx?_eq_none_iff]
     intro x hx
     obtain ⟨k, hk, e⟩ := List.getElem_of_mem hx
     rw [hp k (by omega) x (by rw [List.getElem?_eq_getElem hk, e])]; rfl
    rw [hf] at hr
    simp only at hr
    subst hr
    simp -dsimp -implicitDefEqProofs (maxSteps := 1000000) (disch := omega) [ST, S64, rwS, h]
  refine ⟨_, main _ rfl, ?_⟩
  cases hf : l.findIdx? (fun w => !(decide (¬ (10 : UInt8) ∈ w))) with
  | some i =>
   have hi := (List.findIdx?_eq_some_iff_getElem.1 hf)
   obtain ⟨hlt, h1, -⟩ := hi
   have : macB l = false := by
    unfold macB
    rw [List.all_eq_false]
    exact ⟨l[i], List.getElem_mem hlt, by simpa using h1⟩
   simp [this]
  | none =>
   have : macB l = true := by
    unfold macB
    rw [List.all_eq_true]
    intro x hx
    have := List.findIdx?_eq_none_iff.1 hf x hx
    simpa using this
   simp [this]
 obtain ⟨n, h1, h2⟩ := h64
 simp only [rwS] at h1 ⊢
 refine run_wp (by rw [W_T]; exact rfl) ?_
 cases hb : macB l <;> rw [hb] at h2
 ·have : 0 ≤ n := by simpa using h2
  simp -dsimp -implicitDefEqProofs (maxSteps := 1000000) (disch := omega) [ST, h1, this]
 ·have : ¬ 0 ≤ n := by simpa using h2
  simp -dsimp -implicitDefEqProofs (maxSteps := 1000000) (disch := omega) [ST, h1, this]
end Go.Vai
namespace Go.Vai
variable {m : Int} {e3 e4 : Value}
theorem plB_iff {r c : Int} (h : plB r c = true) : (1 ≤ r ∧ r ≤ 99) ∧ 1 ≤ c ∧ c ≤ 26 := by
 unfold plB at h
 simpa using h
theorem order_bef (a b c d : Int) (h1 : plB a b = true) (h2 : plB c d = true) : (0 ≤ if a = c then b - d else a - c) ↔ befB a b c d = false := by
 unfold befB
 split
 ·rename_i h; subst h; simp
 ·rename_i h; simp [h]
def S10 (w : List Int) (mc : List (List UInt8)) (a : List Cel × List Cel) : St := { sl := [(1, .bp 0 0), (15, rwS ((a.1 ++ a.2).map eCel)), (16, i64 (a.1 ++ a.2).length), (17, i64 a.1.length)], hp := [(0, some (.box [rwS ((a.1 ++ a.2).map eCel), rwS (w.map eIn), rwS (mc.map eTx)]))], nx := 1 }
theorem run_right (s : Sh) (hs : szSh s ≤ 1000000000000) (hT : ∀ c ∈ s.cells, c.2.2.length ≤ 1000000000000) (hM : ∀ t ∈ s.mac, t.length ≤ 1000000000000) : (W m e3 e4).run 10 [shA s] [] = some (bo (rightB s), []) := by
 have hsz : szSh s = s.cells.length + s.wid.length + s.mac.length + sumT (s.cells.map (·.2.2)) + sumT s.mac := rfl
 obtain ⟨sc, sw, sm⟩ := s
 simp only at hsz
 have hci := run_contInts (m := m) (e3 := e3) (e4 := e4) sw (by omega)
 have hct := run_contTexts (m := m) (e3 := e3) (e4 := e4) sm (by omega) hM
 unfold rightB
 simp only [shA_mk, rwS] at hsz hT hM hci hct ⊢
 refine run_wp (by rw [W_T]; exact rfl) ?_
 by_cases hw : sw.length = 26
 ·cases hwb : widB sw
  ·rw [hwb] at hci
   simp -dsimp -implicitDefEqProofs (maxSteps := 1000000) (disch := omega) [ST, hw, hci, hwb]
  ·rw [hwb] at hci
   simp -dsimp -implicitDefEqProofs (maxSteps := 1000000) (disch := omega) [ST, hw, hci, hwb]
   refine wp_inv (S10 sw sm) (fun a => a.1 ++ a.2 = sc ∧ okFrom none sc = okFrom a.1.getLast? a.2 ∧ ∀ q, a.1.getLast? = some q → plB q.1 q.2.1 = true) (fun a => a.2.length) ([], sc) ⟨by simp, by simp, by simp⟩ (by simp -dsimp -implicitDefEqProofs (maxSteps := 1000000) (disch := omega) [ST, S10, rwS]) ?_
   rintro ⟨pre, rest⟩ ⟨g1, g2, g3⟩
   simp only at g1 g2 g3
   rw [g2]
   cases rest with
   | nil =>
    cases hmb : macB sm <;> rw [hmb] at hct <;> simp -dsimp -implicitDefEqProofs (maxSteps := 1000000) (disch := omega) [ST, S10, rwS, okFrom, hct, hmb]
    all_goals simp [okFrom]
   | cons c rest =>
    subst g1
    obtain ⟨a, b, t⟩ := c
    have hpl := run_isPlace (m := m) (e3 := e3) (e4 := e4) a b
    have hpn := run_lineless (m := m) (e3 := e3) (e4 := e4) t (hT (a, b, t) (by simp))
    rcases List.eq_nil_or_concat pre with rfl | ⟨pre', q, rfl⟩
    ·cases k1 : plB a b
     ·simp -dsimp -implicitDefEqProofs (maxSteps := 1000000) (disch := omega) [ST, S10, rwS, eCel, hpl, k1, okFrom]
     ·by_cases k2 : t = []
      ·subst k2
       simp -dsimp -implicitDefEqProofs (maxSteps := 1000000) (disch := omega) [ST, S10, rwS, eCel, hpl, k1, okFrom]
      ·by_cases k3 : (10 : UInt8) ∈ t
       ·simp -dsimp -implicitDefEqProofs (maxSteps := 1000000) (disch := omega) [ST, S10, rwS, eCel, hpl, k1, k2, hpn, k3, okFrom]
       ·rw [← g2]
        simp -dsimp -implicitDefEqProofs (maxSteps := 1000000) (disch := omega) [ST, S10, rwS, eCel, hpl, k1, k2, hpn, k3]
        refine again ([(a, b, t)], rest) ⟨by simp, by rw [g2]; simp [okFrom, k1, k2, k3], by simp [k1]⟩ (by simp) (by simp -dsimp -implicitDefEqProofs (maxSteps := 1000000) (disch := omega) [ST, S10, rwS, eCel])
    ·obtain ⟨qa, qb, qt⟩ := q
     have kq : plB qa qb = true := by simpa using g3 (qa, qb, qt)
     have hl0 : pre'.length ≤ 1000000000000 := by have hs' := hs; rw [hsz] at hs'; simp at hs'; omega
     have hq1 : ∀ r : List (List FV), (pre'.map eCel ++ eCel (qa, qb, qt) :: r)[pre'.length]? = some (eCel (qa, qb, qt)) := fun r => by rw [List.getElem?_append_right (by simp)]; simp
     have hq2 : ∀ (x : List FV) (r : List (List FV)), (pre'.map eCel ++ x :: eCel (a, b, t) :: r)[pre'.length + 1]? = some (eCel (a, b, t)) := fun x r => by rw [List.getElem?_append_right (by simp)]; simp
     simp only [eCel] at hq1 hq2
     cases k1 : plB a b
     ·simp -dsimp -implicitDefEqProofs (maxSteps := 1000000) (disch := omega) [ST, S10, rwS, eCel, hpl, k1, okFrom, hq1, hq2, wrap_i64]
     ·by_cases k2 : t = []
      ·subst k2
       simp -dsimp -implicitDefEqProofs (maxSteps := 1000000) (disch := omega) [ST, S10, rwS, eCel, hpl, k1, okFrom, hq1, hq2, wrap_i64]
      ·by_cases k3 : (10 : UInt8) ∈ t
       ·simp -dsimp -implicitDefEqProofs (maxSteps := 1000000) (disch := omega) [ST, S10, rwS, eCel, hpl, k1, k2, hpn, k3, okFrom, hq1, hq2, wrap_i64]
       ·have hor := run_order (m := m) (e3 := e3) (e4 := e4) qa qb a b (plB_iff kq).1 (plB_iff kq).2 (plB_iff k1).1 (plB_iff k1).2
        have hob := order_bef qa qb a b kq k1
        generalize (if qa = a then qb - b else qa - a) = z at hor hob
        cases k4 : befB qa qb a b
        ·have hz : 0 ≤ z := hob.2 k4
         simp -dsimp -implicitDefEqProofs (maxSteps := 1000000) (disch := omega) [ST, S10, rwS, eCel, hpl, k1, k2, hpn, k3, okFrom, hq1, hq2, wrap_i64, hor, hz, k4]
        ·have hz : ¬ 0 ≤ z := fun h => by rw [hob.1 h] at k4; cases k4
         rw [← g2]
         simp -dsimp -implicitDefEqProofs (maxSteps := 1000000) (disch := omega) [ST, S10, rwS, eCel, hpl, k1, k2, hpn, k3, hq1, hq2, wrap_i64, hor, hz, k4]
         refine again (pre' ++ [(qa, qb, qt)] ++ [(a, b, t)], rest) ⟨by simp, by rw [g2]; simp [okFrom, k1, k2, k3, k4], by simp [k1]⟩ (by simp) (by simp -dsimp -implicitDefEqProofs (maxSteps := 1000000) (disch := omega) [ST, S10, rwS, eCel]; omega)
 ·simp -dsimp -implicitDefEqProofs (maxSteps := 1000000) (disch := omega) [ST, hw]
end Go.Vai
