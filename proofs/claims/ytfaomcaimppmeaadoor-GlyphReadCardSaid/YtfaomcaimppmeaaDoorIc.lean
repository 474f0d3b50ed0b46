/-
  What functions of layer 5 and of its reference compute: equations of the abstract run.
-/
import Derived.Test.YtfaomcaimppmeaaDoorIb
set_option linter.unusedVariables false
set_option linter.unusedSimpArgs false
set_option linter.unnecessarySimpa false
set_option linter.unusedSectionVars false
namespace Go.Vai
theorem coordB_of {n : Int} (h1 : -32768 ≤ n) (h2 : n ≤ 32767) : coordB n = true := by simp [coordB, h1, h2]
theorem ptV_ptB {b : List UInt8} {c : Cu} (h : okC b c) : ptB (ptV b c.1 c.2).1 = true := by
  obtain ⟨h1, h2⟩ := sgV_ok h
  obtain ⟨a1, a2, _⟩ := sgV_b b c.1 c.2 h.1
  obtain ⟨a3, a4, _⟩ := sgV_b b _ (sgV b c.1 c.2).2.2 h1.1
  simp [ptB, ptV, coordB_of a1 a2, coordB_of a3 a4]
theorem ptsV_all {b : List UInt8} : ∀ (n : Nat) {c : Cu}, okC b c → (ptsV b n c).1.all ptB = true
  | 0, c, h => rfl
  | n + 1, c, h => by
    obtain ⟨h1, _⟩ := ptV_ok h
    have h2 := ptV_ptB h
    unfold ptsV
    simp only
    split
    · rfl
    · simp [h2, ptsV_all n h1]
theorem olsV_all {b : List UInt8} : ∀ (n i : Nat) {c : Cu}, okC b c → (olsV b n i c).1.all olB = true ∧ (olsV b n i c).1.length ≤ 64 - i
  | 0, _, c, h => ⟨rfl, by simp [olsV]⟩
  | n + 1, i, c, h => by
    obtain ⟨h1, h2⟩ := tkV_ok h 1 (by omega)
    obtain ⟨k0, k1, _⟩ := tkV_b b c.1 c.2 1 h.1 (by omega)
    simp at k1
    unfold olsV
    simp only
    split
    · exact ⟨rfl, by simp⟩
    · obtain ⟨g1, g2, g3⟩ := ptsV_ok (tkV b c.1 c.2 1).1.toNat h1
      have g4 := ptsV_all (tkV b c.1 c.2 1).1.toNat h1
      obtain ⟨q1, q2⟩ := olsV_all n (i + 1) g1
      by_cases hi : i < 64
      · simp only [hi, if_true]
        refine ⟨?_, by simp; omega⟩
        simp only [List.all_cons, q1, Bool.and_true, olB, g4]
        simp; omega
      · simp only [hi, if_false]
        exact ⟨q1, by omega⟩
def pcA (p : Pc) : Bool := decide (0 ≤ p.1) && (coordB p.2.1 && coordB p.2.2)
theorem pcsV_all {b : List UInt8} : ∀ (n i : Nat) {c : Cu}, okC b c → (pcsV b n i c).1.all pcA = true ∧ (pcsV b n i c).1.length ≤ 32 - i
  | 0, _, c, h => ⟨rfl, by simp [pcsV]⟩
  | n + 1, i, c, h => by
    obtain ⟨h1, h2⟩ := tkV_ok h 2 (by omega)
    obtain ⟨k0, k1, _⟩ := tkV_b b c.1 c.2 2 h.1 (by omega)
    obtain ⟨g1, g2⟩ := ptV_ok h1
    have g3 := ptV_ptB h1
    unfold pcsV
    simp only
    split
    · exact ⟨rfl, by simp⟩
    · obtain ⟨q1, q2⟩ := pcsV_all n (i + 1) g1
      by_cases hi : i < 32
      · simp only [hi, if_true]
        refine ⟨?_, by simp; omega⟩
        unfold ptB at g3
        simp only [List.all_cons, q1, Bool.and_true, pcA, g3]
        simp [k0]
      · simp only [hi, if_false]
        exact ⟨q1, by omega⟩
def glA (g : Gl) : Bool := coordB g.1 && (decide (g.2.1.length ≤ 64) && (decide (g.2.2.length ≤ 32) && (g.2.1.all olB && g.2.2.all pcA)))
theorem glV_all {b : List UInt8} {c : Cu} (h : okC b c) : glA (glV b c).1 = true := by
  obtain ⟨h1, h2⟩ := sgV_ok h
  obtain ⟨a1, a2, _⟩ := sgV_b b c.1 c.2 h.1
  obtain ⟨h3, h4⟩ := tkV_ok h1 1 (by omega)
  obtain ⟨h5, h6, _⟩ := olsV_ok (tkV b (sgV b c.1 c.2).2.1 (sgV b c.1 c.2).2.2 1).1.toNat 0 h3
  obtain ⟨o1, o2⟩ := olsV_all (tkV b (sgV b c.1 c.2).2.1 (sgV b c.1 c.2).2.2 1).1.toNat 0 h3
  have h7 := (tkV_ok h5 1 (by omega)).1
  unfold glV glA
  simp only [coordB_of a1 a2, Bool.true_and, Bool.and_eq_true, decide_eq_true_eq]
  exact ⟨Nat.le_trans o2 (by omega), Nat.le_trans (pcsV_all _ 0 h7).2 (by omega), o1, (pcsV_all _ 0 h7).1⟩
theorem recV_all {b : List UInt8} : ∀ (n : Nat) {c : Cu} {gs : List Gl} {ps : List Pt}, okC b c → gs.length ≤ 1000 → gs.all glA = true → (∀ p ∈ ps, 0 ≤ p.1 ∧ 0 ≤ p.2) →
    (recV b n c gs ps).1.length ≤ 1000 ∧ (recV b n c gs ps).1.all glA = true ∧ (∀ p ∈ (recV b n c gs ps).2, 0 ≤ p.1 ∧ 0 ≤ p.2)
  | 0, c, gs, ps, _, h1, h2, h3 => ⟨h1, h2, h3⟩
  | n + 1, c, gs, ps, hc, h1, h2, h3 => by
    unfold recV
    split
    · rename_i hlt
      have hf : c.2 = false := by
        cases h : c.2 with
        | false => rfl
        | true => have := hc.2 h; omega
      have ok1 : okC b (c.1 + 1, c.2) := ⟨by simp only; omega, by rw [hf]; simp⟩
      split
      · obtain ⟨g1, g2, _⟩ := glV_ok ok1
        have g3 := glV_all ok1
        refine recV_all n g1 ?_ ?_ h3
        · unfold putG; split
          · simp; omega
          · exact h1
        · unfold putG; split
          · simp only [List.all_append, h2, List.all_cons, g3, List.all_nil, Bool.and_self]
          · exact h2
      · split
        · obtain ⟨g1, g2, g3⟩ := mpV_ok ok1
          refine recV_all n g1 h1 h2 fun p hp => ?_
          unfold putP at hp
          split at hp
          · exact h3 p hp
          · rcases List.mem_append.1 hp with hp | hp
            · exact h3 p hp
            · simp at hp
              subst hp
              obtain ⟨q1, _⟩ := tkV_ok ok1 3 (by omega)
              obtain ⟨q2, _⟩ := tkV_b b _ (tkV b (c.1 + 1) c.2 3).2.2 2 q1.1 (by omega)
              exact ⟨g3, q2⟩
        · exact recV_all n ok1 h1 h2 h3
    · exact ⟨h1, h2, h3⟩
theorem mapOf_all (many : Nat) (ps : List Pt) (h : ∀ p ∈ ps, 0 ≤ p.1 ∧ 0 ≤ p.2) : ((mapOf many ps).map (·.1)).Nodup ∧ ∀ p ∈ mapOf many ps, 0 ≤ p.1 ∧ p.1 ≤ 1114111 ∧ 0 ≤ p.2 ∧ p.2 < many := by
  unfold mapOf
  have key : ∀ (ps M : List Pt), (∀ p ∈ ps, 0 ≤ p.1 ∧ 0 ≤ p.2) → (M.map (·.1)).Nodup → (∀ p ∈ M, 0 ≤ p.1 ∧ p.1 ≤ 1114111 ∧ 0 ≤ p.2 ∧ p.2 < many) →
      ((ps.foldl (fun M p => if keepP many p = true then mput M p else M) M).map (·.1)).Nodup ∧ ∀ p ∈ ps.foldl (fun M p => if keepP many p = true then mput M p else M) M, 0 ≤ p.1 ∧ p.1 ≤ 1114111 ∧ 0 ≤ p.2 ∧ p.2 < many := by
    intro ps
    induction ps with
    | nil => intro M _ h1 h2; exact ⟨h1, h2⟩
    | cons p ps ih =>
      intro M h0 h1 h2
      simp only [List.foldl_cons]
      have hp := h0 p (by simp)
      by_cases hk : keepP many p = true
      · rw [if_pos hk]
        simp [keepP] at hk
        exact ih _ (fun q hq => h0 q (by simp [hq])) (mput_nodup h1 p) fun q hq => (mput_mem hq).elim (h2 q) fun e => e ▸ ⟨hp.1, hk.1, hp.2, hk.2⟩
      · rw [if_neg hk]
        exact ih _ (fun q hq => h0 q (by simp [hq])) h1 h2
  exact key ps [] h (by simp) (by simp)
theorem prB_of (many : Nat) : ∀ (l : List Pt) (last : Int), (∀ p ∈ l, last < p.1 ∧ p.1 ≤ 1114111 ∧ 0 ≤ p.2 ∧ p.2 < many) → (l.Pairwise fun a b => a.1 < b.1) → prB many last l = true
  | [], last, _, _ => rfl
  | p :: r, last, h, hs => by
    obtain ⟨h1, h2, h3, h4⟩ := h p (by simp)
    rw [List.pairwise_cons] at hs
    simp only [prB, prB_of many r p.1 (fun q hq => ⟨hs.1 q hq, (h q (by simp [hq])).2⟩) hs.2]
    simp [h1, h2, h3, h4]
theorem cutG_glB {g : Gl} (many : Nat) (h : glA g = true) : glB many (cutG many g) = true := by
  simp only [glA, Bool.and_eq_true, decide_eq_true_eq, List.all_eq_true] at h
  obtain ⟨h1, h2, h3, h4, h5⟩ := h
  simp only [glB, cutG, Bool.and_eq_true, decide_eq_true_eq, List.all_eq_true]
  refine ⟨h1, decide_eq_true h2, decide_eq_true (Nat.le_trans (List.length_filter_le _ _) h3), h4, fun p hp => ?_⟩
  obtain ⟨hp1, hp2⟩ := List.mem_filter.1 hp
  have := h5 p hp1
  simp [pcA] at this
  simp [farB] at hp2
  simp [pcB, this, hp2]
theorem right_read (b : List UInt8) (h7 : 7 ≤ b.length) : rightB (readV b) = true := by
  obtain ⟨h1, h2, h3⟩ := recV_all (b := b) b.length (c := (7, false)) (gs := []) (ps := []) ⟨h7, by simp⟩ (by simp) (by simp) (by simp)
  unfold readV endV rightB
  generalize recV b b.length (7, false) [] [] = x at *
  obtain ⟨m1, m2⟩ := mapOf_all x.1.length x.2 h3
  simp only [List.length_map, h1, decide_true, Bool.true_and, Bool.and_eq_true]
  refine ⟨?_, ?_⟩
  · rw [List.all_eq_true]
    intro g hg
    obtain ⟨g0, hg0, rfl⟩ := List.mem_map.1 hg
    exact cutG_glB _ (List.all_eq_true.1 h2 g0 hg0)
  · refine prB_of _ _ _ (fun p hp => ?_) (le_lt (sortP_le _) (((sortP_perm _).map _).nodup_iff.2 m1))
    obtain ⟨q1, q2, q3, q4⟩ := m2 p ((sortP_perm _).subset hp)
    exact ⟨by omega, q2, q3, q4⟩
end Go.Vai

set_option linter.unusedVariables false
set_option linter.unusedSimpArgs false
set_option linter.unnecessarySimpa false
set_option linter.unusedSectionVars false
namespace Go.Vai
theorem byt_nat (n : Int) : ((byt n).toNat : Int) = n % 256 := by
  unfold byt
  have h1 : 0 ≤ n % 256 := Int.emod_nonneg _ (by omega)
  have h2 : n % 256 < 256 := Int.emod_lt_of_pos _ (by omega)
  rw [UInt8.toNat_ofNat_of_lt' (by simp [UInt8.size]; omega)]
  omega
theorem be1 (n : Int) (h0 : 0 ≤ n) (h1 : n < 256) : beN (num1 n) = n := by
  simp only [beN, num1, List.foldl_cons, List.foldl_nil, stepN, byt_nat]; omega
theorem be2 (n : Int) (h0 : 0 ≤ n) (h1 : n < 65536) : beN (num2 n) = n := by
  simp only [beN, num2, List.foldl_cons, List.foldl_nil, stepN, byt_nat, Int.fdiv_eq_ediv_of_nonneg n (show (0 : Int) ≤ 256 by omega)]; omega
theorem be2s (n : Int) (h0 : -32768 ≤ n) (h1 : n < 0) : beN (num2 n) = n + 65536 := by
  simp only [beN, num2, List.foldl_cons, List.foldl_nil, stepN, byt_nat, Int.fdiv_eq_ediv_of_nonneg n (show (0 : Int) ≤ 256 by omega)]; omega
theorem be3 (n : Int) (h0 : 0 ≤ n) (h1 : n < 16777216) : beN (num3 n) = n := by
  simp only [beN, num3, List.foldl_cons, List.foldl_nil, stepN, byt_nat, Int.fdiv_eq_ediv_of_nonneg n (show (0 : Int) ≤ 256 by omega), Int.fdiv_eq_ediv_of_nonneg n (show (0 : Int) ≤ 65536 by omega)]; omega
def At (b : List UInt8) (c : Nat) (w : List UInt8) : Prop := ∃ r, b.drop c = w ++ r
theorem At.app {b : List UInt8} {c : Nat} {w z : List UInt8} (h : At b c (w ++ z)) : At b c w ∧ At b (c + w.length) z := by
  obtain ⟨r, h⟩ := h
  refine ⟨⟨z ++ r, by rw [h, List.append_assoc]⟩, r, ?_⟩
  rw [← List.drop_drop, h, List.append_assoc, List.drop_left]
theorem At.len {b : List UInt8} {c : Nat} {w : List UInt8} (h : At b c w) (hw : 0 < w.length) : c + w.length ≤ b.length := by
  obtain ⟨r, h⟩ := h
  have := congrArg List.length h
  simp at this; omega
theorem At.len' {b : List UInt8} {c : Nat} {w : List UInt8} (h : At b c w) (hc : c ≤ b.length) : c + w.length ≤ b.length := by
  obtain ⟨r, h⟩ := h
  have := congrArg List.length h
  simp at this; omega
theorem tkV_at {b : List UInt8} {c : Nat} {w : List UInt8} (h : At b c w) (hw : 0 < w.length) : tkV b c false w.length = (beN w, c + w.length, false) := by
  have h1 := h.len hw
  obtain ⟨r, h⟩ := h
  unfold tkV
  rw [if_neg (by simp; omega), h, List.take_left]
theorem tk1_at {b : List UInt8} {c : Nat} {n : Int} (h : At b c (num1 n)) (h0 : 0 ≤ n) (h1 : n < 256) : tkV b c false 1 = (n, c + 1, false) := by
  have := tkV_at h (by simp [num1])
  rwa [be1 n h0 h1] at this
theorem tk2_at {b : List UInt8} {c : Nat} {n : Int} (h : At b c (num2 n)) (h0 : 0 ≤ n) (h1 : n < 65536) : tkV b c false 2 = (n, c + 2, false) := by
  have := tkV_at h (by simp [num2])
  rwa [be2 n h0 h1] at this
theorem tk3_at {b : List UInt8} {c : Nat} {n : Int} (h : At b c (num3 n)) (h0 : 0 ≤ n) (h1 : n < 16777216) : tkV b c false 3 = (n, c + 3, false) := by
  have := tkV_at h (by simp [num3])
  rwa [be3 n h0 h1] at this
theorem sg_at {b : List UInt8} {c : Nat} {n : Int} (h : At b c (num2 n)) (hn : coordB n = true) : sgV b c false = (n, c + 2, false) := by
  simp [coordB] at hn
  have h1 := tkV_at h (by simp [num2])
  have h2 : (num2 n).length = 2 := rfl
  rw [h2] at h1
  unfold sgV
  rw [h1]
  rcases Int.lt_or_le n 0 with hz | hz
  · rw [be2s n hn.1 hz]
    simp only
    rw [if_pos (by omega)]
    congr 1; omega
  · rw [be2 n hz (by omega)]
    simp only
    rw [if_neg (by omega)]
theorem pt_at {b : List UInt8} {c : Nat} {p : Pt} (h : At b c (ptW p)) (hp : ptB p = true) : ptV b c false = (p, c + 4, false) := by
  simp [ptB] at hp
  obtain ⟨h1, h2⟩ := At.app h
  have h3 : (num2 p.1).length = 2 := rfl
  rw [h3] at h2
  unfold ptV
  simp only [sg_at h1 hp.1, sg_at h2 hp.2]
theorem pts_at {b : List UInt8} : ∀ (o : Ol) {c : Nat}, At b c (o.flatMap ptW) → o.all ptB = true → ptsV b o.length (c, false) = (o, c + (o.flatMap ptW).length, false)
  | [], c, h, _ => rfl
  | p :: o, c, h, ho => by
    simp at ho
    rw [List.flatMap_cons] at h
    obtain ⟨h1, h2⟩ := At.app h
    have h3 : (ptW p).length = 4 := rfl
    rw [h3] at h2
    simp only [List.length_cons, ptsV, pt_at h1 ho.1]
    rw [pts_at o h2 (by simpa using ho.2)]
    simp [h3]; omega
theorem ols_at {b : List UInt8} : ∀ (l : List Ol) (i : Nat) {c : Nat}, At b c (l.flatMap olW) → l.all olB = true → i + l.length ≤ 64 → olsV b l.length i (c, false) = (l, c + (l.flatMap olW).length, false)
  | [], i, c, h, _, _ => rfl
  | o :: l, i, c, h, ho, hi => by
    simp only [List.all_cons, Bool.and_eq_true] at ho
    obtain ⟨ho1, ho2⟩ := ho
    simp only [olB, Bool.and_eq_true, decide_eq_true_eq] at ho1
    rw [List.flatMap_cons] at h
    obtain ⟨h1, h2⟩ := At.app h
    obtain ⟨h3, h4⟩ := At.app h1
    have e1 : (num1 (o.length : Int)).length = 1 := rfl
    rw [e1] at h4
    simp only [List.length_cons] at hi
    have e2 : (olW o).length = 1 + (o.flatMap ptW).length := by simp [olW, e1]
    rw [e2] at h2
    simp only [List.length_cons, olsV, tk1_at h3 (by omega) (by omega), Int.toNat_natCast, pts_at o h4 ho1.2]
    rw [show c + 1 + (o.flatMap ptW).length = c + (1 + (o.flatMap ptW).length) by omega, ols_at l (i + 1) h2 ho2 (by omega)]
    simp only [show i < 64 by omega, if_true, Bool.false_eq_true, if_false, List.flatMap_cons, List.length_append, e2]
    congr 2; omega
theorem pcs_at {b : List UInt8} : ∀ (l : List Pc) (i : Nat) {c : Nat} (many : Nat), many ≤ 1000 → At b c (l.flatMap pcW) → l.all (pcB many) = true → i + l.length ≤ 32 → pcsV b l.length i (c, false) = (l, c + (l.flatMap pcW).length, false)
  | [], i, c, many, _, h, _, _ => rfl
  | p :: l, i, c, many, hm, h, ho, hi => by
    simp only [List.all_cons, Bool.and_eq_true] at ho
    obtain ⟨ho1, ho2⟩ := ho
    simp only [pcB, Bool.and_eq_true, decide_eq_true_eq] at ho1
    rw [List.flatMap_cons] at h
    obtain ⟨h1, h2⟩ := At.app h
    obtain ⟨h3, h4⟩ := At.app h1
    have e1 : (num2 p.1).length = 2 := rfl
    have e2 : (pcW p).length = 6 := rfl
    rw [e1] at h4
    rw [e2] at h2
    simp only [List.length_cons] at hi
    have hp : ptB p.2 = true := by simp [ptB, ho1.2.2]
    simp only [List.length_cons, pcsV, tk2_at h3 (by omega) (by omega), pt_at (p := p.2) h4 hp]
    rw [show c + 2 + 4 = c + 6 by omega, pcs_at l (i + 1) many hm h2 ho2 (by omega)]
    simp only [show i < 32 by omega, if_true, Bool.false_eq_true, if_false, List.flatMap_cons, List.length_append, e2]
    congr 2; omega
def glW' (g : Gl) : List UInt8 := num2 g.1 ++ (num1 g.2.1.length ++ (g.2.1.flatMap olW ++ (num1 g.2.2.length ++ g.2.2.flatMap pcW)))
theorem gl_at {b : List UInt8} {g : Gl} {c : Nat} {many : Nat} (hm : many ≤ 1000) (h : At b c (glW' g)) (hg : glB many g = true) : glV b (c, false) = (g, c + (glW' g).length, false) := by
  simp only [glB, Bool.and_eq_true, decide_eq_true_eq] at hg
  obtain ⟨g1, g2, g3, g4, g5⟩ := hg
  obtain ⟨h1, h⟩ := At.app h
  obtain ⟨h2, h⟩ := At.app h
  obtain ⟨h3, h⟩ := At.app h
  obtain ⟨h4, h5⟩ := At.app h
  have e2 : (num2 g.1).length = 2 := rfl
  have e1 : ∀ n : Int, (num1 n).length = 1 := fun _ => rfl
  rw [e2] at h2 h3 h4 h5
  rw [e1] at h3 h4 h5
  rw [e1] at h5
  unfold glV
  simp only [sg_at h1 g1, tk1_at h2 (by omega) (by omega), Int.toNat_natCast, ols_at g.2.1 0 h3 g4 (by omega), tk1_at h4 (by omega) (by omega), pcs_at g.2.2 0 many hm h5 g5 (by omega)]
  simp only [glW', List.length_append, e1, e2]
  congr 2; omega
theorem mp_at {b : List UInt8} {p : Pt} {c : Nat} (h : At b c (num3 p.1 ++ num2 p.2)) (h1 : 0 ≤ p.1) (h2 : p.1 ≤ 1114111) (h3 : 0 ≤ p.2) (h4 : p.2 < 1000) : mpV b (c, false) = (p, c + 5, false) := by
  obtain ⟨q1, q2⟩ := At.app h
  have e : (num3 p.1).length = 3 := rfl
  rw [e] at q2
  unfold mpV
  simp only [tk3_at q1 h1 (by omega), tk2_at q2 h3 (by omega)]
def CutLaw {α : Type} (r : List UInt8 → Cu → α × Cu) : Prop := ∀ (b : List UInt8) (k : Nat) (c : Cu), k ≤ b.length → c.1 ≤ k → c.2 = false →
  ((r b c).2.2 = false ∧ (r b c).2.1 ≤ k ∧ r (b.take k) c = r b c) ∨ (((r b c).2.2 = true ∨ k < (r b c).2.1) ∧ (r (b.take k) c).2.2 = true)
def BrkLaw {α : Type} (r : List UInt8 → Cu → α × Cu) : Prop := ∀ (b : List UInt8) (c : Cu), (c.2 = true → (r b c).2.2 = true) ∧ (okC b c → c.1 ≤ (r b c).2.1)
theorem tk_cut (n : Nat) (hn : 0 < n) : CutLaw fun b c => tkV b c.1 c.2 n := by
  intro b k c hk hc hf
  simp only [tkV, hf, Bool.false_eq_true, false_or]
  by_cases h1 : b.length < c.1 + n
  · right
    rw [if_pos h1]
    refine ⟨.inl rfl, ?_⟩
    rw [if_pos (by simp; omega)]
  · rw [if_neg h1]
    by_cases h2 : c.1 + n ≤ k
    · left
      refine ⟨rfl, h2, ?_⟩
      rw [if_neg (by simp; omega), List.drop_take, List.take_take, Nat.min_eq_left (by omega)]
    · right
      refine ⟨.inr (by simp only; omega), ?_⟩
      rw [if_pos (by simp; omega)]
theorem tk_brk (n : Nat) (hn : n ≤ 3) : BrkLaw fun b c => tkV b c.1 c.2 n := fun b c => ⟨fun h => by simp [tkV, h], fun h => (tkV_ok h n hn).2⟩
theorem CutLaw.bind {α β γ : Type} {r : List UInt8 → Cu → α × Cu} {s : α → List UInt8 → Cu → β × Cu} {f : α → β → γ} (h1 : CutLaw r) (h2 : ∀ a, CutLaw (s a)) (b2 : ∀ a, BrkLaw (s a)) (ok : ∀ b c, okC b c → okC b (r b c).2) :
    CutLaw fun b c => (f (r b c).1 (s (r b c).1 b (r b c).2).1, (s (r b c).1 b (r b c).2).2) := by
  intro b k c hk hc hf
  have hok : okC b c := ⟨by omega, by rw [hf]; simp⟩
  rcases h1 b k c hk hc hf with ⟨q1, q2, q3⟩ | ⟨q1, q2⟩
  · rcases h2 (r b c).1 b k (r b c).2 hk q2 q1 with ⟨p1, p2, p3⟩ | ⟨p1, p2⟩
    · exact .inl ⟨p1, p2, by simp only [q3, p3]⟩
    · exact .inr ⟨p1, by simp only [q3]; exact p2⟩
  · right
    refine ⟨?_, (b2 _ _ _).1 q2⟩
    rcases q1 with q1 | q1
    · exact .inl ((b2 _ _ _).1 q1)
    · exact .inr (Nat.lt_of_lt_of_le q1 ((b2 _ _ _).2 (ok b c hok)))
theorem CutLaw.map {α γ : Type} {r : List UInt8 → Cu → α × Cu} (f : α → γ) (h : CutLaw r) : CutLaw fun b c => (f (r b c).1, (r b c).2) := by
  intro b k c hk hc hf
  rcases h b k c hk hc hf with ⟨q1, q2, q3⟩ | ⟨q1, q2⟩
  · exact .inl ⟨q1, q2, by simp only [q3]⟩
  · exact .inr ⟨q1, q2⟩
theorem BrkLaw.of {α : Type} {r : List UInt8 → Cu → α × Cu} (h1 : ∀ b c, c.2 = true → (r b c).2.2 = true) (h2 : ∀ b c, okC b c → c.1 ≤ (r b c).2.1) : BrkLaw r := fun b c => ⟨h1 b c, h2 b c⟩
def grd {β γ : Type} (z : γ) (f : β → γ) (s : List UInt8 → Cu → β × Cu) : List UInt8 → Cu → γ × Cu := fun b c => if c.2 = true then (z, c) else (f (s b c).1, (s b c).2)
theorem CutLaw.grd {β γ : Type} (z : γ) (f : β → γ) {s : List UInt8 → Cu → β × Cu} (h : CutLaw s) : CutLaw (grd z f s) := by
  intro b k c hk hc hf
  have e : ∀ b, Vai.grd z f s b c = (f (s b c).1, (s b c).2) := fun b => by simp [Vai.grd, hf]
  rw [e, e]
  exact CutLaw.map f h b k c hk hc hf
theorem BrkLaw.grd {β γ : Type} (z : γ) (f : β → γ) {s : List UInt8 → Cu → β × Cu} (h : BrkLaw s) : BrkLaw (grd z f s) := by
  intro b c
  unfold Vai.grd
  by_cases hc : c.2 = true
  · rw [if_pos hc]; exact ⟨fun h => h, fun _ => Nat.le_refl _⟩
  · rw [if_neg hc]; exact ⟨fun h => absurd h hc, (h b c).2⟩
theorem sg_cut : CutLaw fun b c => sgV b c.1 c.2 := (tk_cut 2 (by omega)).map fun x => if 32767 < x then x - 65536 else x
theorem sg_brk : BrkLaw fun b c => sgV b c.1 c.2 := .of (fun b c h => by simp [sgV, tkV, h]) fun b c h => (sgV_ok h).2
theorem pt_cut : CutLaw fun b c => ptV b c.1 c.2 := CutLaw.bind (s := fun _ b c => sgV b c.1 c.2) (f := fun x y => (x, y)) sg_cut (fun _ => sg_cut) (fun _ => sg_brk) fun b c h => (sgV_ok h).1
theorem pt_brk : BrkLaw fun b c => ptV b c.1 c.2 := .of (fun b c h => by
  have h1 := (sg_brk b c).1 h
  have h2 := (sg_brk b (sgV b c.1 c.2).2).1 h1
  simpa [ptV] using h2) fun b c h => (ptV_ok h).2
theorem pts_brk (n : Nat) : BrkLaw fun b c => ptsV b n c := .of (fun b c h => by
  cases n with
  | zero => exact h
  | succ n =>
    have h1 := (pt_brk b c).1 h
    simp only at h1
    simp only [ptsV, h1, if_true]) fun b c h => (ptsV_ok n h).2.1
theorem pts_cut : ∀ n, CutLaw fun b c => ptsV b n c
  | 0 => fun b k c hk hc hf => .inl ⟨hf, hc, rfl⟩
  | n + 1 => by
    have h := CutLaw.bind (s := fun p => grd [] (fun l => p :: l) fun b c => ptsV b n c) (f := fun _ y => y) pt_cut (fun p => CutLaw.grd _ _ (pts_cut n)) (fun p => BrkLaw.grd _ _ (pts_brk n)) fun b c h => (ptV_ok h).1
    have e : (fun b c => ptsV b (n + 1) c) = fun b c => ((grd [] (fun l => (ptV b c.1 c.2).1 :: l) (fun b c => ptsV b n c) b (ptV b c.1 c.2).2).1, (grd [] (fun l => (ptV b c.1 c.2).1 :: l) (fun b c => ptsV b n c) b (ptV b c.1 c.2).2).2) := by
      funext b c
      simp only [ptsV, grd]
    rw [e]
    exact h
theorem ols_brk (n i : Nat) : BrkLaw fun b c => olsV b n i c := .of (fun b c h => by
  cases n with
  | zero => exact h
  | succ n =>
    have h1 := (tk_brk 1 (by omega) b c).1 h
    simp only at h1
    simp only [olsV, h1, if_true]) fun b c h => (olsV_ok n i h).2.1
theorem ols_cut : ∀ n i, CutLaw fun b c => olsV b n i c
  | 0, i => fun b k c hk hc hf => .inl ⟨hf, hc, rfl⟩
  | n + 1, i => by
    have h2 : ∀ m : Nat, CutLaw fun b c => ((if i < 64 then (ptsV b m c).1 :: (olsV b n (i + 1) (ptsV b m c).2).1 else (olsV b n (i + 1) (ptsV b m c).2).1), (olsV b n (i + 1) (ptsV b m c).2).2) := fun m =>
      CutLaw.bind (s := fun _ b c => olsV b n (i + 1) c) (f := fun x y => if i < 64 then x :: y else y) (pts_cut m) (fun _ => ols_cut n (i + 1)) (fun _ => ols_brk n (i + 1)) fun b c h => (ptsV_ok m h).1
    have b2 : ∀ m : Nat, BrkLaw fun b c => ((if i < 64 then (ptsV b m c).1 :: (olsV b n (i + 1) (ptsV b m c).2).1 else (olsV b n (i + 1) (ptsV b m c).2).1), (olsV b n (i + 1) (ptsV b m c).2).2) := fun m => .of
      (fun b c h => (ols_brk n (i + 1) b _).1 ((pts_brk m b c).1 h)) fun b c h => Nat.le_trans (ptsV_ok m h).2.1 (olsV_ok n (i + 1) (ptsV_ok m h).1).2.1
    have h := CutLaw.bind (s := fun k => grd [] (fun l => l) fun b c => ((if i < 64 then (ptsV b k.toNat c).1 :: (olsV b n (i + 1) (ptsV b k.toNat c).2).1 else (olsV b n (i + 1) (ptsV b k.toNat c).2).1), (olsV b n (i + 1) (ptsV b k.toNat c).2).2)) (f := fun _ y => y) (tk_cut 1 (by omega)) (fun k => CutLaw.grd _ _ (h2 k.toNat)) (fun k => BrkLaw.grd _ _ (b2 k.toNat)) fun b c h => (tkV_ok h 1 (by omega)).1
    have e : (fun b c => olsV b (n + 1) i c) = fun b c => ((grd [] (fun l => l) (fun b' c' => ((if i < 64 then (ptsV b' (tkV b c.1 c.2 1).1.toNat c').1 :: (olsV b' n (i + 1) (ptsV b' (tkV b c.1 c.2 1).1.toNat c').2).1 else (olsV b' n (i + 1) (ptsV b' (tkV b c.1 c.2 1).1.toNat c').2).1), (olsV b' n (i + 1) (ptsV b' (tkV b c.1 c.2 1).1.toNat c').2).2)) b (tkV b c.1 c.2 1).2).1,
        (grd [] (fun l => l) (fun b' c' => ((if i < 64 then (ptsV b' (tkV b c.1 c.2 1).1.toNat c').1 :: (olsV b' n (i + 1) (ptsV b' (tkV b c.1 c.2 1).1.toNat c').2).1 else (olsV b' n (i + 1) (ptsV b' (tkV b c.1 c.2 1).1.toNat c').2).1), (olsV b' n (i + 1) (ptsV b' (tkV b c.1 c.2 1).1.toNat c').2).2)) b (tkV b c.1 c.2 1).2).2) := by
      funext b c
      simp only [olsV, grd]
    rw [e]
    exact h
theorem pcs_brk (n i : Nat) : BrkLaw fun b c => pcsV b n i c := .of (fun b c h => by
  cases n with
  | zero => exact h
  | succ n =>
    have h1 := (pt_brk b _).1 ((tk_brk 2 (by omega) b c).1 h)
    simp only at h1
    simp only [pcsV, h1, if_true]) fun b c h => (pcsV_ok n i h).2.1
theorem pcs_cut : ∀ n i, CutLaw fun b c => pcsV b n i c
  | 0, i => fun b k c hk hc hf => .inl ⟨hf, hc, rfl⟩
  | n + 1, i => by
    have h1 : CutLaw fun b c => (((tkV b c.1 c.2 2).1, (ptV b (tkV b c.1 c.2 2).2.1 (tkV b c.1 c.2 2).2.2).1), (ptV b (tkV b c.1 c.2 2).2.1 (tkV b c.1 c.2 2).2.2).2) :=
      CutLaw.bind (s := fun _ b c => ptV b c.1 c.2) (f := fun x y => (x, y)) (tk_cut 2 (by omega)) (fun _ => pt_cut) (fun _ => pt_brk) fun b c h => (tkV_ok h 2 (by omega)).1
    have h := CutLaw.bind (s := fun p => grd [] (fun l => if i < 32 then p :: l else l) fun b c => pcsV b n (i + 1) c) (f := fun _ y => y) h1 (fun p => CutLaw.grd _ _ (pcs_cut n (i + 1))) (fun p => BrkLaw.grd _ _ (pcs_brk n (i + 1))) fun b c h => (ptV_ok (tkV_ok h 2 (by omega)).1).1
    have e : (fun b c => pcsV b (n + 1) i c) = fun b c => ((grd [] (fun l => if i < 32 then ((tkV b c.1 c.2 2).1, (ptV b (tkV b c.1 c.2 2).2.1 (tkV b c.1 c.2 2).2.2).1) :: l else l) (fun b c => pcsV b n (i + 1) c) b (ptV b (tkV b c.1 c.2 2).2.1 (tkV b c.1 c.2 2).2.2).2).1,
        (grd [] (fun l => if i < 32 then ((tkV b c.1 c.2 2).1, (ptV b (tkV b c.1 c.2 2).2.1 (tkV b c.1 c.2 2).2.2).1) :: l else l) (fun b c => pcsV b n (i + 1) c) b (ptV b (tkV b c.1 c.2 2).2.1 (tkV b c.1 c.2 2).2.2).2).2) := by
      funext b c
      simp only [pcsV, grd]
    rw [e]
    exact h
theorem ols1_cut : CutLaw fun b c => olsV b (tkV b c.1 c.2 1).1.toNat 0 (tkV b c.1 c.2 1).2 :=
  CutLaw.bind (s := fun m b c => olsV b m.toNat 0 c) (f := fun _ y => y) (tk_cut 1 (by omega)) (fun m => ols_cut m.toNat 0) (fun m => ols_brk m.toNat 0) fun b c h => (tkV_ok h 1 (by omega)).1
theorem pcs1_cut : CutLaw fun b c => pcsV b (tkV b c.1 c.2 1).1.toNat 0 (tkV b c.1 c.2 1).2 :=
  CutLaw.bind (s := fun m b c => pcsV b m.toNat 0 c) (f := fun _ y => y) (tk_cut 1 (by omega)) (fun m => pcs_cut m.toNat 0) (fun m => pcs_brk m.toNat 0) fun b c h => (tkV_ok h 1 (by omega)).1
theorem ols1_brk : BrkLaw fun b c => olsV b (tkV b c.1 c.2 1).1.toNat 0 (tkV b c.1 c.2 1).2 := .of (fun b c h => (ols_brk _ 0 b _).1 ((tk_brk 1 (by omega) b c).1 h)) fun b c h => Nat.le_trans (tkV_ok h 1 (by omega)).2 (olsV_ok _ 0 (tkV_ok h 1 (by omega)).1).2.1
theorem pcs1_brk : BrkLaw fun b c => pcsV b (tkV b c.1 c.2 1).1.toNat 0 (tkV b c.1 c.2 1).2 := .of (fun b c h => (pcs_brk _ 0 b _).1 ((tk_brk 1 (by omega) b c).1 h)) fun b c h => Nat.le_trans (tkV_ok h 1 (by omega)).2 (pcsV_ok _ 0 (tkV_ok h 1 (by omega)).1).2.1
theorem gl_cut : CutLaw glV := by
  have h1 : CutLaw fun b c => (((olsV b (tkV b c.1 c.2 1).1.toNat 0 (tkV b c.1 c.2 1).2).1, (pcsV b (tkV b (olsV b (tkV b c.1 c.2 1).1.toNat 0 (tkV b c.1 c.2 1).2).2.1 (olsV b (tkV b c.1 c.2 1).1.toNat 0 (tkV b c.1 c.2 1).2).2.2 1).1.toNat 0 (tkV b (olsV b (tkV b c.1 c.2 1).1.toNat 0 (tkV b c.1 c.2 1).2).2.1 (olsV b (tkV b c.1 c.2 1).1.toNat 0 (tkV b c.1 c.2 1).2).2.2 1).2).1), (pcsV b (tkV b (olsV b (tkV b c.1 c.2 1).1.toNat 0 (tkV b c.1 c.2 1).2).2.1 (olsV b (tkV b c.1 c.2 1).1.toNat 0 (tkV b c.1 c.2 1).2).2.2 1).1.toNat 0 (tkV b (olsV b (tkV b c.1 c.2 1).1.toNat 0 (tkV b c.1 c.2 1).2).2.1 (olsV b (tkV b c.1 c.2 1).1.toNat 0 (tkV b c.1 c.2 1).2).2.2 1).2).2) :=
    CutLaw.bind (s := fun _ b c => pcsV b (tkV b c.1 c.2 1).1.toNat 0 (tkV b c.1 c.2 1).2) (f := fun x y => (x, y)) ols1_cut (fun _ => pcs1_cut) (fun _ => pcs1_brk) fun b c h => (olsV_ok _ 0 (tkV_ok h 1 (by omega)).1).1
  exact CutLaw.bind (s := fun _ => _) (f := fun x y => (x, y)) sg_cut (fun _ => h1) (fun _ => .of (fun b c h => (pcs1_brk b _).1 ((ols1_brk b c).1 h)) fun b c h => Nat.le_trans ((ols1_brk b c).2 h) ((pcs1_brk b _).2 (olsV_ok _ 0 (tkV_ok h 1 (by omega)).1).1)) fun b c h => (sgV_ok h).1
theorem mp_cut : CutLaw mpV := CutLaw.bind (s := fun _ b c => tkV b c.1 c.2 2) (f := fun x y => (x, y)) (tk_cut 3 (by omega)) (fun _ => tk_cut 2 (by omega)) (fun _ => tk_brk 2 (by omega)) fun b c h => (tkV_ok h 3 (by omega)).1
end Go.Vai

set_option linter.unusedVariables false
set_option linter.unusedSimpArgs false
set_option linter.unnecessarySimpa false
set_option linter.unusedSectionVars false
namespace Go.Vai
def R (b : List UInt8) (c : Cu) (gs : List Gl) (ps : List Pt) : List Gl × List Pt := recV b (b.length - c.1) c gs ps
theorem R_end {b : List UInt8} {c : Cu} (h : b.length ≤ c.1) (gs : List Gl) (ps : List Pt) : R b c gs ps = (gs, ps) := by
  unfold R
  rw [show b.length - c.1 = 0 by omega]; rfl
theorem R_of {b : List UInt8} {c : Cu} (n : Nat) (gs : List Gl) (ps : List Pt) (h : okC b c) (hn : b.length - c.1 ≤ n) : recV b n c gs ps = R b c gs ps := recV_fuel _ _ _ _ h hn (Nat.le_refl _)
theorem R_step {b : List UInt8} {c : Nat} (gs : List Gl) (ps : List Pt) (hc : c < b.length) : R b (c, false) gs ps =
    if b[c]! = 103 then R b (glV b (c + 1, false)).2 (putG gs (glV b (c + 1, false)).1) ps
    else if b[c]! = 109 then R b (mpV b (c + 1, false)).2 gs (putP ps (mpV b (c + 1, false)).1 (mpV b (c + 1, false)).2.2)
    else R b (c + 1, false) gs ps := by
  have ok1 : okC b (c + 1, false) := ⟨by simp only; omega, by simp⟩
  have e : R b (c, false) gs ps = recV b ((b.length - c - 1) + 1) (c, false) gs ps := by
    unfold R
    congr 1
    simp only; omega
  rw [e]
  simp only [recV, hc, if_true]
  obtain ⟨g1, g2, _⟩ := glV_ok ok1
  obtain ⟨m1, m2, _⟩ := mpV_ok ok1
  simp only at g2 m2
  split
  · exact R_of _ _ _ g1 (by omega)
  · split
    · exact R_of _ _ _ m1 (by omega)
    · exact R_of _ _ _ ok1 (by simp only; omega)
theorem At.get {b : List UInt8} {c : Nat} {x : UInt8} {w : List UInt8} (h : At b c (x :: w)) : c < b.length ∧ b[c]! = x ∧ At b (c + 1) w := by
  have hl := h.len (by simp)
  simp at hl
  have h2 := (At.app (w := [x]) (z := w) h).2
  obtain ⟨r, h⟩ := h
  have hx : b[c]? = some x := by
    have := congrArg (fun l => l[0]?) h
    simpa using this
  exact ⟨by omega, by simp [show c < b.length by omega, (List.getElem?_eq_some_iff.1 hx).2], h2⟩
theorem glW_cons (g : Gl) : glW g = 103 :: glW' g := rfl
theorem R_gl {b : List UInt8} {g : Gl} {c many : Nat} (hm : many ≤ 1000) (h : At b c (glW g)) (hg : glB many g = true) (gs : List Gl) (ps : List Pt) : R b (c, false) gs ps = R b (c + (glW g).length, false) (putG gs g) ps := by
  rw [glW_cons] at h ⊢
  obtain ⟨h1, h2, h3⟩ := h.get
  rw [R_step _ _ h1, if_pos h2, gl_at hm h3 hg]
  simp only [List.length_cons]
  rw [show c + 1 + (glW' g).length = c + ((glW' g).length + 1) by omega]
theorem R_pr {b : List UInt8} {p : Pt} {c many : Nat} (hm : many ≤ 1000) (h : At b c (prW p)) (h1 : 0 ≤ p.1) (h2 : p.1 ≤ 1114111) (h3 : 0 ≤ p.2) (h4 : p.2 < many) (gs : List Gl) (ps : List Pt) : R b (c, false) gs ps = R b (c + 6, false) gs (ps ++ [p]) := by
  obtain ⟨q1, q2, q3⟩ := At.get (x := 109) (w := num3 p.1 ++ num2 p.2) h
  rw [R_step _ _ q1, if_neg (by rw [q2]; decide), if_pos q2, mp_at q3 h1 h2 h3 (by omega)]
  rfl
theorem putG_app {gs : List Gl} {g : Gl} (h : gs.length < 1000) : putG gs g = gs ++ [g] := if_pos h
theorem R_gls {b : List UInt8} {many : Nat} (hm : many ≤ 1000) : ∀ (l : List Gl) {c : Nat} (gs : List Gl) (ps : List Pt), At b c (l.flatMap glW) → l.all (glB many) = true → gs.length + l.length ≤ 1000 →
    R b (c, false) gs ps = R b (c + (l.flatMap glW).length, false) (gs ++ l) ps
  | [], c, gs, ps, h, _, _ => by simp
  | g :: l, c, gs, ps, h, hg, hl => by
    simp only [List.all_cons, Bool.and_eq_true] at hg
    rw [List.flatMap_cons] at h
    obtain ⟨h1, h2⟩ := At.app h
    simp only [List.length_cons] at hl
    rw [R_gl hm h1 hg.1, putG_app (by omega), R_gls hm l _ _ h2 hg.2 (by simp; omega)]
    simp only [List.flatMap_cons, List.length_append, List.append_assoc, List.cons_append, List.nil_append]
    rw [show c + (glW g).length + (l.flatMap glW).length = c + ((glW g).length + (l.flatMap glW).length) by omega]
theorem R_prs {b : List UInt8} {many : Nat} (hm : many ≤ 1000) : ∀ (l : List Pt) {c : Nat} (last : Int) (gs : List Gl) (ps : List Pt), At b c (l.flatMap prW) → -1 ≤ last → prB many last l = true →
    R b (c, false) gs ps = R b (c + (l.flatMap prW).length, false) gs (ps ++ l)
  | [], c, last, gs, ps, h, _, _ => by simp
  | p :: l, c, last, gs, ps, h, hla, hp => by
    simp only [prB, Bool.and_eq_true, decide_eq_true_eq] at hp
    rw [List.flatMap_cons] at h
    obtain ⟨h1, h2⟩ := At.app h
    have e : (prW p).length = 6 := rfl
    rw [e] at h2
    rw [R_pr hm h1 (by omega) hp.2.1 hp.2.2.1 hp.2.2.2.1, R_prs hm l p.1 _ _ h2 (by omega) hp.2.2.2.2]
    simp only [List.flatMap_cons, List.length_append, List.append_assoc, List.cons_append, List.nil_append, e]
    rw [show c + 6 + (l.flatMap prW).length = c + (6 + (l.flatMap prW).length) by omega]
theorem right_parts {f : Font} (h : rightB f = true) : f.1.length ≤ 1000 ∧ f.1.all (glB f.1.length) = true ∧ prB f.1.length (-1) f.2 = true := by
  simpa [rightB, Bool.and_eq_true, decide_eq_true_eq] using h
theorem body_at {f : Font} (z : List UInt8) : At (bodyW f ++ z) 7 (f.1.flatMap glW ++ f.2.flatMap prW) := ⟨z, by unfold bodyW; rfl⟩
theorem body_len (f : Font) : (bodyW f).length = 7 + ((f.1.flatMap glW).length + (f.2.flatMap prW).length) := by
  simp [bodyW, sgnW]; omega
theorem R_body {f : Font} (h : rightB f = true) (z : List UInt8) : R (bodyW f ++ z) (7, false) [] [] = R (bodyW f ++ z) ((bodyW f).length, false) f.1 f.2 := by
  obtain ⟨h1, h2, h3⟩ := right_parts h
  obtain ⟨a1, a2⟩ := At.app (body_at (f := f) z)
  rw [R_gls h1 f.1 [] [] a1 h2 (by simpa using h1), R_prs h1 f.2 (-1) _ _ a2 (by omega) h3, body_len]
  simp only [List.nil_append]
  rw [show 7 + (f.1.flatMap glW).length + (f.2.flatMap prW).length = 7 + ((f.1.flatMap glW).length + (f.2.flatMap prW).length) by omega]
theorem recV_ext {b : List UInt8} : ∀ (n : Nat) (c : Cu) (gs : List Gl) (ps : List Pt), ∃ z, (recV b n c gs ps).1 = gs ++ z
  | 0, c, gs, ps => ⟨[], by simp [recV]⟩
  | n + 1, c, gs, ps => by
    unfold recV
    split
    · split
      · obtain ⟨z, h⟩ := recV_ext n (glV b (c.1 + 1, c.2)).2 (putG gs (glV b (c.1 + 1, c.2)).1) ps
        rw [h]
        unfold putG
        split
        · exact ⟨[(glV b (c.1 + 1, c.2)).1] ++ z, by simp⟩
        · exact ⟨z, rfl⟩
      · split
        · exact recV_ext n _ _ _
        · exact recV_ext n _ _ _
    · exact ⟨[], by simp⟩
theorem prB_lt {many : Nat} : ∀ (l : List Pt) (last : Int), prB many last l = true → (∀ p ∈ l, last < p.1 ∧ p.1 ≤ 1114111 ∧ 0 ≤ p.2 ∧ p.2 < many) ∧ l.Pairwise fun a b => a.1 < b.1
  | [], last, _ => ⟨by simp, .nil⟩
  | p :: l, last, h => by
    simp only [prB, Bool.and_eq_true, decide_eq_true_eq] at h
    obtain ⟨h1, h2, h3, h4, h5⟩ := h
    obtain ⟨q1, q2⟩ := prB_lt l p.1 h5
    refine ⟨fun x hx => ?_, List.pairwise_cons.2 ⟨fun x hx => (q1 x hx).1, q2⟩⟩
    rcases List.mem_cons.1 hx with rfl | hx
    · exact ⟨h1, h2, h3, h4⟩
    · have := q1 x hx; exact ⟨by omega, this.2⟩
theorem lt_nodup {l : List Pt} (h : l.Pairwise fun a b => a.1 < b.1) : (l.map (·.1)).Nodup := by
  rw [List.Nodup, List.pairwise_map]
  exact h.imp fun h => by omega
theorem mput_new {M : List Pt} {p : Pt} (h : ∀ q ∈ M, q.1 < p.1) : mput M p = M ++ [p] := by
  induction M with
  | nil => rfl
  | cons q r ih =>
    have := h q (by simp)
    simp only [mput, show ¬ q.1 = p.1 by omega, if_false, List.cons_append, ih fun x hx => h x (by simp [hx])]
theorem mapOf_self (many : Nat) (l : List Pt) (h1 : ∀ p ∈ l, p.1 ≤ 1114111 ∧ p.2 < many) (h2 : l.Pairwise fun a b => a.1 < b.1) : mapOf many l = l := by
  unfold mapOf
  have key : ∀ (l M : List Pt), (∀ p ∈ l, p.1 ≤ 1114111 ∧ p.2 < many) → (M ++ l).Pairwise (fun a b => a.1 < b.1) → l.foldl (fun M p => if keepP many p = true then mput M p else M) M = M ++ l := by
    intro l
    induction l with
    | nil => intro M _ _; simp
    | cons p l ih =>
      intro M h1 h2
      have hp := h1 p (by simp)
      have hk : keepP many p = true := by simp [keepP, hp]
      simp only [List.foldl_cons, hk, if_true]
      rw [mput_new fun q hq => (List.pairwise_append.1 h2).2.2 q hq p (by simp), ih _ (fun q hq => h1 q (by simp [hq])) (by simpa using h2)]
      simp
  simpa using key l [] h1 (by simpa using h2)
theorem sortP_self {l : List Pt} (h : l.Pairwise fun a b => a.1 < b.1) : sortP l = l := (sortP_uniq (List.Perm.refl l) (lt_nodup h) (h.imp fun h => by omega)).symm
theorem cutG_self {many : Nat} {g : Gl} (h : ∀ p ∈ g.2.2, p.1 < many) : cutG many g = g := by
  have : nearF many g.2.2 = g.2.2 := List.filter_eq_self.2 fun p hp => by have := h p hp; simp [farB]; omega
  simp [cutG, this]
theorem glB_near {many : Nat} {g : Gl} (h : glB many g = true) : ∀ p ∈ g.2.2, p.1 < many := by
  simp only [glB, Bool.and_eq_true, List.all_eq_true] at h
  intro p hp
  have := h.2.2.2.2 p hp
  simp [pcB] at this
  exact this.2.1
theorem readV_R (b : List UInt8) (h : 7 ≤ b.length) : readV b = endV (R b (7, false) [] []) := by
  unfold readV
  rw [R_of _ _ _ ⟨h, by simp⟩ (by simp only; omega)]
theorem read_body {f : Font} (h : rightB f = true) : readV (bodyW f) = f := by
  have hb := R_body h []
  rw [List.append_nil] at hb
  obtain ⟨h1, h2, h3⟩ := right_parts h
  obtain ⟨q1, q2⟩ := prB_lt f.2 _ h3
  rw [readV_R _ (by rw [body_len]; omega), hb, R_end (Nat.le_refl _), endV]
  simp only
  rw [mapOf_self _ _ (fun p hp => ⟨(q1 p hp).2.1, (q1 p hp).2.2.2⟩) q2, sortP_self q2]
  have e : f.1.map (cutG f.1.length) = f.1 := by
    conv => rhs; rw [← List.map_id f.1]
    refine List.map_congr_left fun g hg => ?_
    exact cutG_self (glB_near (List.all_eq_true.1 h2 g hg))
  rw [e]
theorem At.take {b w : List UInt8} {c k : Nat} (h : At b c w) (hk : c + w.length ≤ k) : At (b.take k) c w := by
  obtain ⟨r, h⟩ := h
  refine ⟨r.take (k - c - w.length), ?_⟩
  rw [List.drop_take, h, List.take_append]
  rw [List.take_of_length_le (by omega)]
theorem Rcut_prs {b : List UInt8} {many k : Nat} (hm : many ≤ 1000) (hk : k ≤ b.length) : ∀ (l : List Pt) {c : Nat} (last : Int) (gs : List Gl) (ps : List Pt), At b c (l.flatMap prW) → c ≤ k → b.length = c + (l.flatMap prW).length → -1 ≤ last → prB many last l = true →
    (R (b.take k) (c, false) gs ps).1 = gs
  | [], c, last, gs, ps, h, hc, hb, _, _ => by
    simp at hb
    rw [R_end (by simp; omega)]
  | p :: l, c, last, gs, ps, h, hc, hb, hla, hp => by
    simp only [prB, Bool.and_eq_true, decide_eq_true_eq] at hp
    have hlk : (b.take k).length = k := by simp; omega
    rcases Nat.eq_or_lt_of_le hc with rfl | hck
    · rw [R_end (by simp only; omega)]
    rw [List.flatMap_cons] at h hb
    obtain ⟨h1, h2⟩ := At.app h
    have e : (prW p).length = 6 := rfl
    rw [e] at h2
    rw [List.length_append, e] at hb
    obtain ⟨q1, q2, q3⟩ := At.get (x := 109) (w := num3 p.1 ++ num2 p.2) h1
    have q2' : (b.take k)[c]! = 109 := by
      rw [← q2]; simp [hlk, hck, q1]
    rw [R_step _ _ (by rw [hlk]; exact hck), if_neg (by rw [q2']; decide), if_pos q2']
    have hat := mp_at q3 (by omega) hp.2.1 hp.2.2.1 (by omega)
    rcases mp_cut b k (c + 1, false) hk (by simp only; omega) rfl with ⟨r1, r2, r3⟩ | ⟨_, r2⟩
    · rw [r3, hat]
      rw [hat] at r2
      exact Rcut_prs hm hk l p.1 _ _ h2 (by simp only at r2; omega) (by omega) (by omega) hp.2.2.2.2
    · obtain ⟨m1, _, _⟩ := mpV_ok (b := b.take k) (c := (c + 1, false)) ⟨by simp only; omega, by simp⟩
      have := m1.2 r2
      rw [R_end (by omega)]
theorem Rcut_gls {b : List UInt8} {many k : Nat} (hm : many ≤ 1000) (hk : k ≤ b.length) {rs : List Pt} (hr : prB many (-1) rs = true) : ∀ (l : List Gl) {c : Nat} (gs : List Gl) (ps : List Pt), At b c (l.flatMap glW ++ rs.flatMap prW) → c ≤ k → b.length = c + (l.flatMap glW ++ rs.flatMap prW).length →
    l.all (glB many) = true → gs.length + l.length ≤ 1000 → ∃ j x, (R (b.take k) (c, false) gs ps).1 = gs ++ (l.take j ++ x) ∧ (x = [] ∨ ∃ g', x = [g'] ∧ j < l.length)
  | [], c, gs, ps, h, hc, hb, _, _ => ⟨0, [], by
    simp only [List.flatMap_nil, List.nil_append] at h hb
    rw [Rcut_prs hm hk rs (-1) gs ps h hc hb (by omega) hr]; simp, .inl rfl⟩
  | g :: l, c, gs, ps, h, hc, hb, hg, hl => by
    simp only [List.all_cons, Bool.and_eq_true] at hg
    simp only [List.length_cons] at hl
    have hlk : (b.take k).length = k := by simp; omega
    rcases Nat.eq_or_lt_of_le hc with rfl | hck
    · exact ⟨0, [], by rw [R_end (by simp only; omega)]; simp, .inl rfl⟩
    rw [List.flatMap_cons, List.append_assoc] at h hb
    obtain ⟨h1, h2⟩ := At.app h
    rw [List.length_append] at hb
    rw [glW_cons] at h1
    obtain ⟨q1, q2, q3⟩ := h1.get
    have q2' : (b.take k)[c]! = 103 := by
      rw [← q2]; simp [hlk, hck, q1]
    have hat := gl_at hm q3 hg.1
    have e : (glW g).length = (glW' g).length + 1 := by rw [glW_cons]; rfl
    rw [R_step _ _ (by rw [hlk]; exact hck), if_pos q2']
    rcases gl_cut b k (c + 1, false) hk (by simp only; omega) rfl with ⟨r1, r2, r3⟩ | ⟨_, r2⟩
    · rw [r3, hat]
      rw [hat] at r2
      rw [e] at h2 hb
      simp only at r2 ⊢
      rw [putG_app (by omega), show c + 1 + (glW' g).length = c + ((glW' g).length + 1) by omega]
      obtain ⟨j, x, e1, e2⟩ := Rcut_gls hm hk hr l (gs ++ [g]) ps h2 (by omega) (by omega) hg.2 (by simp; omega)
      refine ⟨j + 1, x, by rw [e1]; simp, ?_⟩
      rcases e2 with e2 | ⟨g', e2, e3⟩
      · exact .inl e2
      · exact .inr ⟨g', e2, by simp; omega⟩
    · obtain ⟨m1, _, _⟩ := glV_ok (b := b.take k) (c := (c + 1, false)) ⟨by simp only; omega, by simp⟩
      have := m1.2 r2
      rw [R_end (by omega), putG_app (by omega)]
      exact ⟨0, [(glV (b.take k) (c + 1, false)).1], by simp, .inr ⟨_, rfl, by simp⟩⟩
end Go.Vai
