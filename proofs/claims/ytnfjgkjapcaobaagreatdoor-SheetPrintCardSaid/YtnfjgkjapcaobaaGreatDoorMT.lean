/-
  What functions of layer 9 and of its reference compute: equations of the abstract run, and plain laws of them.
-/
import Derived.Test.YtnfjgkjapcaobaaGreatDoorM9
set_option linter.unusedVariables false
set_option linter.unusedSimpArgs false
set_option linter.unnecessarySimpa false
namespace Go.Vai
open Go.RowKit Go.ChangeShapes Go.WideShapes Go.Deep Go.Proofs Go.Proofs.YtnfjgkjapcaobaaGreatDoor
def plF : List (Nat × Tx) := [(1, .i .i64), (1, .i .i64)]
def nodeF : List (Nat × Tx) := [(1, .i .i64), (1, .i .i64), (1, .s), (2, .st plF), (2, .st plF), (1, .sl (.ref 0) 8)]
def Gx : TG := [(.st nodeF, 27)]
theorem ok_pl : TxOk Tryz.prog Gx (.st plF) 24 := by
 refine .st plF 24 _ Tryz.underlying24 (by kernel_rfl) (by kernel_rfl) ?_ ?_
 ·intro i f g h1 h2
  match i with
  | 0 => simp [plF] at h1 h2; subst h1; subst h2; exact ⟨rfl, by kernel_rfl⟩
  | 1 => simp [plF] at h1 h2; subst h1; subst h2; exact ⟨rfl, by kernel_rfl⟩
  | n + 2 => simp [plF] at h1
 ·intro i f g h1 h2
  match i with
  | 0 => simp [plF] at h1 h2; subst h1; subst h2; exact .i _ _ (by kernel_rfl)
  | 1 => simp [plF] at h1 h2; subst h1; subst h2; exact .i _ _ (by kernel_rfl)
  | n + 2 => simp [plF] at h1
theorem ok_nodeS : TxOk Tryz.prog Gx (.st nodeF) 27 := by
 refine .st nodeF 27 _ Tryz.underlying27 (by kernel_rfl) (by kernel_rfl) ?_ ?_
 ·intro i f g h1 h2
  match i with
  | 0 => simp [nodeF] at h1 h2; subst h1; subst h2; exact ⟨rfl, by kernel_rfl⟩
  | 1 => simp [nodeF] at h1 h2; subst h1; subst h2; exact ⟨rfl, by kernel_rfl⟩
  | 2 => simp [nodeF] at h1 h2; subst h1; subst h2; exact ⟨rfl, by kernel_rfl⟩
  | 3 => simp [nodeF] at h1 h2; subst h1; subst h2; exact ⟨rfl, by kernel_rfl⟩
  | 4 => simp [nodeF] at h1 h2; subst h1; subst h2; exact ⟨rfl, by kernel_rfl⟩
  | 5 => simp [nodeF] at h1 h2; subst h1; subst h2; exact ⟨rfl, by kernel_rfl⟩
  | n + 6 => simp [nodeF] at h1
 ·intro i f g h1 h2
  match i with
  | 0 => simp [nodeF] at h1 h2; subst h1; subst h2; exact .i _ _ (by kernel_rfl)
  | 1 => simp [nodeF] at h1 h2; subst h1; subst h2; exact .i _ _ (by kernel_rfl)
  | 2 => simp [nodeF] at h1 h2; subst h1; subst h2; exact .s _ (by kernel_rfl)
  | 3 => simp [nodeF] at h1 h2; subst h1; subst h2; exact ok_pl
  | 4 => simp [nodeF] at h1 h2; subst h1; subst h2; exact ok_pl
  | 5 => simp [nodeF] at h1 h2; subst h1; subst h2; exact .sl _ _ _ 27 (by kernel_rfl) (by kernel_rfl) (by decide) (of_decide_eq_true (by kernel_rfl)) (.ref 0 _ _ rfl)
  | n + 6 => simp [nodeF] at h1
theorem ok_node : TxOk Tryz.prog Gx (.ref 0) 27 := .ref 0 _ _ rfl
theorem Gx_ok : ∀ (j : Nat) (T : Tx) (t : TypeId), Gx[j]? = some (T, t) → TxOk Tryz.prog Gx T t ∧ ∃ fs, T = .st fs := by
 intro j T t h
 match j with
 | 0 =>
  simp [Gx] at h
  obtain ⟨rfl, rfl⟩ := h
  exact ⟨ok_nodeS, nodeF, rfl⟩
 | n + 1 => simp [Gx] at h
theorem hasX_str {Γ : TG} {xs : List FV} (h : HasX Γ .s xs) : ∃ l : List UInt8, xs = [.sc (.string (mkB l))] ∧ l.length ≤ 140737488351232 := by
 cases h with
 | s q h => exact ⟨q.data.toList, by rw [mkB_data], by rw [Array.length_toList]; exact h⟩
theorem hasX_int {Γ : TG} {xs : List FV} (h : HasX Γ (.i .i64) xs) : ∃ n : Int, xs = [.sc (.int .i64 n)] ∧ inI n := by
 cases h with
 | i k n h =>
  refine ⟨n, rfl, ?_⟩
  have h : (decide ((-9223372036854775808 : Int) ≤ n) && decide (n ≤ 9223372036854775807)) = true := h
  simp at h
  exact h
theorem hasX_pl {Γ : TG} {xs : List FV} (h : HasX Γ (.st plF) xs) : ∃ a b : Int, xs = [.sc (.int .i64 a), .sc (.int .i64 b)] ∧ inI a ∧ inI b := by
 cases h with
 | st _ az hl _ hf =>
  match az, hl with
  | [x, y], _ =>
   obtain ⟨a, rfl, ha⟩ := hasX_int (hf 0 _ x rfl rfl)
   obtain ⟨b, rfl, hb⟩ := hasX_int (hf 1 _ y rfl rfl)
   exact ⟨a, b, rfl, ha, hb⟩
def tyNd : Nd → Prop
 | .mk k n t a b c d l => inI k ∧ inI n ∧ t.length ≤ 140737488351232 ∧ inI a ∧ inI b ∧ inI c ∧ inI d ∧ l.length ≤ 140737488351232 ∧ tyNds l
where tyNds : List Nd → Prop
 | [] => True
 | n :: r => tyNd n ∧ tyNds r
theorem nodes_of : ∀ (es : List (List FV)), (∀ c ∈ es, ∃ n, c = eNd n ∧ tyNd n) → ∃ l, es = eNds l ∧ es.length = l.length ∧ tyNd.tyNds l
 | [], _ => ⟨[], rfl, rfl, trivial⟩
 | c :: r, h => by
  obtain ⟨n, rfl, hn⟩ := h c (by simp)
  obtain ⟨l, rfl, h1, hl⟩ := nodes_of r fun c hc => h c (by simp [hc])
  exact ⟨n :: l, rfl, by simp [h1], hn, hl⟩
theorem hasX_all {T : Tx} {xs : List FV} (h : HasX Gx T xs) : (T = .ref 0 ∨ T = .st nodeF → ∃ n, xs = eNd n ∧ tyNd n) ∧ (T = .sl (.ref 0) 8 → ∃ l, xs = [.sl (eNds l)] ∧ l.length ≤ 140737488351232 ∧ tyNd.tyNds l) := by
 induction h with
 | i k n h => exact ⟨fun h => (by rcases h with h | h <;> cases h), fun h => by cases h⟩
 | s q h => exact ⟨fun h => (by rcases h with h | h <;> cases h), fun h => by cases h⟩
 | b x => exact ⟨fun h => (by rcases h with h | h <;> cases h), fun h => by cases h⟩
 | sl e sz es h1 h2 h3 ih =>
  refine ⟨fun h => (by rcases h with h | h <;> cases h), fun h => ?_⟩
  injection h with h h'
  subst h; subst h'
  obtain ⟨l, rfl, g1, g2⟩ := nodes_of es fun c hc => by
   obtain ⟨i, hi⟩ := List.mem_iff_getElem?.1 hc
   exact (ih i c hi).1 (.inl rfl)
  exact ⟨l, rfl, by omega, g2⟩
 | st fs az hl h1 hf ih =>
  refine ⟨fun h => ?_, fun h => by cases h⟩
  rcases h with h | h
  ·cases h
  ·injection h with h
   subst h
   match az, hl with
   | [x0, x1, x2, x3, x4, x5], _ =>
    obtain ⟨k, rfl, hk⟩ := hasX_int (hf 0 _ x0 rfl rfl)
    obtain ⟨n, rfl, hn⟩ := hasX_int (hf 1 _ x1 rfl rfl)
    obtain ⟨t, rfl, ht⟩ := hasX_str (hf 2 _ x2 rfl rfl)
    obtain ⟨a, b, rfl, ha, hb⟩ := hasX_pl (hf 3 _ x3 rfl rfl)
    obtain ⟨c, d, rfl, hc, hd⟩ := hasX_pl (hf 4 _ x4 rfl rfl)
    obtain ⟨l, rfl, g1, g2⟩ := (ih 5 _ x5 rfl rfl).2 rfl
    exact ⟨.mk k n t a b c d l, rfl, hk, hn, ht, ha, hb, hc, hd, g1, g2⟩
 | ref j T t xs hj _ ih =>
  refine ⟨fun h => ?_, fun h => by cases h⟩
  rcases h with h | h
  ·injection h with h
   subst h
   simp [Gx] at hj
   exact ih.1 (.inr hj.1.symm)
  ·cases h
theorem hasX_node {xs : List FV} (h : HasX Gx (.ref 0) xs) : ∃ n, xs = eNd n ∧ tyNd n := (hasX_all h).1 (.inl rfl)
end Go.Vai
set_option linter.unusedSectionVars false
namespace Go.Vai
variable {m : Int} {e3 e4 : Value}
def cntL (f : Nd → Nat) : Nat → List Nd → Nat
 | k, [] => k
 | k, n :: r => if k < 1000 then cntL f (k + f n) r else k
def cntG : Nat → Nd → Nat
 | 0, _ => 1000
 | d + 1, .mk _ _ t _ _ _ _ l => cntL (cntG d) (1 + t.length) l
theorem cntL_le (f : Nd → Nat) (B : Nat) (hB : ∀ n, tyNd n → f n ≤ B) : ∀ (l : List Nd) (k : Nat), tyNd.tyNds l → cntL f k l ≤ max k (1000 + B)
 | [], k, _ => by rw [cntL]; omega
 | n :: r, k, h => by
  rw [cntL]
  split
  ·have h1 := cntL_le f B hB r (k + f n) h.2
   have h2 := hB n h.1
   omega
  ·omega
theorem cntG_le : ∀ (d : Nat) (n : Nd), tyNd n → cntG d n ≤ 140737488351233 + 1000 * (d + 1)
 | 0, n, _ => by rw [cntG]; omega
 | d + 1, .mk k n t a b c e l, h => by
  rw [cntG]
  unfold tyNd at h
  have := cntL_le (cntG d) (140737488351233 + 1000 * (d + 1)) (cntG_le d) l (1 + t.length) h.2.2.2.2.2.2.2.2
  omega
theorem cntL_small (f : Nd → Nat) : ∀ (l : List Nd) (k : Nat), cntL f k l ≤ 300 → (∀ n ∈ l, f n ≤ 300 → wNd n ≤ f n) → k + wNd.wNds l ≤ cntL f k l
 | [], k, h, _ => by rw [cntL] at h ⊢; simp [wNd.wNds]
 | n :: r, k, h, hf => by
  rw [cntL] at h ⊢
  split at h
  ·rename_i hk
   rw [if_pos hk]
   have h1 := cntL_small f r (k + f n) h (fun x hx => hf x (by simp [hx]))
   have h2 : f n ≤ 300 := by omega
   have h3 := hf n (by simp) h2
   simp only [wNd.wNds]
   omega
  ·omega
theorem cntG_small : ∀ (d : Nat) (n : Nd), cntG d n ≤ 300 → wNd n ≤ cntG d n
 | 0, n, h => by rw [cntG] at h; omega
 | d + 1, .mk k n t a b c e l, h => by
  rw [cntG] at h ⊢
  unfold wNd
  exact cntL_small (cntG d) l (1 + t.length) h (fun x _ hx => cntG_small d x hx)
theorem tyNd_mem : ∀ (l : List Nd) (n : Nd), tyNd.tyNds l → n ∈ l → tyNd n
 | [], n, _, h => by cases h
 | a :: r, n, hk, h => by
  rcases List.mem_cons.1 h with rfl | h
  ·exact hk.1
  ·exact tyNd_mem r n hk.2 h
theorem tyNd_ok : ∀ (s : Nat) (n : Nd), szNd n ≤ s → tyNd n → okNd n
 | 0, .mk k n t a b c d l, h, _ => by unfold szNd at h; omega
 | s + 1, .mk k n t a b c d l, h, ht => by
  unfold szNd at h
  unfold tyNd at ht
  obtain ⟨_, h1, _, h2, h3, h4, h5, _, h6⟩ := ht
  refine ⟨h1, h2, h3, h4, h5, ?_⟩
  have key : ∀ l' : List Nd, (∀ x ∈ l', szNd x ≤ s ∧ tyNd x) → okNd.okNds l' := by
   intro l'
   induction l' with
   | nil => intro _; trivial
   | cons x r ih =>
    intro hx
    exact ⟨tyNd_ok s x (hx x (by simp)).1 (hx x (by simp)).2, ih (fun y hy => hx y (by simp [hy]))⟩
  exact key l fun x hx => ⟨by have := szNd_mem l x hx; omega, tyNd_mem l x h6 hx⟩
def S30 (kk n : Int) (t : List UInt8) (p1 p2 p3 p4 : Int) (l : List Nd) (deep : Int) (x : Nat × Nat) : St :=
 { sl := [(1, i64 deep), (2, .bp 0 0), (5, i64 x.2), (6, i64 x.1)], hp := [(0, some (.box [i64 kk, i64 n, bs t, i64 p1, i64 p2, i64 p3, i64 p4, .fz (.sl (eNds l))]))], nx := 1 }
theorem run_count : ∀ (d : Nat) (n : Nd), d ≤ 41 → tyNd n → (W m e3 e4).run 30 [ndA n, i64 ((d : Int) - 1)] [] = some (i64 (cntG d n), [])
 | 0, .mk k n t p1 p2 p3 p4 l, _, _ => by
  have e : cntG 0 (.mk k n t p1 p2 p3 p4 l) = 1000 := by rw [cntG]
  rw [e]
  refine run_wp (by rw [W_T]; exact rfl) ?_
  simp only [ndA_mk]
  simp -dsimp -implicitDefEqProofs (maxSteps := 1000000) (disch := omega) [ST]
 | d + 1, .mk k n t p1 p2 p3 p4 l, hd, ht => by
  have hb0 := cntG_le (d + 1) _ ht
  have ht0 := ht
  unfold tyNd at ht
  obtain ⟨_, _, h1, _, _, _, _, h2, h3⟩ := ht
  rw [cntG] at hb0 ⊢
  have ed : (((d + 1 : Nat) : Int) - 1) = (d : Int) := by omega
  rw [ed]
  refine run_wp (by rw [W_T]; exact rfl) ?_
  simp only [ndA_mk]
  have ih : ∀ x ∈ l, (W m e3 e4).run 30 [ndA x, i64 ((d : Int) - 1)] [] = some (i64 (cntG d x), []) := fun x hx => run_count d x (by omega) (tyNd_mem l x h3 hx)
  have hc : ∀ x ∈ l, cntG d x ≤ 140737488351233 + 1000 * (d + 1) := fun x hx => cntG_le d x (tyNd_mem l x h3 hx)
  simp -dsimp -implicitDefEqProofs (maxSteps := 1000000) (disch := omega) [ST]
  refine wp_inv (S30 k n t p1 p2 p3 p4 l d) (fun x => x.1 ≤ l.length ∧ cntL (cntG d) x.2 (l.drop x.1) = cntL (cntG d) (1 + t.length) l ∧ x.2 ≤ 9007199254740992) (fun x => l.length - x.1) (0, 1 + t.length) ⟨by simp, by simp, by simp; omega⟩ (by simp -dsimp -implicitDefEqProofs (maxSteps := 1000000) (disch := omega) [ST, S30]) ?_
  rintro ⟨i, q⟩ ⟨hi, he, hq⟩
  simp only at hi he hq
  by_cases hil : i < l.length
  ·obtain ⟨x, hx⟩ : ∃ x, l[i] = x := ⟨_, rfl⟩
   have hx2 : l[i]? = some x := by rw [List.getElem?_eq_getElem hil, hx]
   have heg := eNds_getE l i x hx2
   have hih := ih x (List.mem_of_getElem? hx2)
   have hcx := hc x (List.mem_of_getElem? hx2)
   rw [List.drop_eq_getElem_cons hil, hx, cntL] at he
   by_cases hk : q < 1000
   ·rw [if_pos hk] at he
    generalize cntG d x = cx at *
    obtain ⟨k', n', t', q1, q2, q3, q4, l'⟩ := x
    simp only [ndA_mk, eNd] at hih heg
    simp -dsimp -implicitDefEqProofs (maxSteps := 1000000) (disch := omega) [ST, S30, hil, hk, heg, hih]
    refine again (i + 1, q + cx) ⟨by simp only; omega, he, by simp only; omega⟩ (by simp only; omega) (by simp -dsimp -implicitDefEqProofs (maxSteps := 1000000) (disch := omega) [ST, S30])
   ·rw [if_neg hk] at he
    rw [← he]
    simp -dsimp -implicitDefEqProofs (maxSteps := 1000000) (disch := omega) [ST, S30, hil, hk]
  ·rw [List.drop_of_length_le (by omega), cntL] at he
   rw [← he]
   simp -dsimp -implicitDefEqProofs (maxSteps := 1000000) (disch := omega) [ST, S30, hil]
theorem run_small (n : Nd) (h : tyNd n) : (W m e3 e4).run 12 [ndA n, i64 40] [] = some (bo (decide (cntG 41 n ≤ 300)), []) := by
 have hc := run_count (m := m) (e3 := e3) (e4 := e4) 41 n (by omega) h
 have ed : (((41 : Nat) : Int) - 1) = 40 := by omega
 rw [ed] at hc
 generalize cntG 41 n = c at *
 obtain ⟨k, n, t, p1, p2, p3, p4, l⟩ := n
 refine run_wp (by rw [W_T]; exact rfl) ?_
 simp only [ndA_mk] at hc ⊢
 by_cases h3 : c ≤ 300
 ·simp -dsimp -implicitDefEqProofs (maxSteps := 1000000) (disch := omega) [ST, hc, h3]
 ·simp -dsimp -implicitDefEqProofs (maxSteps := 1000000) (disch := omega) [ST, hc, h3]
def S13 (kk n : Int) (t : List UInt8) (p1 p2 p3 p4 : Int) (l : List Nd) (i : Nat) : St :=
 { sl := [(1, .bp 0 0), (2, .bp 1 0), (3, .osl 2 8 0 i), (4, i64 i)], hp := [(0, some (.box [i64 kk, i64 n, bs t, i64 p1, i64 p2, i64 p3, i64 p4, .fz (.sl (eNds l))])), (1, some (.box [i64 0, i64 0, bs [], i64 0, i64 0, i64 0, i64 0, .emp])), (2, some (.arr 8 ((eNds l).take i)))], nx := 3 }
theorem eNds_tk (l : List Nd) (i : Nat) (x : Nd) (h : l[i]? = some x) : (eNds l).take (i + 1) = (eNds l).take i ++ [eNd x] := by
 rw [List.take_add_one, eNds_getE l i x h]
 rfl
theorem run_copied : ∀ (s : Nat) (n : Nd), wNd n ≤ s → wNd n ≤ 100000000 → (W m e3 e4).run 13 [ndA n] [] = some (ndA n, [])
 | 0, .mk k n t a b c d l, h, _ => by unfold wNd at h; omega
 | s + 1, .mk k n t a b c d l, h, hw => by
  unfold wNd at h hw
  have ih : ∀ x ∈ l, (W m e3 e4).run 13 [ndA x] [] = some (ndA x, []) := fun x hx => run_copied s x (by have := wNd_mem l x hx; omega) (by have := wNd_mem l x hx; omega)
  have hll : l.length ≤ 100000000 := by
   have : ∀ l : List Nd, l.length ≤ wNd.wNds l := by
    intro l
    induction l with
    | nil => exact Nat.le_refl _
    | cons y r ihh => unfold wNd.wNds; cases y; unfold wNd; simp; omega
   have := this l
   omega
  have hel := eNds_len l
  refine run_wp (by rw [W_T]; exact rfl) ?_
  simp only [ndA_mk]
  simp -dsimp -implicitDefEqProofs (maxSteps := 1000000) (disch := omega) [ST]
  refine wp_inv (S13 k n t a b c d l) (fun i => i ≤ l.length) (fun i => l.length - i) 0 (by simp) (by simp -dsimp -implicitDefEqProofs (maxSteps := 1000000) (disch := omega) [ST, S13]) ?_
  intro i hi
  have hpt : ((eNds l).take i).length = i := by rw [List.length_take, hel]; omega
  have hmin : min i l.length = i := by omega
  have htk0 : i = l.length → (eNds l).take l.length = eNds l := fun _ => by rw [← hel, List.take_length]
  clear hel
  by_cases hil : i < l.length
  ·obtain ⟨x, hx⟩ : ∃ x, l[i] = x := ⟨_, rfl⟩
   have hx2 : l[i]? = some x := by rw [List.getElem?_eq_getElem hil, hx]
   have he := eNds_getE l i x hx2
   have hih := ih x (List.mem_of_getElem? hx2)
   have htk := eNds_tk l i x hx2
   have t1 : ∀ X, List.take i ((eNds l).take i ++ [X]) = (eNds l).take i := fun X => by
    rw [List.take_append_of_le_length (by rw [hpt]; exact Nat.le_refl _), List.take_of_length_le (by rw [hpt]; exact Nat.le_refl _)]
   obtain ⟨xk, xn, xt, x1, x2, x3, x4, xl⟩ := x
   simp only [ndA_mk, eNd] at hih he htk
   simp -dsimp -implicitDefEqProofs (maxSteps := 1000000) (disch := omega) [ST, S13, hil, he, hih, hpt, hmin, t1, show i + 1 ≤ 140737488355328 by omega]
   refine again (i + 1) (by omega) (by omega) (by
    simp -dsimp -implicitDefEqProofs (maxSteps := 1000000) (disch := omega) [ST, S13, htk]
    simp [List.take_take])
  ·have hie : i = l.length := by omega
   subst hie
   have htk := htk0 rfl
   simp -dsimp -implicitDefEqProofs (maxSteps := 1000000) (disch := omega) [ST, S13, htk]
set_option maxHeartbeats 4000000 in
theorem law_print (n : Nd) (h : tyNd n) : (W m e3 e4).run 4 [ndA n] [] = some (bo true, []) := by
 have hs := run_small (m := m) (e3 := e3) (e4 := e4) n h
 by_cases h3 : cntG 41 n ≤ 300
 ·rw [decide_eq_true h3] at hs
  have hw := cntG_small 41 n h3
  obtain ⟨r1, r2, r3⟩ := run_triple (m := m) (e3 := e3) (e4 := e4) n (tyNd_ok _ n (Nat.le_refl _) h) (by omega)
  have hc := run_copied (m := m) (e3 := e3) (e4 := e4) _ n (Nat.le_refl _) (by omega)
  generalize printG n = px at *
  clear h3 hw h
  obtain ⟨k, n, t, p1, p2, p3, p4, l⟩ := n
  refine run_wp (by rw [W_T]; exact rfl) ?_
  simp only [ndA_mk] at *
  simp -dsimp -implicitDefEqProofs (maxSteps := 1000000) (disch := omega) [ST, run_awake, hs, r1, r2, r3, hc]
 ·rw [decide_eq_false h3] at hs
  clear h3 h
  obtain ⟨k, n, t, p1, p2, p3, p4, l⟩ := n
  refine run_wp (by rw [W_T]; exact rfl) ?_
  simp only [ndA_mk] at *
  simp -dsimp -implicitDefEqProofs (maxSteps := 1000000) (disch := omega) [ST, run_awake, hs]
end Go.Vai
