/-
  What functions of layer 9 and of its reference compute: equations of the abstract run, and plain laws of them.
-/
import Derived.Test.YtnfjgkjapcaobaaGreatDoorKB
set_option linter.unusedVariables false
set_option linter.unusedSimpArgs false
set_option linter.unnecessarySimpa false
set_option linter.unusedSectionVars false
namespace Go.Vai
def isUp (l : List UInt8) : Prop := l ≠ [] ∧ ∀ b ∈ l, 65 ≤ b.toNat ∧ b.toNat ≤ 90
def opS : List (List UInt8) := [[61], [60, 62], [60], [60, 61], [62], [62, 61], [38], [43], [45], [42], [47]]
inductive WF : Nd → Prop
 | num (n : Int) : 0 ≤ n → n ≤ 999999999 → WF (numN n)
 | txt (t : List UInt8) : WF (txtN t)
 | cel (a b : Int) : plB a b = true → WF (celN a b)
 | rng (a b c d : Int) : plB a b = true → plB c d = true → WF (rngN a b c d)
 | op1 (a : Nd) : WF a → WF (op1 a)
 | op2 (s : List UInt8) (a b : Nd) : s ∈ opS → WF a → WF b → WF (op2 s a b)
 | cal (t : List UInt8) (l : List Nd) : isUp t → (∀ x ∈ l, WF x) → WF (calN t l)
def wfTok : Tok → Prop
 | .num n => 0 ≤ n ∧ n ≤ 999999999
 | .plc r c => plB r c = true
 | .name t => isUp t
 | _ => True
theorem valG_dig (l : List UInt8) (h : ∀ b ∈ l, isD b = true) : valG l < 10 ^ l.length := by
 have key : ∀ (l : List UInt8) (a k : Nat), (∀ b ∈ l, isD b = true) → a + 1 ≤ 10 ^ k → l.foldl (fun a b => 10 * a + (b.toNat - 48)) a + 1 ≤ 10 ^ (k + l.length) := by
  intro l
  induction l with
  | nil => intro a k _ h; simpa using h
  | cons b r ih =>
   intro a k hd h
   have hb : isD b = true := hd b (by simp)
   unfold isD at hb
   simp at hb
   have := ih (10 * a + (b.toNat - 48)) (k + 1) (fun x hx => hd x (by simp [hx])) (by
    rw [Nat.pow_succ]
    omega)
   simp only [List.foldl_cons, List.length_cons]
   rw [show k + (r.length + 1) = k + 1 + r.length by omega]
   exact this
 have := key l 0 0 h (by omega)
 rw [Nat.zero_add] at this
 exact this
theorem placeI_wf (l : List UInt8) (h : (placeI l).2 = true) : plB (placeI l).1.1 (placeI l).1.2 = true := by
 match l with
 | [] => cases h
 | [_] => cases h
 | c :: d :: r =>
  simp only [placeI] at h ⊢
  split at h
  ·rename_i h1
   rw [if_pos h1]
   simp at h ⊢
   exact h.2
  ·cases h
theorem up_isL {b : UInt8} (h : isL b = true) : ∀ x ∈ Lib.toUpperA [b], 65 ≤ x.toNat ∧ x.toNat ≤ 90 := by
 unfold isL colG upI at h
 have := b.toNat_lt
 have e : Lib.isLowerB b = true ↔ 97 ≤ b.toNat ∧ b.toNat ≤ 122 := by simp [Lib.isLowerB, UInt8.le_iff_toNat_le]
 intro x hx
 simp only [Lib.toUpperA, List.map_cons, List.map_nil, List.mem_singleton] at hx
 subst hx
 unfold Lib.upperB
 by_cases hl : 97 ≤ b.toNat ∧ b.toNat ≤ 122
 ·rw [if_pos (e.2 hl)]
  have : (b - 32).toNat = b.toNat - 32 := UInt8.toNat_sub_of_le b 32 (by rw [UInt8.le_iff_toNat_le]; simp; omega)
  omega
 ·rw [if_neg (fun hh => hl (e.1 hh))]
  rw [if_neg hl] at h
  split at h
  ·omega
  ·cases h
theorem nextG_wf {l : List UInt8} {t : Tok} {n : Nat} (h : nextG l = some (t, n)) : wfTok t := by
 cases l with
 | nil => cases h
 | cons c r =>
  simp only [nextG] at h
  split at h
  ·split at h
   ·cases h
   ·rename_i hd h9
    injection h with h; injection h with h1 h2; subst h1; subst h2
    have hl : ((c :: r).take (spanG isD (c :: r))).length ≤ 9 := by rw [List.length_take]; omega
    have := valG_dig _ (fun b hb => by have := span_all isD (c :: r); rw [List.all_eq_true] at this; exact this b hb)
    generalize (c :: r).take (spanG isD (c :: r)) = x at *
    have h3 : 10 ^ x.length ≤ 10 ^ 9 := Nat.pow_le_pow_right (by omega) hl
    show 0 ≤ ((valG x : Nat) : Int) ∧ ((valG x : Nat) : Int) ≤ 999999999
    omega
  ·split at h
   ·rename_i hl
    unfold wordG at h
    split at h
    ·injection h with h; injection h with h1 h2; subst h1; subst h2
     refine ⟨?_, ?_⟩
     ·intro e
      have := congrArg List.length e
      rw [toUpperA_len, spanG, if_pos hl] at this
      simp at this
     ·intro b hb
      simp only [Lib.toUpperA, List.mem_map] at hb
      obtain ⟨a, ha, rfl⟩ := hb
      have h3 := span_all isL (c :: r)
      rw [List.all_eq_true] at h3
      exact up_isL (h3 a ha) _ (by simp [Lib.toUpperA])
    ·split at h
     ·cases h
     ·rename_i hp
      injection h with h; injection h with h1 h2; subst h1; subst h2
      rw [not_or] at hp
      exact placeI_wf _ (by simpa using hp.2)
   ·split at h
    ·obtain ⟨p, h1, h2⟩ := Option.map_eq_some_iff.1 h
     injection h2 with h2 h3
     subst h2
     trivial
    ·obtain ⟨s, h1, h2⟩ := Option.map_eq_some_iff.1 h
     injection h2 with h2 h3
     subst h2
     trivial
theorem toksG_wf : ∀ (n : Nat) (l : List UInt8), l.length ≤ n → ∀ ts, toksG l = some ts → ∀ t ∈ ts, wfTok t
 | 0, l, h, ts, e => by
  have : l = [] := List.length_eq_zero_iff.1 (by omega)
  subst this
  simp [toksG, toksF, trimG] at e
  subst e; simp
 | n + 1, l, h, ts, e => by
  rw [← toksG_trim] at e
  have ht := trimG_len l
  have htt := trimG_trim l
  generalize trimG l = u at *
  cases u with
  | nil =>
   simp [toksG, toksF, trimG] at e
   subst e; simp
  | cons c r =>
   rw [toksG_cons htt] at e
   cases hn : nextG (c :: r) with
   | none => rw [hn] at e; cases e
   | some p =>
    obtain ⟨t, k⟩ := p
    rw [hn] at e
    simp only at e
    obtain ⟨ts', h1, rfl⟩ := Option.map_eq_some_iff.1 e
    have hp := nextG_pos hn
    have ho := nextG_wf hn
    have := toksG_wf n ((c :: r).drop k) (by rw [List.length_drop]; simp at *; omega) ts' h1
    intro x hx
    rcases List.mem_cons.1 hx with rfl | hx
    ·exact ho
    ·exact this x hx
def wfToks (ts : List Tok) : Prop := ∀ t ∈ ts, wfTok t
theorem wfToks_tail {t : Tok} {r : List Tok} (h : wfToks (t :: r)) : wfToks r := fun x hx => h x (by simp [hx])
theorem takeS_wf {sg : List (List UInt8)} {ts : List Tok} {p : List UInt8 × List Tok} (h : takeS sg ts = some p) (hw : wfToks ts) : wfToks p.2 := by
 unfold takeS at h
 split at h
 ·split at h
  ·injection h with h; subst h
   exact wfToks_tail hw
  ·cases h
 ·cases h
def PartF (part : List Tok → Rd) : Prop := ∀ ts n ts', part ts = some (n, ts') → wfToks ts → WF n ∧ wfToks ts'
theorem pRow_wf {part : List Tok → Rd} {sg : List (List UInt8)} (hsg : ∀ s ∈ sg, s ∈ opS) (hp : PartF part) : ∀ (j : Nat) (n : Nd) (ts : List Tok) (n' : Nd) (ts' : List Tok), pRow part sg j n ts = some (n', ts') → WF n → wfToks ts → WF n' ∧ wfToks ts'
 | 0, n, ts, n', ts', h, a, b => by simp [pRow] at h; rw [← h.1, ← h.2]; exact ⟨a, b⟩
 | j + 1, n, ts, n', ts', h, a, b => by
  rw [pRow] at h
  split at h
  ·simp at h; rw [← h.1, ← h.2]; exact ⟨a, b⟩
  ·rename_i s r hs
   have h1 := takeS_wf hs b
   have h0 := (takeS_len hs).2
   split at h
   ·cases h
   ·rename_i b' ts2 hb
    have h2 := hp _ _ _ hb h1
    exact pRow_wf hsg hp j _ _ _ _ h (.op2 s n b' (hsg s h0) a h2.1) h2.2
theorem pArg_wf {part : List Tok → Rd} (hp : PartF part) : ∀ (j : Nat) (ns : List Nd) (ts : List Tok) (ns' : List Nd) (ts' : List Tok), pArg part j ns ts = some (ns', ts') → (∀ x ∈ ns, WF x) → wfToks ts → (∀ x ∈ ns', WF x) ∧ wfToks ts'
 | 0, ns, ts, ns', ts', h, _, _ => by simp [pArg] at h
 | j + 1, ns, ts, ns', ts', h, a, b => by
  rw [pArg] at h
  split at h
  ·cases h
  ·rename_i x ts2 hx
   have h2 := hp _ _ _ hx b
   have h4 : ∀ y ∈ ns ++ [x], WF y := fun y hy => by
    rcases List.mem_append.1 hy with hy | hy
    ·exact a y hy
    ·rw [List.mem_singleton.1 hy]; exact h2.1
   split at h
   ·rename_i s r hs
    exact pArg_wf hp j _ _ _ _ h h4 (takeS_wf hs h2.2)
   ·simp at h
    rw [← h.1, ← h.2]
    exact ⟨h4, h2.2⟩
theorem row_wf {part : List Tok → Rd} {sg : List (List UInt8)} (hsg : ∀ s ∈ sg, s ∈ opS) (hp : PartF part) {j : List Tok → Nat} {ts : List Tok} {n : Nd} {ts' : List Tok} (h : (match part ts with
 | none => none
 | some (n, ts1) => pRow part sg (j ts1) n ts1) = some (n, ts')) (b : wfToks ts) : WF n ∧ wfToks ts' := by
 split at h
 ·cases h
 ·rename_i n1 ts1 h1
  have h2 := hp _ _ _ h1 b
  exact pRow_wf hsg hp _ _ _ _ _ h h2.1 h2.2
theorem pr_wf : ∀ (k : Nat) (K : PK) (d : Nat), PartF (pr k K d)
 | 0, _, _ => fun _ _ _ h => by simp [pr] at h
 | k + 1, .form, d => fun ts n ts' h b => row_wf (sg := cmpL) (j := fun _ => 1) (by decide) (pr_wf k .join d) h b
 | k + 1, .join, d => fun ts n ts' h b => row_wf (sg := [[38]]) (j := fun ts1 => ts1.length) (by decide) (pr_wf k .sum d) h b
 | k + 1, .sum, d => fun ts n ts' h b => row_wf (sg := [[43], [45]]) (j := fun ts1 => ts1.length) (by decide) (pr_wf k .prod d) h b
 | k + 1, .prod, d => fun ts n ts' h b => row_wf (sg := [[42], [47]]) (j := fun ts1 => ts1.length) (by decide) (pr_wf k .minus d) h b
 | k + 1, .minus, d => fun ts n ts' h b => by
  simp only [pr] at h
  split at h
  ·rename_i s r hs
   split at h
   ·cases h
   ·obtain ⟨p, h1, h2⟩ := Option.map_eq_some_iff.1 h
    injection h2 with h2 h3
    have h4 := pr_wf k .minus (d + 1) _ _ _ (show pr k .minus (d + 1) r = some (p.1, p.2) from h1) (takeS_wf hs b)
    rw [← h2, ← h3]
    exact ⟨.op1 _ h4.1, h4.2⟩
  ·exact pr_wf k .single d _ _ _ h b
 | k + 1, .single, d => fun ts n ts' h b => by
  simp only [pr] at h
  split at h
  ·rename_i s r hs
   split at h
   ·cases h
   ·split at h
    ·cases h
    ·rename_i n1 ts1 h1
     have h2 := pr_wf k _ _ _ _ _ h1 (takeS_wf hs b)
     obtain ⟨p, h3, h4⟩ := Option.map_eq_some_iff.1 h
     have h5 := takeS_wf h3 h2.2
     injection h4 with h4 h6
     rw [← h4, ← h6]
     exact ⟨h2.1, h5⟩
  ·split at h
   ·cases h
   ·injection h with h; injection h with h h'; subst h; subst h'
    have := b _ (List.mem_cons_self ..)
    exact ⟨.num _ this.1 this.2, wfToks_tail b⟩
   ·injection h with h; injection h with h h'; subst h; subst h'
    exact ⟨.txt _, wfToks_tail b⟩
   ·rename_i a1 a2 r
    have hp := b _ (List.mem_cons_self ..)
    split at h
    ·injection h with h; injection h with h h'; subst h; subst h'
     exact ⟨.cel _ _ hp, wfToks_tail b⟩
    ·rename_i q a3 a4 r3 hs
     have h1 := takeS_wf hs (wfToks_tail b)
     have hp2 := h1 _ (List.mem_cons_self ..)
     injection h with h; injection h with h h'; subst h; subst h'
     exact ⟨.rng _ _ _ _ hp hp2, wfToks_tail h1⟩
    ·cases h
   ·rename_i t r
    have ht := b _ (List.mem_cons_self ..)
    split at h
    ·cases h
    ·rename_i s r2 hs
     have hb2 := takeS_wf hs (wfToks_tail b)
     split at h
     ·cases h
     ·split at h
      ·rename_i q r3 hs2
       injection h with h; injection h with h h'; subst h; subst h'
       exact ⟨.cal _ _ ht (fun x hx => by cases hx), takeS_wf hs2 hb2⟩
      ·split at h
       ·cases h
       ·rename_i ns ts1 ha
        have h2 := pArg_wf (pr_wf k .form (d + 1)) _ _ _ _ _ ha (fun x hx => by cases hx) hb2
        obtain ⟨p, h3, h4⟩ := Option.map_eq_some_iff.1 h
        have h5 := takeS_wf h3 h2.2
        injection h4 with h4 h6
        rw [← h4, ← h6]
        exact ⟨.cal _ _ ht h2.1, h5⟩
   ·cases h
theorem parseM_wf (l : List UInt8) (n : Nd) (h : parseM l = some n) : WF n := by
 unfold parseM at h
 cases ht : toksG l with
 | none => rw [ht] at h; cases h
 | some ts =>
  rw [ht] at h
  simp only at h
  have h1 := toksG_wf _ l (Nat.le_refl _) ts ht
  split at h
  ·rename_i n' hp
   injection h with h; subst h
   exact (pr_wf _ _ _ _ _ _ hp h1).1
  ·cases h
end Go.Vai
namespace Go.Vai
def sepT : List (List Tok) → List Tok
 | [] => []
 | [x] => x
 | x :: r => x ++ (.sign [44] :: sepT r)
def opT (t : List UInt8) : List (List Tok) → List Tok
 | [x] => .sign [40] :: .sign [45] :: (x ++ [.sign [41]])
 | [x, y] => .sign [40] :: (x ++ (.sign t :: (y ++ [.sign [41]])))
 | _ => []
mutual
def ptoks : Nd → List Tok
 | .mk k n t a b c d l =>
  if k = 1 then [.num n]
  else if k = 2 then [.txt t]
  else if k = 3 then [.plc a b]
  else if k = 4 then [.plc a b, .sign [58], .plc c d]
  else if k = 5 then opT t (ptokss l)
  else if k = 6 then .name t :: .sign [40] :: (sepT (ptokss l) ++ [.sign [41]])
  else []
def ptokss : List Nd → List (List Tok)
 | [] => []
 | n :: r => ptoks n :: ptokss r
end
theorem ptokss_map : ∀ l, ptokss l = l.map ptoks
 | [] => rfl
 | n :: r => by rw [ptokss, ptokss_map r]; rfl
theorem printGs_map : ∀ l, printGs l = l.map printG
 | [] => rfl
 | n :: r => by rw [printGs, printGs_map r]; rfl
theorem pt_num (n : Int) : ptoks (numN n) = [.num n] := by simp [ptoks, numN]
theorem pt_txt (t : List UInt8) : ptoks (txtN t) = [.txt t] := by simp [ptoks, txtN]
theorem pt_cel (a b : Int) : ptoks (celN a b) = [.plc a b] := by simp [ptoks, celN]
theorem pt_rng (a b c d : Int) : ptoks (rngN a b c d) = [.plc a b, .sign [58], .plc c d] := by simp [ptoks, rngN]
theorem pt_op1 (a : Nd) : ptoks (op1 a) = .sign [40] :: .sign [45] :: (ptoks a ++ [.sign [41]]) := by simp [ptoks, op1, ptokss, opT]
theorem pt_op2 (s : List UInt8) (a b : Nd) : ptoks (op2 s a b) = .sign [40] :: (ptoks a ++ (.sign s :: (ptoks b ++ [.sign [41]]))) := by simp [ptoks, op2, ptokss, opT]
theorem pt_cal (t : List UInt8) (l : List Nd) : ptoks (calN t l) = .name t :: .sign [40] :: (sepT (l.map ptoks) ++ [.sign [41]]) := by simp [ptoks, calN, ptokss_map]
theorem pg_num (n : Int) : printG (numN n) = Lib.itoa n := by simp [printG, numN]
theorem pg_txt (t : List UInt8) : printG (txtN t) = 34 :: dbl t ++ [34] := by simp [printG, txtN]
theorem pg_cel (a b : Int) : printG (celN a b) = wrG a b := by simp [printG, celN]
theorem pg_rng (a b c d : Int) : printG (rngN a b c d) = wrG a b ++ (58 :: wrG c d) := by simp [printG, rngN]
theorem pg_op1 (a : Nd) : printG (op1 a) = 40 :: 45 :: printG a ++ [41] := by simp [printG, op1, printGs, opG]
theorem pg_op2 (s : List UInt8) (a b : Nd) : printG (op2 s a b) = 40 :: printG a ++ (s ++ (printG b ++ [41])) := by simp [printG, op2, printGs, opG]
theorem pg_cal (t : List UInt8) (l : List Nd) : printG (calN t l) = t ++ (40 :: joinC [44] (l.map printG) ++ [41]) := by simp [printG, calN, printGs_map]
def dl (l : List UInt8) : Prop := ∀ c r, l = c :: r → isD c = false ∧ isL c = false ∧ c ≠ 34
def nb (l : List UInt8) : Prop := ∃ c r, l = c :: r ∧ c ≠ 61 ∧ c ≠ 62
theorem dl_cons {c : UInt8} {r : List UInt8} (h : isD c = false ∧ isL c = false ∧ c ≠ 34) : dl (c :: r) := by
 intro c' r' e
 injection e with e _
 subst e
 exact h
theorem trim_ne {c : UInt8} {r : List UInt8} (h : c ≠ 32) : trimG (c :: r) = c :: r := by rw [trimG, if_neg h]
theorem tk {c : UInt8} {r : List UInt8} {t : Tok} {k : Nat} {rest : List UInt8} (hc : c ≠ 32) (hn : nextG (c :: r) = some (t, k)) (hd : (c :: r).drop k = rest) : toksG (c :: r) = (toksG rest).map (t :: ·) := by
 rw [toksG_cons (trim_ne hc), hn, ← hd]
theorem tk1 {c : UInt8} {r : List UInt8} (hc : c ≠ 32) (hn : nextG (c :: r) = some (.sign [c], 1)) : toksG (c :: r) = (toksG r).map (.sign [c] :: ·) := tk hc hn rfl
theorem tk_open (r : List UInt8) : toksG (40 :: r) = (toksG r).map (.sign [40] :: ·) := tk1 (by decide) rfl
theorem tk_close (r : List UInt8) : toksG (41 :: r) = (toksG r).map (.sign [41] :: ·) := tk1 (by decide) rfl
theorem tk_comma (r : List UInt8) : toksG (44 :: r) = (toksG r).map (.sign [44] :: ·) := tk1 (by decide) rfl
theorem tk_colon (r : List UInt8) : toksG (58 :: r) = (toksG r).map (.sign [58] :: ·) := tk1 (by decide) rfl
theorem tk_minus (r : List UInt8) : toksG (45 :: r) = (toksG r).map (.sign [45] :: ·) := tk1 (by decide) rfl
theorem sg_lt {c : UInt8} (r : List UInt8) (h1 : c ≠ 61) (h2 : c ≠ 62) : signG (60 :: c :: r) = some [60] := by
 have e1 : ([60, 62] : List UInt8).isPrefixOf (60 :: c :: r) = false := by simp [List.isPrefixOf, Ne.symm h2]
 have e2 : ([60, 61] : List UInt8).isPrefixOf (60 :: c :: r) = false := by simp [List.isPrefixOf, Ne.symm h1]
 unfold signG signsL
 rw [List.find?_cons, e1, List.find?_cons, e2]
 rfl
theorem sg_gt {c : UInt8} (r : List UInt8) (h1 : c ≠ 61) : signG (62 :: c :: r) = some [62] := by
 have e1 : ([62, 61] : List UInt8).isPrefixOf (62 :: c :: r) = false := by simp [List.isPrefixOf, Ne.symm h1]
 unfold signG signsL
 rw [List.find?_cons, List.find?_cons, List.find?_cons, e1]
 rfl
theorem tk_op {s : List UInt8} (hs : s ∈ opS) {X : List UInt8} (hX : nb X) : toksG (s ++ X) = (toksG X).map (.sign s :: ·) := by
 obtain ⟨c, r, rfl, h1, h2⟩ := hX
 simp only [opS, List.mem_cons, List.mem_nil_iff, or_false] at hs
 rcases hs with rfl | rfl | rfl | rfl | rfl | rfl | rfl | rfl | rfl | rfl | rfl
 ·exact tk1 (by decide) rfl
 ·exact tk (t := .sign [60, 62]) (k := 2) (by decide) rfl rfl
 ·refine tk1 (by decide) ?_
  show (signG (60 :: c :: r)).map _ = _
  rw [sg_lt r h1 h2]; rfl
 ·exact tk (t := .sign [60, 61]) (k := 2) (by decide) rfl rfl
 ·refine tk1 (by decide) ?_
  show (signG (62 :: c :: r)).map _ = _
  rw [sg_gt r h1]; rfl
 ·exact tk (t := .sign [62, 61]) (k := 2) (by decide) rfl rfl
 ·exact tk1 (by decide) rfl
 ·exact tk1 (by decide) rfl
 ·exact tk1 (by decide) rfl
 ·exact tk1 (by decide) rfl
 ·exact tk1 (by decide) rfl
theorem op_dl {s : List UInt8} (hs : s ∈ opS) (X : List UInt8) : dl (s ++ X) := by
 simp only [opS, List.mem_cons, List.mem_nil_iff, or_false] at hs
 rcases hs with rfl | rfl | rfl | rfl | rfl | rfl | rfl | rfl | rfl | rfl | rfl <;> exact dl_cons (by decide)
theorem span_exact (p : UInt8 → Bool) : ∀ (l rest : List UInt8), (∀ b ∈ l, p b = true) → (∀ c r, rest = c :: r → p c = false) → spanG p (l ++ rest) = l.length
 | [], rest, _, h => by
  cases rest with
  | nil => rfl
  | cons c r => simp [spanG, h c r rfl]
 | b :: l, rest, h1, h => by
  simp only [List.cons_append, spanG, h1 b (by simp), if_true, List.length_cons]
  rw [span_exact p l rest (fun x hx => h1 x (by simp [hx])) h]
theorem dec_dig (u : Nat) : ∀ b ∈ Lib.decDigits u, isD b = true := by
 induction u using Nat.strongRecOn with
 | ind u ih =>
  have one : ∀ k, k < 10 → isD (UInt8.ofNat (48 + k)) = true := by
   intro k hk
   unfold isD
   simp
   omega
  intro b hb
  rw [Lib.decDigits] at hb
  split at hb
  ·rename_i h1
   rw [List.mem_singleton.1 hb]
   exact one u h1
  ·rename_i h1
   rcases List.mem_append.1 hb with hb | hb
   ·exact ih _ (by omega) b hb
   ·rw [List.mem_singleton.1 hb]
    exact one _ (by omega)
theorem valG_snoc (x : List UInt8) (b : UInt8) : valG (x ++ [b]) = 10 * valG x + (b.toNat - 48) := by simp [valG]
theorem dec_val (u : Nat) : valG (Lib.decDigits u) = u := by
 induction u using Nat.strongRecOn with
 | ind u ih =>
  rw [Lib.decDigits]
  split
  ·rename_i h1
   simp [valG]
   omega
  ·rename_i h1
   rw [valG_snoc, ih _ (by omega)]
   simp
   omega
theorem dec_first (u : Nat) (hu : 1 ≤ u) : ∀ c r, Lib.decDigits u = c :: r → 49 ≤ c.toNat ∧ c.toNat ≤ 57 := by
 induction u using Nat.strongRecOn with
 | ind u ih =>
  intro c r h
  rw [Lib.decDigits] at h
  split at h
  ·rename_i h1
   injection h with h h2
   rw [← h]
   simp
   omega
  ·rename_i h1
   cases hd : Lib.decDigits (u / 10) with
   | nil => exact absurd hd (dec_ne _)
   | cons c2 r2 =>
    rw [hd] at h
    injection h with h h2
    rw [← h]
    exact ih _ (by omega) (by omega) c2 r2 hd
theorem itoa_pos {n : Int} (h : 0 ≤ n) : Lib.itoa n = Lib.decDigits n.toNat := by
 unfold Lib.itoa
 rw [if_neg (by omega)]
theorem isD_not {c : UInt8} (h : isD c = true) : isL c = false ∧ c ≠ 32 ∧ c ≠ 61 ∧ c ≠ 62 := by
 unfold isD at h
 simp at h
 have n32 : ∀ k : UInt8, k.toNat < 48 ∨ 57 < k.toNat → c ≠ k := fun k hk e => by subst e; omega
 refine ⟨?_, n32 _ (by decide), n32 _ (by decide), n32 _ (by decide)⟩
 have hu : upI c = c.toNat := if_neg (by omega)
 have hc : colG c = 0 := by unfold colG; rw [hu, if_neg (by omega)]
 unfold isL
 rw [hc]
 rfl
theorem tk_num {n : Int} (h0 : 0 ≤ n) (h1 : n ≤ 999999999) {rest : List UInt8} (hr : dl rest) : toksG (Lib.itoa n ++ rest) = (toksG rest).map (.num n :: ·) := by
 rw [itoa_pos h0]
 have hl := dec_len 8 n.toNat (by omega)
 have hd := dec_dig n.toNat
 have hv := dec_val n.toNat
 cases e : Lib.decDigits n.toNat with
 | nil => exact absurd e (dec_ne _)
 | cons c r =>
  rw [e] at hl hd hv
  have hc := hd c (by simp)
  have hs : spanG isD (c :: (r ++ rest)) = (c :: r).length := span_exact isD (c :: r) rest hd (fun c' r' e' => (hr c' r' e').1)
  have ht : (c :: (r ++ rest)).take (c :: r).length = c :: r := by
   show ((c :: r) ++ rest).take (c :: r).length = c :: r
   rw [List.take_left']; rfl
  have hdr : (c :: (r ++ rest)).drop (c :: r).length = rest := by
   show ((c :: r) ++ rest).drop (c :: r).length = rest
   rw [List.drop_left']; rfl
  show toksG (c :: (r ++ rest)) = _
  refine tk (k := (c :: r).length) (isD_not hc).2.1 ?_ hdr
  simp only [nextG]
  rw [if_pos hc, hs, if_neg (by omega), ht, hv]
  congr 3
  omega
theorem quot_dbl : ∀ (t rest : List UInt8), (∀ c r, rest = c :: r → c ≠ 34) → quotG (dbl t ++ 34 :: rest) = some (t, (dbl t).length + 1)
 | [], rest, h => by
  show quotG (34 :: rest) = _
  rw [quotG_cons, if_pos rfl]
  cases rest with
  | nil => rfl
  | cons d r => simp only; rw [if_neg (h d r rfl)]; rfl
 | b :: t, rest, h => by
  have ih := quot_dbl t rest h
  unfold dbl
  split
  ·rename_i hb
   subst hb
   show quotG (34 :: 34 :: (dbl t ++ 34 :: rest)) = _
   rw [quotG_cons, if_pos rfl]
   simp only [if_true, ih, Option.map_some]
   rfl
  ·rename_i hb
   show quotG (b :: (dbl t ++ 34 :: rest)) = _
   rw [quotG_cons, if_neg hb, ih]
   rfl
theorem tk_txt (t : List UInt8) {rest : List UInt8} (hr : dl rest) : toksG (34 :: dbl t ++ [34] ++ rest) = (toksG rest).map (.txt t :: ·) := by
 have e : 34 :: dbl t ++ [34] ++ rest = 34 :: (dbl t ++ 34 :: rest) := by simp
 rw [e]
 refine tk (k := (dbl t).length + 2) (by decide) ?_ ?_
 ·have hq := quot_dbl t rest (fun c r e => (hr c r e).2.2)
  show (putG [] 1 (quotG (dbl t ++ 34 :: rest))).map _ = _
  rw [hq]
  simp [putG]
  omega
 ·have e2 : 34 :: (dbl t ++ 34 :: rest) = (34 :: dbl t ++ [34]) ++ rest := by simp
  rw [e2, List.drop_left']
  simp
theorem up_facts {c : UInt8} (h : 65 ≤ c.toNat ∧ c.toNat ≤ 90) : isD c = false ∧ isL c = true ∧ c ≠ 32 ∧ c ≠ 61 ∧ c ≠ 62 ∧ (colG c : Int) = (c.toNat : Int) - 64 ∧ Lib.upperB c = c := by
 have nk : ∀ k : UInt8, k.toNat < 65 → c ≠ k := fun k hk e => by subst e; omega
 have hu : upI c = c.toNat := if_neg (by omega)
 have e1 : colG c = c.toNat - 64 := by unfold colG; rw [hu, if_pos (by omega)]
 refine ⟨?_, ?_, nk _ (by decide), nk _ (by decide), nk _ (by decide), by rw [e1]; omega, ?_⟩
 ·unfold isD
  simp
  omega
 ·unfold isL
  rw [e1]
  simp
  omega
 ·unfold Lib.upperB
  rw [if_neg]
  simp [Lib.isLowerB, UInt8.le_iff_toNat_le]
  omega
theorem tk_name {t : List UInt8} (ht : isUp t) (X : List UInt8) : toksG (t ++ 40 :: X) = (toksG (40 :: X)).map (.name t :: ·) := by
 obtain ⟨hne, hu⟩ := ht
 have hs := span_exact isL t (40 :: X) (fun b hb => (up_facts (hu b hb)).2.1) (fun c r e => by injection e with e _; subst e; decide)
 have htk : (t ++ 40 :: X).take t.length = t := by rw [List.take_left']; rfl
 have hdr : (t ++ 40 :: X).drop t.length = 40 :: X := by rw [List.drop_left']; rfl
 have hup : Lib.toUpperA t = t := by
  unfold Lib.toUpperA
  exact (List.map_congr_left fun b hb => (up_facts (hu b hb)).2.2.2.2.2.2).trans (by simp)
 have key : wordG (t ++ 40 :: X) = some (.name t, t.length) := by
  unfold wordG
  have h0 : spanG isD (40 :: X) = 0 := rfl
  rw [hs, hdr, h0, if_pos rfl, htk, hup]
 cases t with
 | nil => exact absurd rfl hne
 | cons c r =>
  obtain ⟨f1, f2, f3, _⟩ := up_facts (hu c (by simp))
  refine tk f3 ?_ hdr
  simp only [nextG]
  rw [if_neg (by rw [f1]; simp), if_pos f2]
  exact key
theorem wr_facts {a b : Int} (h : plB a b = true) : ∃ c, wrG a b = c :: Lib.itoa a ∧ (65 ≤ c.toNat ∧ c.toNat ≤ 90) ∧ (colG c : Int) = b := by
 rw [plB_iff] at h
 have e1 : max 1 (min b 26) = b := by omega
 have e2 : max 1 (min a 99) = a := by omega
 have hc : (UInt8.ofNat (64 + b.toNat)).toNat = 64 + b.toNat := by simp; omega
 refine ⟨UInt8.ofNat (64 + b.toNat), by unfold wrG; rw [e1, e2], by omega, ?_⟩
 rw [(up_facts (by omega)).2.2.2.2.2.1, hc]
 omega
theorem tk_plc {a b : Int} (h : plB a b = true) {rest : List UInt8} (hr : dl rest) : toksG (wrG a b ++ rest) = (toksG rest).map (.plc a b :: ·) := by
 obtain ⟨c, hw, hc, hcol⟩ := wr_facts h
 have h0 := plB_iff.1 h
 rw [hw]
 have hl := dec_len 1 a.toNat (by omega)
 have hd := dec_dig a.toNat
 have hf := dec_first a.toNat (by omega)
 have hpa := parseG_itoa a (by unfold inI; omega)
 rw [itoa_pos (by omega)] at hpa ⊢
 obtain ⟨f1, f2, f3, _, _, _, _⟩ := up_facts hc
 cases e : Lib.decDigits a.toNat with
 | nil => exact absurd e (dec_ne _)
 | cons d r =>
  rw [e] at hl hd hpa
  obtain ⟨g1, g2⟩ := hf d r e
  have hs1 : spanG isL (c :: d :: r ++ rest) = 1 := by
   show spanG isL (c :: (d :: (r ++ rest))) = 1
   rw [spanG, if_pos f2, spanG, if_neg (by rw [(isD_not (hd d (by simp))).1]; simp)]
  have hs2 := span_exact isD (d :: r) rest hd (fun c' r' e' => (hr c' r' e').1)
  have hdrop : (c :: d :: r ++ rest).drop 1 = d :: r ++ rest := rfl
  have htk : (c :: d :: r ++ rest).take (1 + (d :: r).length) = c :: d :: r := by rw [List.take_left']; simp; omega
  have hplace : placeI (c :: d :: r) = ((a, b), true) := by
   simp only [placeI]
   simp only [List.length_cons] at hl
   rw [if_pos ⟨by omega, by have : 0 < (colG c : Int) := by omega
                            omega, g1, g2⟩, hpa, hcol]
   simp only [h, Bool.and_self]
  refine tk (k := 1 + (d :: r).length) f3 ?_ ?_
  ·show nextG (c :: ((d :: r) ++ rest)) = _
   simp only [nextG]
   rw [if_neg (by rw [f1]; simp), if_pos f2]
   have hs1' : spanG isL (c :: ((d :: r) ++ rest)) = 1 := hs1
   have htk' : (c :: ((d :: r) ++ rest)).take (1 + (d :: r).length) = c :: d :: r := htk
   have hdrop' : (c :: ((d :: r) ++ rest)).drop 1 = d :: r ++ rest := rfl
   unfold wordG
   rw [hs1', hdrop', hs2, if_neg (by simp), htk', hplace, if_neg (by simp)]
  ·show (c :: ((d :: r) ++ rest)).drop (1 + (d :: r).length) = rest
   rw [Nat.add_comm, List.drop_succ_cons, List.drop_left']
   rfl
theorem head_ok {n : Nd} (h : WF n) : ∃ c r, printG n = c :: r ∧ c ≠ 32 ∧ c ≠ 61 ∧ c ≠ 62 := by
 cases h with
 | num n h0 h1 =>
  rw [pg_num, itoa_pos h0]
  cases e : Lib.decDigits n.toNat with
  | nil => exact absurd e (dec_ne _)
  | cons c r => exact ⟨c, r, rfl, (isD_not (dec_dig n.toNat c (by rw [e]; simp))).2⟩
 | txt t => exact ⟨34, _, by rw [pg_txt]; rfl, by decide⟩
 | cel a b hp =>
  obtain ⟨c, hw, hc, _⟩ := wr_facts hp
  exact ⟨c, _, by rw [pg_cel, hw], (up_facts hc).2.2.1, (up_facts hc).2.2.2.1, (up_facts hc).2.2.2.2.1⟩
 | rng a b c d hp hq =>
  obtain ⟨e, hw, hc, _⟩ := wr_facts hp
  exact ⟨e, _, by rw [pg_rng, hw]; rfl, (up_facts hc).2.2.1, (up_facts hc).2.2.2.1, (up_facts hc).2.2.2.2.1⟩
 | op1 a _ => exact ⟨40, _, by rw [pg_op1]; rfl, by decide⟩
 | op2 s a b _ _ _ => exact ⟨40, _, by rw [pg_op2]; rfl, by decide⟩
 | cal t l ht _ =>
  obtain ⟨hne, hu⟩ := ht
  cases t with
  | nil => exact absurd rfl hne
  | cons c r => exact ⟨c, _, by rw [pg_cal]; rfl, (up_facts (hu c (by simp))).2.2.1, (up_facts (hu c (by simp))).2.2.2.1, (up_facts (hu c (by simp))).2.2.2.2.1⟩
theorem nb_print {n : Nd} (h : WF n) (X : List UInt8) : nb (printG n ++ X) := by
 obtain ⟨c, r, e, _, h1, h2⟩ := head_ok h
 exact ⟨c, r ++ X, by rw [e]; rfl, h1, h2⟩
def TP (n : Nd) : Prop := ∀ rest, dl rest → toksG (printG n ++ rest) = (toksG rest).map (ptoks n ++ ·)
theorem tk_args : ∀ (l : List Nd), l ≠ [] → (∀ x ∈ l, TP x) → ∀ rest, toksG (joinC [44] (l.map printG) ++ 41 :: rest) = (toksG (41 :: rest)).map (sepT (l.map ptoks) ++ ·)
 | [], h, _, _ => absurd rfl h
 | [x], _, hx, rest => hx x (by simp) _ (dl_cons (by decide))
 | x :: y :: r, _, hx, rest => by
  have ih := tk_args (y :: r) (by simp) (fun z hz => hx z (by simp [hz])) rest
  have e : joinC [44] ((x :: y :: r).map printG) ++ 41 :: rest = printG x ++ (44 :: (joinC [44] ((y :: r).map printG) ++ 41 :: rest)) := by
   simp [joinC]
  have e2 : sepT ((x :: y :: r).map ptoks) = ptoks x ++ (.sign [44] :: sepT ((y :: r).map ptoks)) := rfl
  rw [e, e2, hx x (by simp) _ (dl_cons (by decide)), tk_comma, ih]
  cases toksG (41 :: rest) <;> simp
theorem toks_print {n : Nd} (h : WF n) : TP n := by
 induction h with
 | num n h0 h1 => intro rest hr; rw [pg_num, pt_num, tk_num h0 h1 hr]; rfl
 | txt t => intro rest hr; rw [pg_txt, pt_txt, tk_txt t hr]; rfl
 | cel a b hp => intro rest hr; rw [pg_cel, pt_cel, tk_plc hp hr]; rfl
 | rng a b c d hp hq =>
  intro rest hr
  have e : wrG a b ++ 58 :: wrG c d ++ rest = wrG a b ++ (58 :: (wrG c d ++ rest)) := by simp
  rw [pg_rng, pt_rng, e, tk_plc hp (dl_cons (by decide)), tk_colon, tk_plc hq hr]
  cases toksG rest <;> rfl
 | op1 a _ ih =>
  intro rest hr
  have e : 40 :: 45 :: printG a ++ [41] ++ rest = 40 :: 45 :: (printG a ++ 41 :: rest) := by simp
  rw [pg_op1, pt_op1, e, tk_open, tk_minus, ih _ (dl_cons (by decide)), tk_close]
  cases toksG rest <;> simp
 | op2 s a b hs _ hb iha ihb =>
  intro rest hr
  have e : 40 :: printG a ++ (s ++ (printG b ++ [41])) ++ rest = 40 :: (printG a ++ (s ++ (printG b ++ 41 :: rest))) := by simp
  rw [pg_op2, pt_op2, e, tk_open, iha _ (op_dl hs _), tk_op hs (nb_print hb _), ihb _ (dl_cons (by decide)), tk_close]
  cases toksG rest <;> simp
 | cal t l ht _ ih =>
  intro rest hr
  have e : t ++ (40 :: joinC [44] (l.map printG) ++ [41]) ++ rest = t ++ 40 :: (joinC [44] (l.map printG) ++ 41 :: rest) := by simp
  rw [pg_cal, pt_cal, e, tk_name ht, tk_open]
  by_cases hl : l = []
  ·subst hl
   show ((toksG (41 :: rest)).map _).map _ = _
   rw [tk_close]
   cases toksG rest <;> rfl
  ·rw [tk_args l hl ih rest, tk_close]
   cases toksG rest <;> simp
theorem toks_printG {n : Nd} (h : WF n) : toksG (printG n) = some (ptoks n) := by
 have := toks_print h [] (fun c r e => by cases e)
 rw [List.append_nil] at this
 rw [this]
 show (some []).map _ = _
 simp
end Go.Vai
namespace Go.Vai
mutual
def dep : Nd → Nat
 | .mk k _ _ _ _ _ _ l => if k = 5 then (if l.length = 1 then 2 else 1) + deps l else if k = 6 then 1 + deps l else 0
def deps : List Nd → Nat
 | [] => 0
 | n :: r => max (dep n) (deps r)
end
theorem dep_op1 (a : Nd) : dep (op1 a) = 2 + dep a := by simp [dep, op1, deps]
theorem dep_op2 (s : List UInt8) (a b : Nd) : dep (op2 s a b) = 1 + max (dep a) (dep b) := by simp [dep, op2, deps]
theorem dep_cal (t : List UInt8) (l : List Nd) : dep (calN t l) = 1 + deps l := by simp [dep, calN]
theorem dep_len {n : Nd} (h : WF n) : dep n + 1 ≤ (printG n).length := by
 induction h with
 | num n h0 h1 => obtain ⟨c, r, e, _⟩ := head_ok (.num n h0 h1); rw [e]; simp [dep, numN]
 | txt t => rw [pg_txt]; simp [dep, txtN]
 | cel a b hp => obtain ⟨c, r, e, _⟩ := head_ok (.cel a b hp); rw [e]; simp [dep, celN]
 | rng a b c d hp hq => obtain ⟨c, r, e, _⟩ := head_ok (.rng a b c d hp hq); rw [e]; simp [dep, rngN]
 | op1 a _ ih => rw [pg_op1, dep_op1]; simp; omega
 | op2 s a b hs _ _ iha ihb => rw [pg_op2, dep_op2]; simp; omega
 | cal t l ht _ ih =>
  rw [pg_cal, dep_cal]
  have hl : 1 ≤ t.length := by
   cases t with
   | nil => exact absurd rfl ht.1
   | cons c r => simp
  have key : ∀ l : List Nd, (∀ x ∈ l, dep x + 1 ≤ (printG x).length) → deps l ≤ (joinC [44] (l.map printG)).length := by
   intro l
   induction l with
   | nil => intro _; simp [deps]
   | cons x r ihr =>
    intro h
    have h1 := h x (by simp)
    have h2 := ihr (fun y hy => h y (by simp [hy]))
    cases r with
    | nil => simp [deps, joinC]; omega
    | cons y r =>
     rw [deps]
     simp only [List.map_cons, joinC] at h2 ⊢
     simp only [List.length_append]
     omega
  have := key l ih
  simp
  omega
def Res (x : Rd) (n : Nd) (rest : List Tok) (D : Nat) : Prop := x = some (n, rest) ∨ (x = none ∧ 32 < D)
def rwM (part : List Tok → Rd) (sg : List (List UInt8)) (j : List Tok → Nat) (ts : List Tok) : Rd := match part ts with
 | none => none
 | some (n, ts1) => pRow part sg (j ts1) n ts1
theorem pRow_stop {part : List Tok → Rd} {sg : List (List UInt8)} {rest : List Tok} (h : takeS sg rest = none) (n : Nd) : ∀ j, pRow part sg j n rest = some (n, rest)
 | 0 => rfl
 | j + 1 => by rw [pRow, h]
theorem row_up {part : List Tok → Rd} {sg : List (List UInt8)} {j : List Tok → Nat} {X rest : List Tok} {n : Nd} {D : Nat} (h : Res (part X) n rest D) (hs : takeS sg rest = none) : Res (rwM part sg j X) n rest D := by
 rcases h with h | ⟨h, hd⟩
 ·left; unfold rwM; rw [h]; exact pRow_stop hs n _
 ·right; unfold rwM; rw [h]; exact ⟨rfl, hd⟩
theorem row_op {part : List Tok → Rd} {sg : List (List UInt8)} {j : List Tok → Nat} {X Y rest : List Tok} {s : List UInt8} {a b : Nd} {D1 D2 : Nat} (h1 : Res (part X) a (.sign s :: Y) D1) (h2 : Res (part Y) b rest D2) (hsg : s ∈ sg) (hs : takeS sg rest = none) (hj : 1 ≤ j (.sign s :: Y)) : Res (rwM part sg j X) (op2 s a b) rest (max D1 D2) := by
 rcases h1 with h | ⟨h, hd⟩
 ·obtain ⟨i, hi⟩ : ∃ i, j (.sign s :: Y) = i + 1 := ⟨j (.sign s :: Y) - 1, by omega⟩
  have ht : takeS sg (.sign s :: Y) = some (s, Y) := by simp [takeS, hsg]
  rcases h2 with h2 | ⟨h2, hd⟩
  ·left
   unfold rwM
   rw [h]
   simp only
   rw [hi, pRow, ht]
   simp only
   rw [h2]
   exact pRow_stop hs _ _
  ·right
   refine ⟨?_, by omega⟩
   unfold rwM
   rw [h]
   simp only
   rw [hi, pRow, ht]
   simp only
   rw [h2]
 ·right; unfold rwM; rw [h]; exact ⟨rfl, by omega⟩
theorem Res.le {x : Rd} {n : Nd} {rest : List Tok} {D D' : Nat} (h : Res x n rest D) (hd : D ≤ D') : Res x n rest D' := by
 rcases h with h | ⟨h, h2⟩
 ·exact .inl h
 ·exact .inr ⟨h, by omega⟩
structure Stop (rest : List Tok) : Prop where
 colon : takeS [[58]] rest = none
 prod : takeS [[42], [47]] rest = none
 sum : takeS [[43], [45]] rest = none
 join : takeS [[38]] rest = none
 form : takeS cmpL rest = none
theorem stop_nil : Stop [] := ⟨rfl, rfl, rfl, rfl, rfl⟩
theorem stop_close (r : List Tok) : Stop (.sign [41] :: r) := ⟨by simp [takeS], by simp [takeS], by simp [takeS], by simp [takeS], by simp [takeS, cmpL]⟩
theorem stop_comma (r : List Tok) : Stop (.sign [44] :: r) := ⟨by simp [takeS], by simp [takeS], by simp [takeS], by simp [takeS], by simp [takeS, cmpL]⟩
theorem up_prod {k d : Nat} {X rest : List Tok} {n : Nd} {D : Nat} (h : Res (pr (k + 1) .minus d X) n rest D) (hs : Stop rest) : Res (pr (k + 2) .prod d X) n rest D := row_up (j := fun ts1 => ts1.length) h hs.prod
theorem up_sum {k d : Nat} {X rest : List Tok} {n : Nd} {D : Nat} (h : Res (pr (k + 2) .prod d X) n rest D) (hs : Stop rest) : Res (pr (k + 3) .sum d X) n rest D := row_up (j := fun ts1 => ts1.length) h hs.sum
theorem up_join {k d : Nat} {X rest : List Tok} {n : Nd} {D : Nat} (h : Res (pr (k + 3) .sum d X) n rest D) (hs : Stop rest) : Res (pr (k + 4) .join d X) n rest D := row_up (j := fun ts1 => ts1.length) h hs.join
theorem up_form {k d : Nat} {X rest : List Tok} {n : Nd} {D : Nat} (h : Res (pr (k + 4) .join d X) n rest D) (hs : Stop rest) : Res (pr (k + 5) .form d X) n rest D := row_up (j := fun _ => 1) h hs.form
theorem first_tok {n : Nd} (h : WF n) : ∃ t r, ptoks n = t :: r ∧ t ≠ .sign [45] ∧ t ≠ .sign [41] := by
 cases h with
 | num n _ _ => exact ⟨_, _, pt_num n, by simp, by simp⟩
 | txt t => exact ⟨_, _, pt_txt t, by simp, by simp⟩
 | cel a b _ => exact ⟨_, _, pt_cel a b, by simp, by simp⟩
 | rng a b c d _ _ => exact ⟨_, _, pt_rng a b c d, by simp, by simp⟩
 | op1 a _ => exact ⟨_, _, pt_op1 a, by simp, by simp⟩
 | op2 s a b _ _ _ => exact ⟨_, _, pt_op2 s a b, by simp, by simp⟩
 | cal t l _ _ => exact ⟨_, _, pt_cal t l, by simp, by simp⟩
theorem take_first {n : Nd} (h : WF n) (X : List Tok) : takeS [[45]] (ptoks n ++ X) = none ∧ takeS [[41]] (ptoks n ++ X) = none := by
 obtain ⟨t, r, e, h1, h2⟩ := first_tok h
 rw [e]
 cases t with
 | sign s =>
  have g1 : s ≠ [45] := fun e => h1 (by rw [e])
  have g2 : s ≠ [41] := fun e => h2 (by rw [e])
  simp [takeS, g1, g2]
 | _ => simp [takeS]
def SP (n : Nd) : Prop := ∀ (k d : Nat) (rest : List Tok), d ≤ 32 → 8 * (ptoks n ++ rest).length + 2 ≤ k → takeS [[58]] rest = none → Res (pr k .single d (ptoks n ++ rest)) n rest (d + dep n)
theorem pr_min_none {k d : Nat} {ts : List Tok} (h : takeS [[45]] ts = none) : pr (k + 1) .minus d ts = pr k .single d ts := by simp only [pr, h]
theorem pr_min_some {k d : Nat} {ts r : List Tok} {s : List UInt8} (h : takeS [[45]] ts = some (s, r)) : pr (k + 1) .minus d ts = if d + 1 > 32 then none else (pr k .minus (d + 1) r).map fun p => (op1 p.1, p.2) := by simp only [pr, h]
theorem minus_of {n : Nd} (h : WF n) (hp : SP n) {k d : Nat} {rest : List Tok} (hd : d ≤ 32) (hk : 8 * (ptoks n ++ rest).length + 2 ≤ k) (hs : takeS [[58]] rest = none) : Res (pr (k + 1) .minus d (ptoks n ++ rest)) n rest (d + dep n) := by
 rw [pr_min_none (take_first h rest).1]
 exact hp k d rest hd hk hs
theorem form_of {n : Nd} (h : WF n) (hp : SP n) {k d : Nat} {rest : List Tok} (hd : d ≤ 32) (hk : 8 * (ptoks n ++ rest).length + 2 ≤ k) (hs : Stop rest) : Res (pr (k + 5) .form d (ptoks n ++ rest)) n rest (d + dep n) :=
 up_form (up_join (up_sum (up_prod (minus_of h hp hd hk hs.colon) hs) hs) hs) hs
theorem op_of {s : List UInt8} {a b : Nd} (hso : s ∈ opS) (ha : WF a) (hb : WF b) (pa : SP a) (pb : SP b) {k d : Nat} {rest : List Tok} (hd : d ≤ 32) (hk : 8 * (ptoks a ++ (.sign s :: (ptoks b ++ rest))).length + 2 ≤ k) (hs : Stop rest) : Res (pr (k + 5) .form d (ptoks a ++ (.sign s :: (ptoks b ++ rest)))) (op2 s a b) rest (d + max (dep a) (dep b)) := by
 have hk2 : 8 * (ptoks b ++ rest).length + 2 ≤ k := by simp at hk ⊢; omega
 have hc : takeS [[58]] (.sign s :: (ptoks b ++ rest)) = none := by
  simp only [opS, List.mem_cons, List.mem_nil_iff, or_false] at hso
  rcases hso with rfl | rfl | rfl | rfl | rfl | rfl | rfl | rfl | rfl | rfl | rfl <;> simp [takeS]
 have a1 := minus_of ha pa hd hk hc
 have b1 := minus_of hb pb hd hk2 hs.colon
 have fin : ∀ {x : Rd} {D}, Res x (op2 s a b) rest D → D ≤ d + max (dep a) (dep b) → Res x (op2 s a b) rest (d + max (dep a) (dep b)) := fun h hh => h.le hh
 have lvl : (s = [42] ∨ s = [47]) ∨ (s = [43] ∨ s = [45]) ∨ s = [38] ∨ s ∈ cmpL := by
  simp only [opS, List.mem_cons, List.mem_nil_iff, or_false] at hso
  simp only [cmpL, List.mem_cons, List.mem_nil_iff, or_false]
  rcases hso with rfl | rfl | rfl | rfl | rfl | rfl | rfl | rfl | rfl | rfl | rfl <;> simp
 have nprod : ¬ (s = [42] ∨ s = [47]) → takeS [[42], [47]] (.sign s :: (ptoks b ++ rest)) = none := fun h => by simp [takeS]; exact ⟨fun e => h (.inl e), fun e => h (.inr e)⟩
 have nsum : ¬ (s = [43] ∨ s = [45]) → takeS [[43], [45]] (.sign s :: (ptoks b ++ rest)) = none := fun h => by simp [takeS]; exact ⟨fun e => h (.inl e), fun e => h (.inr e)⟩
 have njoin : s ≠ [38] → takeS [[38]] (.sign s :: (ptoks b ++ rest)) = none := fun h => by simp [takeS, h]
 by_cases l1 : s = [42] ∨ s = [47]
 ·have h : Res (pr (k + 2) .prod d (ptoks a ++ (.sign s :: (ptoks b ++ rest)))) (op2 s a b) rest _ := row_op (j := fun ts1 => ts1.length) a1 b1 (by rcases l1 with rfl | rfl <;> simp) hs.prod (by simp)
  exact fin (up_form (up_join (up_sum h hs) hs) hs) (by omega)
 ·have a2 : Res (pr (k + 2) .prod d _) a _ _ := row_up (j := fun ts1 => ts1.length) a1 (nprod l1)
  have b2 : Res (pr (k + 2) .prod d _) b _ _ := row_up (j := fun ts1 => ts1.length) b1 hs.prod
  by_cases l2 : s = [43] ∨ s = [45]
  ·have h : Res (pr (k + 3) .sum d (ptoks a ++ (.sign s :: (ptoks b ++ rest)))) (op2 s a b) rest _ := row_op (j := fun ts1 => ts1.length) a2 b2 (by rcases l2 with rfl | rfl <;> simp) hs.sum (by simp)
   exact fin (up_form (up_join h hs) hs) (by omega)
  ·have a3 : Res (pr (k + 3) .sum d _) a _ _ := row_up (j := fun ts1 => ts1.length) a2 (nsum l2)
   have b3 : Res (pr (k + 3) .sum d _) b _ _ := row_up (j := fun ts1 => ts1.length) b2 hs.sum
   by_cases l3 : s = [38]
   ·have h : Res (pr (k + 4) .join d (ptoks a ++ (.sign s :: (ptoks b ++ rest)))) (op2 s a b) rest _ := row_op (j := fun ts1 => ts1.length) a3 b3 (by rw [l3]; simp) hs.join (by simp)
    exact fin (up_form h hs) (by omega)
   ·have a4 : Res (pr (k + 4) .join d _) a _ _ := row_up (j := fun ts1 => ts1.length) a3 (njoin l3)
    have b4 : Res (pr (k + 4) .join d _) b _ _ := row_up (j := fun ts1 => ts1.length) b3 hs.join
    have h : Res (pr (k + 5) .form d (ptoks a ++ (.sign s :: (ptoks b ++ rest)))) (op2 s a b) rest _ := row_op (j := fun _ => 1) a4 b4 (by rcases lvl with h | h | h | h; exact absurd h l1; exact absurd h l2; exact absurd h l3; exact h) hs.form (by simp)
    exact fin h (by omega)
theorem op1_of {a : Nd} (ha : WF a) (pa : SP a) {k d : Nat} {rest : List Tok} (hd : d ≤ 32) (hk : 8 * (.sign [45] :: (ptoks a ++ rest)).length + 2 ≤ k) (hs : Stop rest) : Res (pr (k + 5) .form d (.sign [45] :: (ptoks a ++ rest))) (op1 a) rest (d + 1 + dep a) := by
 obtain ⟨k', rfl⟩ : ∃ k', k = k' + 1 := ⟨k - 1, by omega⟩
 have h : Res (pr (k' + 1 + 1) .minus d (.sign [45] :: (ptoks a ++ rest))) (op1 a) rest (d + 1 + dep a) := by
  have ht : takeS [[45]] (.sign [45] :: (ptoks a ++ rest)) = some ([45], ptoks a ++ rest) := by simp [takeS]
  rw [pr_min_some ht]
  by_cases hd2 : d + 1 > 32
  ·rw [if_pos hd2]; exact .inr ⟨rfl, by omega⟩
  ·rw [if_neg hd2]
   rcases minus_of ha pa (k := k') (d := d + 1) (rest := rest) (by omega) (by simp at hk ⊢; omega) hs.colon with h | ⟨h, h2⟩
   ·rw [h]; exact .inl rfl
   ·rw [h]; exact .inr ⟨rfl, h2⟩
 exact up_form (up_join (up_sum (up_prod h hs) hs) hs) hs
theorem args_of {k d : Nat} (hd : d ≤ 32) (rest : List Tok) : ∀ (l : List Nd), l ≠ [] → (∀ x ∈ l, WF x ∧ SP x) → ∀ (j : Nat) (ns : List Nd), l.length ≤ j → 8 * (sepT (l.map ptoks) ++ .sign [41] :: rest).length + 2 ≤ k →
 pArg (pr (k + 5) .form d) j ns (sepT (l.map ptoks) ++ .sign [41] :: rest) = some (ns ++ l, .sign [41] :: rest) ∨ (pArg (pr (k + 5) .form d) j ns (sepT (l.map ptoks) ++ .sign [41] :: rest) = none ∧ 32 < d + deps l)
 | [], h, _, _, _, _, _ => absurd rfl h
 | [x], _, hx, j, ns, hj, hk => by
  obtain ⟨i, rfl⟩ : ∃ i, j = i + 1 := ⟨j - 1, by simp at hj; omega⟩
  obtain ⟨w, p⟩ := hx x (by simp)
  have e : sepT ([x].map ptoks) = ptoks x := rfl
  rw [e] at hk ⊢
  have ht : takeS [[44]] (.sign [41] :: rest) = none := by simp [takeS]
  rw [pArg]
  rcases form_of w p hd hk (stop_close rest) with h | ⟨h, h2⟩
  ·rw [h]; simp only; rw [ht]; exact .inl rfl
  ·rw [h]; exact .inr ⟨rfl, by simp [deps]; omega⟩
 | x :: y :: r, _, hx, j, ns, hj, hk => by
  obtain ⟨i, rfl⟩ : ∃ i, j = i + 1 := ⟨j - 1, by simp at hj; omega⟩
  obtain ⟨w, p⟩ := hx x (by simp)
  have e : sepT ((x :: y :: r).map ptoks) ++ .sign [41] :: rest = ptoks x ++ (.sign [44] :: (sepT ((y :: r).map ptoks) ++ .sign [41] :: rest)) := by
   show (ptoks x ++ (.sign [44] :: sepT ((y :: r).map ptoks))) ++ _ = _
   simp
  rw [e] at hk ⊢
  have ht : takeS [[44]] (.sign [44] :: (sepT ((y :: r).map ptoks) ++ .sign [41] :: rest)) = some ([44], sepT ((y :: r).map ptoks) ++ .sign [41] :: rest) := by simp [takeS]
  have ih := args_of (k := k) hd rest (y :: r) (by simp) (fun z hz => hx z (by simp [hz])) i (ns ++ [x]) (by simp at hj ⊢; omega) (by simp only [List.length_append, List.length_cons] at hk ⊢; omega)
  have e2 : ns ++ x :: y :: r = ns ++ [x] ++ (y :: r) := by simp
  rw [pArg]
  rcases form_of w p hd hk (stop_comma _) with h | ⟨h, h2⟩
  ·rw [h]
   simp only
   rw [ht, e2]
   rcases ih with ih | ⟨ih, h3⟩
   ·exact .inl ih
   ·exact .inr ⟨ih, by rw [deps]; omega⟩
  ·rw [h]
   exact .inr ⟨rfl, by rw [deps]; omega⟩
theorem sep_len : ∀ l : List Nd, (∀ x ∈ l, WF x) → l.length ≤ (sepT (l.map ptoks)).length
 | [], _ => Nat.zero_le _
 | [x], h => by
  obtain ⟨t, r, e, _⟩ := first_tok (h x (by simp))
  show 1 ≤ (ptoks x).length
  rw [e]; simp
 | x :: y :: r, h => by
  have := sep_len (y :: r) (fun z hz => h z (by simp [hz]))
  have e : sepT ((x :: y :: r).map ptoks) = ptoks x ++ (.sign [44] :: sepT ((y :: r).map ptoks)) := rfl
  rw [e]
  simp only [List.length_append, List.length_cons] at this ⊢
  omega
def callP (part : List Tok → Rd) (t : List UInt8) (d : Nat) (r2 : List Tok) : Rd := if d + 1 > 32 then none else match takeS [[41]] r2 with
 | some (_, r3) => some (calN t [], r3)
 | none => match pArg part (r2.length + 1) [] r2 with
  | none => none
  | some (ns, ts1) => (takeS [[41]] ts1).map fun p => (calN t ns, p.2)
theorem single_open (k d : Nat) (X : List Tok) : pr (k + 1) .single d (.sign [40] :: X) = if d + 1 > 32 then none else match pr k .form (d + 1) X with
 | none => none
 | some (n, ts1) => (takeS [[41]] ts1).map fun p => (n, p.2) := by
 have ht : takeS [[40]] (.sign [40] :: X) = some ([40], X) := by simp [takeS]
 rw [pr, ht]
 rfl
theorem single_res {k d : Nat} {X rest : List Tok} {n : Nd} {D : Nat} (h : d + 1 ≤ 32 → Res (pr k .form (d + 1) X) n (.sign [41] :: rest) D) (hD : d + 1 ≤ D) : Res (pr (k + 1) .single d (.sign [40] :: X)) n rest D := by
 rw [single_open]
 by_cases hd2 : d + 1 > 32
 ·rw [if_pos hd2]; exact .inr ⟨rfl, by omega⟩
 ·rw [if_neg hd2]
  rcases h (by omega) with h | ⟨h, h2⟩
  ·rw [h]
   left
   simp [takeS]
  ·rw [h]; exact .inr ⟨rfl, h2⟩
theorem single_of {n : Nd} (h : WF n) : SP n := by
 induction h with
 | num n _ _ =>
  intro k d rest hd hk hs
  obtain ⟨k, rfl⟩ : ∃ k', k = k' + 1 := ⟨k - 1, by omega⟩
  rw [pt_num]
  exact .inl rfl
 | txt t =>
  intro k d rest hd hk hs
  obtain ⟨k, rfl⟩ : ∃ k', k = k' + 1 := ⟨k - 1, by omega⟩
  rw [pt_txt]
  exact .inl rfl
 | cel a b _ =>
  intro k d rest hd hk hs
  obtain ⟨k, rfl⟩ : ∃ k', k = k' + 1 := ⟨k - 1, by omega⟩
  rw [pt_cel]
  left
  show (match takeS [[58]] rest with
   | none => some (celN a b, rest)
   | some (_, .plc a2 b2 :: r3) => some (rngN a b a2 b2, r3)
   | some (_, _) => none) = _
  rw [hs]
 | rng a b c d' _ _ =>
  intro k d rest hd hk hs
  obtain ⟨k, rfl⟩ : ∃ k', k = k' + 1 := ⟨k - 1, by omega⟩
  rw [pt_rng]
  exact .inl rfl
 | op1 a ha ih =>
  intro k d rest hd hk hs
  rw [pt_op1] at hk ⊢
  have e : Tok.sign [40] :: .sign [45] :: (ptoks a ++ [.sign [41]]) ++ rest = .sign [40] :: (.sign [45] :: (ptoks a ++ .sign [41] :: rest)) := by simp
  rw [e] at hk ⊢
  obtain ⟨k, rfl⟩ : ∃ k', k = k' + 5 + 1 := ⟨k - 6, by simp at hk; omega⟩
  rw [dep_op1]
  refine single_res (fun h1 => ?_) (by omega)
  exact (op1_of ha ih h1 (by simp only [List.length_cons] at hk ⊢; omega) (stop_close rest)).le (by omega)
 | op2 s a b hso ha hb iha ihb =>
  intro k d rest hd hk hs
  rw [pt_op2] at hk ⊢
  have e : Tok.sign [40] :: (ptoks a ++ (.sign s :: (ptoks b ++ [.sign [41]]))) ++ rest = .sign [40] :: (ptoks a ++ (.sign s :: (ptoks b ++ .sign [41] :: rest))) := by simp
  rw [e] at hk ⊢
  obtain ⟨k, rfl⟩ : ∃ k', k = k' + 5 + 1 := ⟨k - 6, by simp at hk; omega⟩
  rw [dep_op2]
  refine single_res (fun h1 => ?_) (by omega)
  exact (op_of hso ha hb iha ihb h1 (by simp only [List.length_cons] at hk ⊢; omega) (stop_close rest)).le (by omega)
 | cal t l ht hl ih =>
  intro k d rest hd hk hs
  rw [pt_cal] at hk ⊢
  have e : Tok.name t :: .sign [40] :: (sepT (l.map ptoks) ++ [.sign [41]]) ++ rest = .name t :: (.sign [40] :: (sepT (l.map ptoks) ++ .sign [41] :: rest)) := by simp
  rw [e] at hk ⊢
  obtain ⟨k, rfl⟩ : ∃ k', k = k' + 5 + 1 := ⟨k - 6, by simp at hk; omega⟩
  rw [dep_cal]
  have e1 : takeS [[40]] (.sign [40] :: (sepT (l.map ptoks) ++ .sign [41] :: rest)) = some ([40], sepT (l.map ptoks) ++ .sign [41] :: rest) := by simp [takeS]
  have e2 : pr (k + 5 + 1) .single d (.name t :: (.sign [40] :: (sepT (l.map ptoks) ++ .sign [41] :: rest))) = callP (pr (k + 5) .form (d + 1)) t d (sepT (l.map ptoks) ++ .sign [41] :: rest) := by
   show (match takeS [[40]] (.sign [40] :: (sepT (l.map ptoks) ++ .sign [41] :: rest)) with
    | none => none
    | some (_, r2) => callP (pr (k + 5) .form (d + 1)) t d r2) = _
   rw [e1]
  rw [e2]
  unfold callP
  by_cases hd2 : d + 1 > 32
  ·rw [if_pos hd2]; exact .inr ⟨rfl, by omega⟩
  ·rw [if_neg hd2]
   by_cases hn : l = []
   ·subst hn
    left
    simp [sepT, takeS]
   ·have h0 : takeS [[41]] (sepT (l.map ptoks) ++ .sign [41] :: rest) = none := by
     match l, hn with
     | [x], _ => exact (take_first (hl x (by simp)) _).2
     | x :: y :: r, _ =>
      have e3 : sepT ((x :: y :: r).map ptoks) ++ .sign [41] :: rest = ptoks x ++ (.sign [44] :: sepT ((y :: r).map ptoks) ++ .sign [41] :: rest) := by
       show (ptoks x ++ (.sign [44] :: sepT ((y :: r).map ptoks))) ++ _ = _
       simp
      rw [e3]
      exact (take_first (hl x (by simp)) _).2
    rw [h0]
    have hsl := sep_len l hl
    rcases args_of (k := k) (d := d + 1) (by omega) rest l hn (fun x hx => ⟨hl x hx, ih x hx⟩) ((sepT (l.map ptoks) ++ .sign [41] :: rest).length + 1) [] (by simp only [List.length_append]; omega) (by simp only [List.length_cons] at hk ⊢; omega) with h | ⟨h, h2⟩
    ·rw [h]
     left
     simp [takeS]
    ·rw [h]
     exact .inr ⟨rfl, by omega⟩
theorem parse_print {n : Nd} (h : WF n) : parseM (printG n) = some n ∨ (parseM (printG n) = none ∧ 32 < (printG n).length) := by
 have hd := dep_len h
 have hr : Res (prT (ptoks n)) n [] (0 + dep n) := by
  have := form_of h (single_of h) (k := 8 * (ptoks n).length + 2) (d := 0) (rest := []) (by omega) (by simp) stop_nil
  rw [List.append_nil] at this
  exact this
 unfold parseM
 rw [toks_printG h]
 rcases hr with hr | ⟨hr, h2⟩
 ·left; simp only; rw [hr]
 ·right
  refine ⟨?_, by omega⟩
  simp only; rw [hr]
end Go.Vai
namespace Go.Vai
variable {m : Int} {e3 e4 : Value}
def zE : AV := .agg [i64 0, i64 0, bs [], i64 0, i64 0, i64 0, i64 0, .emp]
theorem run_same0 : (W m e3 e4).run 9 [ndA zNd, zE] [] = some (bo true, []) := by
 refine run_wp (by rw [W_T]; exact rfl) ?_
 simp only [zNd, ndA_mk, zE]
 simp -dsimp -implicitDefEqProofs (maxSteps := 1000000) (disch := omega) [ST, eNds]
 refine wp_inv (fun _ : Unit => { sl := [(2, .bp 0 0), (3, .bp 1 0), (5, i64 0)], hp := [(0, some (.box [i64 0, i64 0, bs [], i64 0, i64 0, i64 0, i64 0, .fz (.sl [])])), (1, some (.box [i64 0, i64 0, bs [], i64 0, i64 0, i64 0, i64 0, .emp]))], nx := 2 }) (fun _ => True) (fun _ => 0) () trivial (by simp -dsimp -implicitDefEqProofs (maxSteps := 1000000) (disch := omega) [ST, eNds]) ?_
 rintro ⟨⟩ _
 simp -dsimp -implicitDefEqProofs (maxSteps := 1000000) (disch := omega) [ST, eNds]
set_option maxHeartbeats 4000000 in
theorem law_printed (l : List UInt8) (hl : l.length ≤ 1048576) : (W m e3 e4).run 5 [bs l] [] = some (bo true, []) := by
 refine run_wp (by rw [W_T]; exact rfl) ?_
 have h1 := run_Parse (m := m) (e3 := e3) (e4 := e4) l (by omega) (fun ts ht => by have := toksG_len _ l (Nat.le_refl _) ts ht; omega)
 cases hp : parseM l with
 | none =>
  rw [hp] at h1
  have h3 := run_same0 (m := m) (e3 := e3) (e4 := e4)
  simp only [parseR, zNd, zE, ndA_mk, eNds] at h1 h3
  simp -dsimp -implicitDefEqProofs (maxSteps := 1000000) (disch := omega) [ST, run_awake, h1, h3]
 | some n =>
  rw [hp] at h1
  obtain ⟨o1, o2⟩ := parseM_ok l n hp
  have wf := parseM_wf l n hp
  obtain ⟨h3, h4, h5⟩ := run_triple (m := m) (e3 := e3) (e4 := e4) n o1 (by omega)
  have hlen := printG_len _ n (Nat.le_refl _) o1
  have h6 := run_Parse (m := m) (e3 := e3) (e4 := e4) (printG n) (by omega) (fun ts ht => by have := toksG_len _ (printG n) (Nat.le_refl _) ts ht; omega)
  rcases parse_print wf with h7 | ⟨h7, h8⟩
  ·rw [h7] at h6
   simp only [parseR] at h1 h6
   generalize printG n = px at *
   obtain ⟨k, n, t, p1, p2, p3, p4, a⟩ := n
   simp only [ndA_mk] at h1 h3 h4 h6
   simp -dsimp -implicitDefEqProofs (maxSteps := 1000000) (disch := omega) [ST, run_awake, h1, h3, h4, h6]
  ·rw [h7] at h6
   simp only [parseR, zNd] at h1 h6
   generalize printG n = px at *
   obtain ⟨k, n, t, p1, p2, p3, p4, a⟩ := n
   simp only [ndA_mk, eNds] at h1 h3 h4 h6
   simp -dsimp -implicitDefEqProofs (maxSteps := 1000000) (disch := omega) [ST, run_awake, h1, h3, h4, h6, h8]
end Go.Vai
