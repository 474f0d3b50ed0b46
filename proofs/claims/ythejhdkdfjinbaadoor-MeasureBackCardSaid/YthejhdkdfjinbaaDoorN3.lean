/-
  What functions of layer 1 and of its reference compute: equations of the abstract run, and plain laws of them.
-/
import Derived.Test.YthejhdkdfjinbaaDoorN2
set_option linter.unusedVariables false
set_option linter.unusedSimpArgs false
set_option linter.unnecessarySimpa false
set_option linter.unusedSectionVars false
namespace Go.Vai
variable {e3 e4 : Value}
/-! The law of the exclusive or. -/
theorem tS_xor (x y : BitVec 32) : tS (x ^^^ y) = tS x ^^^ tS y := by
  rw [tS_rB, tS_rB, tS_rB, rB_xor]
theorem bb_xor (x y : UInt8) : bb (x ^^^ y) = bb x ^^^ bb y := by
  apply BitVec.eq_of_toNat_eq
  have h1 := (x ^^^ y).toNat_lt
  have h2 := x.toNat_lt
  have h3 := y.toNat_lt
  simp only [bb, BitVec.toNat_xor, BitVec.toNat_ofNat]
  rw [Nat.mod_eq_of_lt (by omega), Nat.mod_eq_of_lt (by omega), Nat.mod_eq_of_lt (by omega), UInt8.toNat_xor]
theorem byS_xor (c d : BitVec 32) (x y : UInt8) : byS (c ^^^ d) (x ^^^ y) = byS c x ^^^ byS d y := by
  unfold byS
  rw [bb_xor, ← tS_xor, ← tS_xor]
  congr 2
  ext i
  simp only [BitVec.getElem_xor]
  cases c[i] <;> cases d[i] <;> cases (bb x)[i] <;> cases (bb y)[i] <;> rfl
def zip3 : List UInt8 → List UInt8 → List UInt8 → List UInt8
  | a :: x, b :: y, c :: z => (a ^^^ b ^^^ c) :: zip3 x y z
  | _, _, _ => []
theorem crcS_zip : ∀ (x y z : List UInt8) (a b c : BitVec 32), x.length = y.length → x.length = z.length → crcS (a ^^^ b ^^^ c) (zip3 x y z) = crcS a x ^^^ crcS b y ^^^ crcS c z
  | [], [], [], a, b, c, _, _ => rfl
  | p :: x, q :: y, r :: z, a, b, c, h1, h2 => by
    have := crcS_zip x y z (byS a p) (byS b q) (byS c r) (by simpa using h1) (by simpa using h2)
    simp only [zip3, crcS, List.foldl_cons] at this ⊢
    rw [byS_xor, byS_xor, this]
theorem zip3_len : ∀ x y z : List UInt8, x.length = y.length → x.length = z.length → (zip3 x y z).length = x.length
  | [], [], [], _, _ => rfl
  | p :: x, q :: y, r :: z, h1, h2 => by
    have := zip3_len x y z (by simpa using h1) (by simpa using h2)
    simp [zip3, this]
theorem zip3_get : ∀ (x y z : List UInt8) (i : Nat) (a b c : UInt8), x[i]? = some a → y[i]? = some b → z[i]? = some c → (zip3 x y z)[i]? = some (a ^^^ b ^^^ c)
  | p :: x, q :: y, r :: z, 0, a, b, c, h1, h2, h3 => by simp at h1 h2 h3; subst h1; subst h2; subst h3; rfl
  | p :: x, q :: y, r :: z, i + 1, a, b, c, h1, h2, h3 => by simpa [zip3] using zip3_get x y z i a b c (by simpa using h1) (by simpa using h2) (by simpa using h3)
  | [], _, _, _, _, _, _, h, _, _ => by simp at h
  | _ :: _, [], _, _, _, _, _, _, h, _ => by simp at h
  | _ :: _, _ :: _, [], _, _, _, _, _, _, h => by simp at h
theorem crc_zip (x y z : List UInt8) (h1 : x.length = y.length) (h2 : x.length = z.length) : crcG (zip3 x y z) = crcG x ^^^ crcG y ^^^ crcG z := by
  have h := crcS_zip x y z 0xFFFFFFFF#32 0xFFFFFFFF#32 0xFFFFFFFF#32 h1 h2
  have h3 : (0xFFFFFFFF#32 ^^^ 0xFFFFFFFF#32 ^^^ 0xFFFFFFFF#32 : BitVec 32) = 0xFFFFFFFF#32 := by decide
  rw [h3] at h
  unfold crcG
  rw [h]
  ext i
  simp only [BitVec.getElem_xor, BitVec.getElem_not]
  cases (crcS 0xFFFFFFFF#32 x)[i] <;> cases (crcS 0xFFFFFFFF#32 y)[i] <;> cases (crcS 0xFFFFFFFF#32 z)[i] <;> rfl
theorem bv8_nat (x : UInt8) : BitVec.ofInt 8 (x.toNat : Int) = x.toBitVec := by
  apply BitVec.eq_of_toNat_eq
  rw [BitVec.toNat_ofInt]
  have := x.toNat_lt
  simp
  omega
theorem xor8 (x y : UInt8) : binS .xor (.int .u8 (x.toNat : Int)) (.int .u8 (y.toNat : Int)) = some (.int .u8 ((x ^^^ y).toNat : Int)) := by
  show (if IntKind.u8 ≠ IntKind.u8 then none else some (Value.int .u8 (IntKind.u8.wrap (((BitVec.ofInt 8 _ ^^^ BitVec.ofInt 8 _).toNat : Nat) : Int)))) = _
  rw [bv8_nat, bv8_nat, if_neg (by simp)]
  have := (x ^^^ y).toNat_lt
  have h : (x.toBitVec ^^^ y.toBitVec).toNat = (x ^^^ y).toNat := rfl
  rw [h, wrap_u8 (by omega) (by omega)]
theorem ofInt_nat64 {n : Nat} (h : n < 2 ^ 64) : (BitVec.ofInt 64 (n : Int)).toNat = n := by
  rw [BitVec.toNat_ofInt]
  omega
theorem xor64n (x y : BitVec 32) : binS .xor (.int .i64 (x.toNat : Int)) (.int .i64 (y.toNat : Int)) = some (.int .i64 ((x ^^^ y).toNat : Int)) := by
  show (if IntKind.i64 ≠ IntKind.i64 then none else some (Value.int .i64 (IntKind.i64.wrap (((BitVec.ofInt 64 _ ^^^ BitVec.ofInt 64 _).toNat : Nat) : Int)))) = _
  have h1 := x.isLt
  have h2 := y.isLt
  have h3 := (x ^^^ y).isLt
  rw [if_neg (by simp), BitVec.toNat_xor, ofInt_nat64 (by omega), ofInt_nat64 (by omega), ← BitVec.toNat_xor, wrap_i64 (by omega) (by omega)]
theorem eB_0 (b : UInt8) : (eB b)[0]? = some (.sc (.int .u8 b.toNat)) := rfl
theorem eB_mk (b : UInt8) : [FV.sc (.int .u8 (b.toNat : Int))] = eB b := rfl
theorem eB_tl (b : UInt8) : (eB b).tail = [] := rfl
theorem set_eB (x : List UInt8) (i : Nat) (b : UInt8) : (x.map eB).set i [FV.sc (.int .u8 (b.toNat : Int))] = (x.set i b).map eB := by
  rw [List.map_set]; rfl
theorem set_td {α : Type} (l r : List α) (i : Nat) (z : α) (h1 : l[i]? = some z) (h2 : i < r.length) : (l.take i ++ r.drop i).set i z = l.take (i + 1) ++ r.drop (i + 1) := by
  have h3 : i < l.length := by
    rcases Nat.lt_or_ge i l.length with h | h
    · exact h
    · rw [List.getElem?_eq_none h] at h1; cases h1
  rw [List.set_append_right _ _ (by simp; omega), List.drop_eq_getElem_cons h2, List.take_add_one, h1, List.length_take, Nat.min_eq_left (by omega), Nat.sub_self, List.append_assoc]
  rfl
def S6 (a b c : List UInt8) (n : Nat) (s : Nat × List UInt8) : St := { sl := [(0, bs a), (1, bs b), (2, bs c), (7, i64 n), (8, .osl 0 1 0 n), (9, i64 s.1)], hp := [(0, some (.arr 1 (s.2.map eB)))], nx := 1 }
set_option maxHeartbeats 4000000 in
theorem law_linear (a b c : List UInt8) : (W e3 e4).run 6 [bs a, bs b, bs c] [] = some (bo true, []) := by
  refine run_wp (by rw [W_T]; exact rfl) ?_
  obtain ⟨n, hn⟩ : ∃ n : Nat, min (a.length : Int) (min (b.length : Int) (c.length : Int)) = n := ⟨min a.length (min b.length c.length), by omega⟩
  by_cases h : 5000 < n
  · simp -dsimp -implicitDefEqProofs (maxSteps := 1000000) (disch := omega) [condP_pos, condP_neg, optP_pos, decide_eq_true, decide_eq_false, wrap_i64, Int.natCast_inj, -BitVec.toNat_xor, -BitVec.toNat_and, -BitVec.toNat_or, -BitVec.toNat_not, -BitVec.toNat_ushiftRight, -BitVec.toNat_shiftLeft, -BitVec.toNat_mul, -UInt8.toNat_xor, -UInt8.toNat_and, -UInt8.toNat_or, -UInt8.toNat_shiftLeft, -UInt8.toNat_shiftRight, run_sane, h, hn]
  · simp -dsimp -implicitDefEqProofs (maxSteps := 1000000) (disch := omega) [condP_pos, condP_neg, optP_pos, decide_eq_true, decide_eq_false, wrap_i64, Int.natCast_inj, -BitVec.toNat_xor, -BitVec.toNat_and, -BitVec.toNat_or, -BitVec.toNat_not, -BitVec.toNat_ushiftRight, -BitVec.toNat_shiftLeft, -BitVec.toNat_mul, -UInt8.toNat_xor, -UInt8.toNat_and, -UInt8.toNat_or, -UInt8.toNat_shiftLeft, -UInt8.toNat_shiftRight, run_sane, h, hn]
    refine wp_inv (S6 a b c n) (fun s => s.1 ≤ n ∧ s.2 = (zip3 (a.take n) (b.take n) (c.take n)).take s.1 ++ (a.take n).drop s.1) (fun s => n - s.1) (0, a.take n) ⟨by simp, by simp⟩ (by simp -dsimp -implicitDefEqProofs (maxSteps := 1000000) (disch := omega) [condP_pos, condP_neg, optP_pos, decide_eq_true, decide_eq_false, wrap_i64, Int.natCast_inj, -BitVec.toNat_xor, -BitVec.toNat_and, -BitVec.toNat_or, -BitVec.toNat_not, -BitVec.toNat_ushiftRight, -BitVec.toNat_shiftLeft, -BitVec.toNat_mul, -UInt8.toNat_xor, -UInt8.toNat_and, -UInt8.toNat_or, -UInt8.toNat_shiftLeft, -UInt8.toNat_shiftRight, S6]) ?_
    rintro ⟨i, x⟩ ⟨hi, hx⟩
    simp only at hi hx
    have la : (a.take n).length = n := by simp; omega
    have lb : (b.take n).length = n := by simp; omega
    have lc : (c.take n).length = n := by simp; omega
    have lz := zip3_len (a.take n) (b.take n) (c.take n) (by omega) (by omega)
    by_cases h2 : i < n
    · obtain ⟨p, hp⟩ : ∃ p, (a.take n)[i]? = some p := ⟨_, List.getElem?_eq_getElem (by omega)⟩
      obtain ⟨q, hq⟩ : ∃ q, b[i] = q := ⟨_, rfl⟩
      obtain ⟨r, hr⟩ : ∃ r, c[i] = r := ⟨_, rfl⟩
      have hb' := hq
      have hq2 : (b.take n)[i]? = some q := by rw [List.getElem?_take_of_lt h2, List.getElem?_eq_getElem (by omega), hq]
      have hr2 : (c.take n)[i]? = some r := by rw [List.getElem?_take_of_lt h2, List.getElem?_eq_getElem (by omega), hr]
      have hz := zip3_get _ _ _ i p q r hp hq2 hr2
      have hxl : x.length = n := by rw [hx]; simp; omega
      have hxi : x[i]? = some p := by
        rw [hx, List.getElem?_append_right (by simp; omega)]
        simp only [List.length_take, List.getElem?_drop]
        rw [show i + (i - min i (zip3 (a.take n) (b.take n) (c.take n)).length) = i by omega]
        exact hp
      have hxe : x[i] = p := by
        have := List.getElem?_eq_getElem (show i < x.length by omega)
        rw [this] at hxi
        exact Option.some.inj hxi
      simp -dsimp -implicitDefEqProofs (maxSteps := 1000000) (disch := omega) [condP_pos, condP_neg, optP_pos, decide_eq_true, decide_eq_false, wrap_i64, Int.natCast_inj, -BitVec.toNat_xor, -BitVec.toNat_and, -BitVec.toNat_or, -BitVec.toNat_not, -BitVec.toNat_ushiftRight, -BitVec.toNat_shiftLeft, -BitVec.toNat_mul, -UInt8.toNat_xor, -UInt8.toNat_and, -UInt8.toNat_or, -UInt8.toNat_shiftLeft, -UInt8.toNat_shiftRight, S6, h2, hq, hr, xor8, hxi, hxe, hxl, eB_0, eB_tl, set_eB]
      refine again (i + 1, x.set i (p ^^^ q ^^^ r)) ⟨by simp only; omega, by simp only; rw [hx]; exact set_td _ _ _ _ hz (by omega)⟩ (by simp only; omega) (by simp -dsimp -implicitDefEqProofs (maxSteps := 1000000) (disch := omega) [condP_pos, condP_neg, optP_pos, decide_eq_true, decide_eq_false, wrap_i64, Int.natCast_inj, -BitVec.toNat_xor, -BitVec.toNat_and, -BitVec.toNat_or, -BitVec.toNat_not, -BitVec.toNat_ushiftRight, -BitVec.toNat_shiftLeft, -BitVec.toNat_mul, -UInt8.toNat_xor, -UInt8.toNat_and, -UInt8.toNat_or, -UInt8.toNat_shiftLeft, -UInt8.toNat_shiftRight, S6])
    · obtain rfl : i = n := by omega
      have hx2 : x = zip3 (a.take i) (b.take i) (c.take i) := by
        rw [hx, List.drop_of_length_le (by omega), List.append_nil, List.take_of_length_le (by omega)]
      have hl : x.length = i := by rw [hx2]; omega
      have c1 := run_crc (e3 := e3) (e4 := e4) x (by omega)
      have c2 := run_crc (e3 := e3) (e4 := e4) (a.take i) (by omega)
      have c3 := run_crc (e3 := e3) (e4 := e4) (b.take i) (by omega)
      have c4 := run_crc (e3 := e3) (e4 := e4) (c.take i) (by omega)
      have hc := crc_zip (a.take i) (b.take i) (c.take i) (by omega) (by omega)
      rw [← hx2] at hc
      have tk : List.take i (x.map eB) = x.map eB := List.take_of_length_le (by simp; omega)
      simp -dsimp -implicitDefEqProofs (maxSteps := 1000000) (disch := omega) [condP_pos, condP_neg, optP_pos, decide_eq_true, decide_eq_false, wrap_i64, Int.natCast_inj, -BitVec.toNat_xor, -BitVec.toNat_and, -BitVec.toNat_or, -BitVec.toNat_not, -BitVec.toNat_ushiftRight, -BitVec.toNat_shiftLeft, -BitVec.toNat_mul, -UInt8.toNat_xor, -UInt8.toNat_and, -UInt8.toNat_or, -UInt8.toNat_shiftLeft, -UInt8.toNat_shiftRight, S6, c1, c2, c3, c4, xor64n, hc, hl, tk]
end Go.Vai
