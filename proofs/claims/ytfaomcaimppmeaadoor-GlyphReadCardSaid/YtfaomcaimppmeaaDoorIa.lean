/-
  What functions of layer 5 and of its reference compute: equations of the abstract run.
-/
import Derived.Test.YtfaomcaimppmeaaDoorGa
import Derived.Test.YtfaomcaimppmeaaDoorGc
set_option linter.unusedVariables false
set_option linter.unusedSimpArgs false
set_option linter.unnecessarySimpa false
set_option linter.unusedSectionVars false
namespace Go.Vai
def stepN (v : Int) (x : UInt8) : Int := v * 256 + x.toNat
def beN (l : List UInt8) : Int := l.foldl stepN 0
def tkV (b : List UInt8) (a : Nat) (br : Bool) (n : Nat) : Int × Nat × Bool :=
  if br = true ∨ b.length < a + n then (0, b.length, true) else (beN ((b.drop a).take n), a + n, false)
def rGl (g : Gl) : List AV := [i64 g.1, rw_ (g.2.1.map eOl), .own 3 (g.2.2.map ePc)]
@[simp] theorem rGl_0 (g : Gl) : (rGl g)[0]? = some (i64 g.1) := rfl
@[simp] theorem rGl_1 (g : Gl) : (rGl g)[1]? = some (rw_ (g.2.1.map eOl)) := rfl
@[simp] theorem rGl_2 (g : Gl) : (rGl g)[2]? = some (.own 3 (g.2.2.map ePc)) := rfl
@[simp] theorem namesL_rGl (g : Gl) : AV.namesL (rGl g) = [] := by simp [AV.namesL, AV.names, rGl]
@[simp] theorem renL_rGl (ρ : Nat → Option Nat) (g : Gl) : AV.renL ρ (rGl g) = rGl g := by simp [AV.renL, AV.ren, rGl]
@[simp] theorem rGl_len (g : Gl) : (rGl g).length = 3 := rfl
@[simp] theorem namesLL_rGl : ∀ gs : List Gl, AV.namesLL (gs.map rGl) = []
  | [] => rfl
  | g :: gs => by simp [AV.namesLL, AV.namesL, AV.names, rGl, namesLL_rGl gs]
@[simp] theorem renLL_rGl (ρ : Nat → Option Nat) : ∀ gs : List Gl, AV.renLL ρ (gs.map rGl) = gs.map rGl
  | [] => rfl
  | g :: gs => by simp [AV.renLL, AV.renL, AV.ren, rGl, renLL_rGl ρ gs]
@[simp] theorem namesLL_app (a b : List (List AV)) : AV.namesLL (a ++ b) = AV.namesLL a ++ AV.namesLL b := by
  induction a with
  | nil => rfl
  | cons x a ih => simp [AV.namesLL, ih]
@[simp] theorem renLL_app (ρ : Nat → Option Nat) (a b : List (List AV)) : AV.renLL ρ (a ++ b) = AV.renLL ρ a ++ AV.renLL ρ b := by
  induction a with
  | nil => rfl
  | cons x a ih => simp [AV.renLL, ih]
def rb (b : List UInt8) (a : Nat) (br : Bool) (gs : List Gl) (ps : List Pt) : List (Option Blk) :=
  [some (.box [bs b, i64 a, bo br, .osl 1 3 0 gs.length, .emp, .osl 2 2 0 ps.length]), some (.row 3 (gs.map rGl)), some (.arr 2 (ps.map ePt))]
@[simp] theorem rb_len (b : List UInt8) (a : Nat) (br : Bool) (gs : List Gl) (ps : List Pt) : (rb b a br gs ps).length = 3 := rfl
theorem or64_8 {a b : Int} (h0 : 0 ≤ a) (h1 : a < 2147483584) (hd : a % 256 = 0) (hb0 : 0 ≤ b) (hb : b < 256) : binS .or (.int .i64 a) (.int .i64 b) = some (.int .i64 (a + b)) := by
  simp only [binS]
  rw [or_add _ 8 a b h0 (by simp [IntKind.bits]; omega) hd hb0 hb (by simp [IntKind.bits]; omega), wrap_i64 (by omega) (by omega)]
  simp
theorem u8_lti (x : UInt8) : (x.toNat : Int) < 256 := by have := x.toNat_lt; omega
theorem fold_b : ∀ (l : List UInt8) (v : Int), 0 ≤ v → 0 ≤ l.foldl stepN v ∧ l.foldl stepN v < (v + 1) * 256 ^ l.length
  | [], v, h => by simp; omega
  | x :: l, v, h => by
    have h1 := u8_lti x
    have h2 : 0 ≤ stepN v x := by unfold stepN; omega
    obtain ⟨g1, g2⟩ := fold_b l (stepN v x) h2
    refine ⟨g1, ?_⟩
    simp only [List.foldl_cons, List.length_cons]
    have h3 : stepN v x + 1 ≤ (v + 1) * 256 := by unfold stepN; omega
    calc List.foldl stepN (stepN v x) l < (stepN v x + 1) * 256 ^ l.length := g2
      _ ≤ (v + 1) * 256 * 256 ^ l.length := Int.mul_le_mul_of_nonneg_right h3 (Int.pow_nonneg (by omega))
      _ = (v + 1) * 256 ^ (l.length + 1) := by rw [Int.pow_succ, Int.mul_assoc, Int.mul_comm 256]
variable {v : Env} (hv : v.T = Tt)
include hv
def S93 (b : List UInt8) (gs : List Gl) (ps : List Pt) (n : Nat) (a : Nat × Nat × Int) : St :=
  { sl := [(0, .bp 0 0), (5, i64 a.2.2), (35, i64 n), (36, i64 a.1)], hp := numd 0 (rb b a.2.1 false gs ps), nx := 3 }
theorem run_num (b : List UInt8) (a : Nat) (br : Bool) (n : Nat) (gs : List Gl) (ps : List Pt) (hn : n ≤ 3) (ha : a ≤ b.length) (hb : b.length < 1000000000000000) :
    v.run 93 [.bp 0 0, i64 n] (rb b a br gs ps) = some (i64 (tkV b a br n).1, rb b (tkV b a br n).2.1 (tkV b a br n).2.2 gs ps) := by
  refine run_wp (by rw [hv]; exact rfl) ?_
  by_cases h1 : br = true
  · subst h1
    simp -dsimp -implicitDefEqProofs (maxSteps := 1000000) (disch := omega) [condP_pos, condP_neg, optP_pos, decide_eq_true, decide_eq_false, wrap_i64, Int.natCast_inj, rb, tkV]
  · have h1 : br = false := by simpa using h1
    subst h1
    by_cases h2 : b.length < a + n
    · simp -dsimp -implicitDefEqProofs (maxSteps := 1000000) (disch := omega) [condP_pos, condP_neg, optP_pos, decide_eq_true, decide_eq_false, wrap_i64, Int.natCast_inj, rb, tkV, h2]
    · simp -dsimp -implicitDefEqProofs (maxSteps := 1000000) (disch := omega) [condP_pos, condP_neg, optP_pos, decide_eq_true, decide_eq_false, wrap_i64, Int.natCast_inj, rb, tkV, h2]
      refine wp_inv (S93 b gs ps n) (fun q => q.1 ≤ n ∧ q.2.1 = a + q.1 ∧ 0 ≤ q.2.2 ∧ q.2.2 < 256 ^ q.1 ∧ ((b.drop q.2.1).take (n - q.1)).foldl stepN q.2.2 = beN ((b.drop a).take n)) (fun q => n - q.1) (0, a, 0) ⟨by simp, by simp, by simp, by simp, by simp [beN]⟩ (by simp -dsimp -implicitDefEqProofs (maxSteps := 1000000) (disch := omega) [condP_pos, condP_neg, optP_pos, decide_eq_true, decide_eq_false, wrap_i64, Int.natCast_inj, S93, rb]) ?_
      rintro ⟨i, p, x⟩ ⟨e1, e2, e3, e4, e5⟩
      simp only at e1 e2 e3 e4 e5
      rcases Nat.lt_or_ge i n with hi | hi
      · have hp : p < b.length := by omega
        have hx : b[p]? = some b[p] := List.getElem?_eq_getElem hp
        have hd : (b.drop p).take (n - i) = b[p] :: (b.drop (p + 1)).take (n - (i + 1)) := by
          rw [List.drop_eq_getElem_cons hp, show n - i = (n - (i + 1)) + 1 by omega, List.take_succ_cons]
        rw [hd, List.foldl_cons] at e5
        have hy := u8_lti b[p]
        have hx65 : x < 65536 := by
          have : i = 0 ∨ i = 1 ∨ i = 2 := by omega
          rcases this with rfl | rfl | rfl <;> simp at e4 <;> omega
        have e4' : stepN x b[p] < 256 ^ (i + 1) := by
          have h9 : x * 256 + 256 ≤ 256 ^ i * 256 := by
            have : (x + 1) * 256 ≤ 256 ^ i * 256 := Int.mul_le_mul_of_nonneg_right (by omega) (by omega)
            omega
          rw [Int.pow_succ]; unfold stepN; omega
        simp -dsimp -implicitDefEqProofs (maxSteps := 1000000) (disch := omega) [condP_pos, condP_neg, optP_pos, decide_eq_true, decide_eq_false, wrap_i64, Int.natCast_inj, S93, rb, hp, or64_8]
        refine again (i + 1, p + 1, stepN x b[p]) ⟨by omega, by simp only; omega, by simp only [stepN]; omega, e4', e5⟩ (by simp; omega) ?_
        simp -dsimp -implicitDefEqProofs (maxSteps := 1000000) (disch := omega) [condP_pos, condP_neg, optP_pos, decide_eq_true, decide_eq_false, wrap_i64, Int.natCast_inj, S93, rb, stepN]
      · have hi' : i = n := by omega
        subst hi'
        simp only [Nat.sub_self, List.take_zero, List.foldl_nil] at e5
        subst e5
        simp -dsimp -implicitDefEqProofs (maxSteps := 1000000) (disch := omega) [condP_pos, condP_neg, optP_pos, decide_eq_true, decide_eq_false, wrap_i64, Int.natCast_inj, S93, rb, e2, tkV, h2]
def sgV (b : List UInt8) (a : Nat) (br : Bool) : Int × Nat × Bool :=
  let q := tkV b a br 2
  (if 32767 < q.1 then q.1 - 65536 else q.1, q.2)
omit hv in
theorem tkV_b (b : List UInt8) (a : Nat) (br : Bool) (n : Nat) (ha : a ≤ b.length) (hn : n ≤ 3) : 0 ≤ (tkV b a br n).1 ∧ (tkV b a br n).1 < 256 ^ n ∧ (tkV b a br n).2.1 ≤ b.length ∧ a ≤ (tkV b a br n).2.1 ∧ ((tkV b a br n).2.2 = true → (tkV b a br n).2.1 = b.length) := by
  unfold tkV
  by_cases h : br = true ∨ b.length < a + n
  · rw [if_pos h]
    exact ⟨by simp, by simp; exact Int.pow_pos (by omega), by simp, ha, fun _ => rfl⟩
  · rw [if_neg h]
    rw [not_or] at h
    obtain ⟨g1, g2⟩ := fold_b ((b.drop a).take n) 0 (by omega)
    have hl : ((b.drop a).take n).length = n := by simp; omega
    rw [hl] at g2
    exact ⟨g1, by simpa [beN] using g2, by simp only; omega, by simp only; omega, fun h => by cases h⟩
theorem run_coo (b : List UInt8) (a : Nat) (br : Bool) (gs : List Gl) (ps : List Pt) (ha : a ≤ b.length) (hb : b.length < 1000000000000000) :
    v.run 90 [.bp 0 0] (rb b a br gs ps) = some (i64 (sgV b a br).1, rb b (sgV b a br).2.1 (sgV b a br).2.2 gs ps) := by
  have h1 : v.run 93 [.bp 0 0, i64 2] (rb b a br gs ps) = _ := run_num hv b a br 2 gs ps (by omega) ha hb
  obtain ⟨b1, b2, b3, b4, b5⟩ := tkV_b b a br 2 ha (by omega)
  unfold sgV
  generalize tkV b a br 2 = q at *
  obtain ⟨x, p, c⟩ := q
  simp only at *
  refine run_wp (by rw [hv]; exact rfl) ?_
  unfold rb at h1
  simp at b2
  by_cases h2 : 32767 < x <;> simp -dsimp -implicitDefEqProofs (maxSteps := 1000000) (disch := omega) [condP_pos, condP_neg, optP_pos, decide_eq_true, decide_eq_false, wrap_i64, Int.natCast_inj, rb, h1, h2]
def ptV (b : List UInt8) (a : Nat) (br : Bool) : Pt × Nat × Bool :=
  let q := sgV b a br
  let r := sgV b q.2.1 q.2.2
  ((q.1, r.1), r.2)
omit hv in
theorem sgV_b (b : List UInt8) (a : Nat) (br : Bool) (ha : a ≤ b.length) : -32768 ≤ (sgV b a br).1 ∧ (sgV b a br).1 ≤ 32767 ∧ (sgV b a br).2.1 ≤ b.length ∧ a ≤ (sgV b a br).2.1 ∧ ((sgV b a br).2.2 = true → (sgV b a br).2.1 = b.length) := by
  obtain ⟨b1, b2, b3, b4, b5⟩ := tkV_b b a br 2 ha (by omega)
  unfold sgV
  simp only
  simp at b2
  refine ⟨?_, ?_, b3, b4, b5⟩ <;> split <;> omega
theorem run_pt (b : List UInt8) (a : Nat) (br : Bool) (gs : List Gl) (ps : List Pt) (ha : a ≤ b.length) (hb : b.length < 1000000000000000) :
    v.run 103 [.bp 0 0] (rb b a br gs ps) = some (.tup [.agg [i64 (ptV b a br).1.1, i64 (ptV b a br).1.2], bo (!(ptV b a br).2.2)], rb b (ptV b a br).2.1 (ptV b a br).2.2 gs ps) := by
  have h1 := run_coo hv b a br gs ps ha hb
  obtain ⟨_, _, b3, _, _⟩ := sgV_b b a br ha
  unfold ptV
  generalize sgV b a br = q at *
  obtain ⟨x, p, c⟩ := q
  simp only at *
  have h2 := run_coo hv b p c gs ps b3 hb
  generalize sgV b p c = r at *
  obtain ⟨y, p2, c2⟩ := r
  simp only at *
  refine run_wp (by rw [hv]; exact rfl) ?_
  unfold rb at h1 h2
  simp -dsimp -implicitDefEqProofs (maxSteps := 1000000) (disch := omega) [condP_pos, condP_neg, optP_pos, decide_eq_true, decide_eq_false, wrap_i64, Int.natCast_inj, rb, h1, h2]
end Go.Vai

set_option linter.unusedVariables false
set_option linter.unusedSimpArgs false
set_option linter.unnecessarySimpa false
set_option linter.unusedSectionVars false
namespace Go.Vai
abbrev Cu := Nat × Bool
def ptsV (b : List UInt8) : Nat → Cu → List Pt × Cu
  | 0, c => ([], c)
  | n + 1, c => let q := ptV b c.1 c.2
    if q.2.2 = true then ([], q.2) else let r := ptsV b n q.2; (q.1 :: r.1, r.2)
def olsV (b : List UInt8) : Nat → Nat → Cu → List Ol × Cu
  | 0, _, c => ([], c)
  | n + 1, i, c => let k := tkV b c.1 c.2 1
    if k.2.2 = true then ([], k.2) else let o := ptsV b k.1.toNat k.2; let r := olsV b n (i + 1) o.2
      (if i < 64 then o.1 :: r.1 else r.1, r.2)
def pcsV (b : List UInt8) : Nat → Nat → Cu → List Pc × Cu
  | 0, _, c => ([], c)
  | n + 1, i, c => let k := tkV b c.1 c.2 2; let q := ptV b k.2.1 k.2.2
    if q.2.2 = true then ([], q.2) else let r := pcsV b n (i + 1) q.2
      (if i < 32 then (k.1, q.1) :: r.1 else r.1, r.2)
def glV (b : List UInt8) (c : Cu) : Gl × Cu :=
  let a := sgV b c.1 c.2
  let m := tkV b a.2.1 a.2.2 1
  let o := olsV b m.1.toNat 0 m.2
  let k := tkV b o.2.1 o.2.2 1
  let p := pcsV b k.1.toNat 0 k.2
  ((a.1, o.1, p.1), p.2)
def okC (b : List UInt8) (c : Cu) : Prop := c.1 ≤ b.length ∧ (c.2 = true → c.1 = b.length)
theorem tkV_ok {b : List UInt8} {c : Cu} (h : okC b c) (n : Nat) (hn : n ≤ 3) : okC b (tkV b c.1 c.2 n).2 ∧ c.1 ≤ (tkV b c.1 c.2 n).2.1 :=
  let ⟨_, _, b3, b4, b5⟩ := tkV_b b c.1 c.2 n h.1 hn
  ⟨⟨b3, b5⟩, b4⟩
theorem sgV_ok {b : List UInt8} {c : Cu} (h : okC b c) : okC b (sgV b c.1 c.2).2 ∧ c.1 ≤ (sgV b c.1 c.2).2.1 :=
  let ⟨_, _, b3, b4, b5⟩ := sgV_b b c.1 c.2 h.1
  ⟨⟨b3, b5⟩, b4⟩
theorem ptV_ok {b : List UInt8} {c : Cu} (h : okC b c) : okC b (ptV b c.1 c.2).2 ∧ c.1 ≤ (ptV b c.1 c.2).2.1 := by
  obtain ⟨h1, h2⟩ := sgV_ok h
  obtain ⟨h3, h4⟩ := sgV_ok h1
  exact ⟨h3, by unfold ptV; simp only; omega⟩
theorem ptsV_ok {b : List UInt8} : ∀ (n : Nat) {c : Cu}, okC b c → okC b (ptsV b n c).2 ∧ c.1 ≤ (ptsV b n c).2.1 ∧ (ptsV b n c).1.length ≤ n
  | 0, c, h => ⟨h, Nat.le_refl _, Nat.le_refl _⟩
  | n + 1, c, h => by
    obtain ⟨h1, h2⟩ := ptV_ok h
    unfold ptsV
    simp only
    split
    · exact ⟨h1, h2, by simp⟩
    · obtain ⟨g1, g2, g3⟩ := ptsV_ok n h1
      exact ⟨g1, by simp only; omega, by simp; omega⟩
theorem olsV_ok {b : List UInt8} : ∀ (n i : Nat) {c : Cu}, okC b c → okC b (olsV b n i c).2 ∧ c.1 ≤ (olsV b n i c).2.1 ∧ (olsV b n i c).1.length ≤ n
  | 0, _, c, h => ⟨h, Nat.le_refl _, Nat.le_refl _⟩
  | n + 1, i, c, h => by
    obtain ⟨h1, h2⟩ := tkV_ok h 1 (by omega)
    unfold olsV
    simp only
    split
    · exact ⟨h1, h2, by simp⟩
    · obtain ⟨g1, g2, g3⟩ := ptsV_ok (tkV b c.1 c.2 1).1.toNat h1
      obtain ⟨k1, k2, k3⟩ := olsV_ok n (i + 1) g1
      refine ⟨k1, by simp only; omega, ?_⟩
      simp only
      split
      · simp; omega
      · omega
theorem pcsV_ok {b : List UInt8} : ∀ (n i : Nat) {c : Cu}, okC b c → okC b (pcsV b n i c).2 ∧ c.1 ≤ (pcsV b n i c).2.1 ∧ (pcsV b n i c).1.length ≤ n
  | 0, _, c, h => ⟨h, Nat.le_refl _, Nat.le_refl _⟩
  | n + 1, i, c, h => by
    obtain ⟨h1, h2⟩ := tkV_ok h 2 (by omega)
    obtain ⟨g1, g2⟩ := ptV_ok h1
    unfold pcsV
    simp only
    split
    · exact ⟨g1, by simp only; omega, by simp⟩
    · obtain ⟨k1, k2, k3⟩ := pcsV_ok n (i + 1) g1
      refine ⟨k1, by simp only; omega, ?_⟩
      simp only
      split
      · simp; omega
      · omega
variable {v : Env} (hv : v.T = Tt)
include hv
def S91 (b : List UInt8) (gs : List Gl) (ps : List Pt) (m : Nat) (a : Nat × Cu × List Ol) : St :=
  { sl := [(0, .bp 0 0), (3, .osl 3 1 0 a.2.2.length), (11, i64 m), (12, i64 a.1)], hp := numd 0 (rb b a.2.1.1 a.2.1.2 gs ps ++ [some (.arr 1 (a.2.2.map eOl))]), nx := 4 }
def T91 (b : List UInt8) (gs : List Gl) (ps : List Pt) (m i : Nat) (acc : List Ol) (k : Nat) (a : Nat × Cu × List Pt) : St :=
  { sl := [(0, .bp 0 0), (3, .osl 3 1 0 acc.length), (5, .osl 4 2 0 a.2.2.length), (11, i64 m), (12, i64 i), (23, i64 k), (24, i64 a.1)],
    hp := numd 0 (rb b a.2.1.1 a.2.1.2 gs ps ++ [some (.arr 1 (acc.map eOl)), some (.arr 2 (a.2.2.map ePt))]), nx := 5 }
theorem run_ols (b : List UInt8) (c : Cu) (gs : List Gl) (ps : List Pt) (hc : okC b c) (hb : b.length < 1000000000000000) :
    v.run 91 [.bp 0 0] (rb b c.1 c.2 gs ps) = some (rw_ ((olsV b (tkV b c.1 c.2 1).1.toNat 0 (tkV b c.1 c.2 1).2).1.map eOl), rb b (olsV b (tkV b c.1 c.2 1).1.toNat 0 (tkV b c.1 c.2 1).2).2.1 (olsV b (tkV b c.1 c.2 1).1.toNat 0 (tkV b c.1 c.2 1).2).2.2 gs ps) := by
  have h0 : v.run 93 [.bp 0 0, i64 1] (rb b c.1 c.2 gs ps) = _ := run_num hv b c.1 c.2 1 gs ps (by omega) hc.1 hb
  obtain ⟨ck, _⟩ := tkV_ok hc 1 (by omega)
  obtain ⟨n0, n1, _, _, _⟩ := tkV_b b c.1 c.2 1 hc.1 (by omega)
  generalize tkV b c.1 c.2 1 = q at *
  obtain ⟨mz, c1⟩ := q
  obtain ⟨m, rfl⟩ := Int.eq_ofNat_of_zero_le n0
  simp only [Int.toNat_natCast] at *
  simp at n1
  generalize hW : olsV b m 0 c1 = W
  refine run_wp (by rw [hv]; exact rfl) ?_
  unfold rb at h0
  simp -dsimp -implicitDefEqProofs (maxSteps := 1000000) (disch := omega) [condP_pos, condP_neg, optP_pos, decide_eq_true, decide_eq_false, wrap_i64, Int.natCast_inj, rb, h0]
  refine wp_inv (S91 b gs ps m) (fun a => a.1 ≤ m ∧ okC b a.2.1 ∧ a.2.2.length ≤ a.1 ∧ (a.2.2.length < 64 → a.2.2.length = a.1) ∧ (a.2.2.length < 64 ∨ 64 ≤ a.1) ∧ (a.2.2 ++ (olsV b (m - a.1) a.1 a.2.1).1, (olsV b (m - a.1) a.1 a.2.1).2) = W) (fun a => m - a.1) (0, c1, []) ⟨by simp, ck, by simp, by simp, by simp, by simpa using hW⟩ (by simp -dsimp -implicitDefEqProofs (maxSteps := 1000000) (disch := omega) [condP_pos, condP_neg, optP_pos, decide_eq_true, decide_eq_false, wrap_i64, Int.natCast_inj, S91, rb]) ?_
  rintro ⟨i, d, acc⟩ ⟨e1, e2, e3, e4, e5, e6⟩
  simp only at e1 e2 e3 e4 e5 e6
  rcases Nat.lt_or_ge i m with hi | hi
  · have h1 : v.run 93 [.bp 0 0, i64 1] (rb b d.1 d.2 gs ps) = _ := run_num hv b d.1 d.2 1 gs ps (by omega) e2.1 hb
    obtain ⟨dk, _⟩ := tkV_ok e2 1 (by omega)
    obtain ⟨k0, k1, _, _, _⟩ := tkV_b b d.1 d.2 1 e2.1 (by omega)
    rw [show m - i = (m - (i + 1)) + 1 by omega, olsV] at e6
    simp only at e6
    generalize tkV b d.1 d.2 1 = q at *
    obtain ⟨kz, p1, p2⟩ := q
    obtain ⟨k, rfl⟩ := Int.eq_ofNat_of_zero_le k0
    simp only [Int.toNat_natCast] at *
    simp at k1
    unfold rb at h1
    cases p2 with
    | true =>
      simp only [if_true, List.append_nil] at e6
      subst e6
      simp -dsimp -implicitDefEqProofs (maxSteps := 1000000) (disch := omega) [condP_pos, condP_neg, optP_pos, decide_eq_true, decide_eq_false, wrap_i64, Int.natCast_inj, S91, rb, h1]
    | false =>
      simp only [Bool.false_eq_true, if_false] at e6
      generalize hO : ptsV b k (p1, false) = O at e6
      simp -dsimp -implicitDefEqProofs (maxSteps := 1000000) (disch := omega) [condP_pos, condP_neg, optP_pos, decide_eq_true, decide_eq_false, wrap_i64, Int.natCast_inj, S91, rb, h1]
      refine wp_inv (T91 b gs ps m i acc k) (fun a => a.1 ≤ k ∧ okC b a.2.1 ∧ a.2.2.length ≤ a.1 ∧ (a.2.2 ++ (ptsV b (k - a.1) a.2.1).1, (ptsV b (k - a.1) a.2.1).2) = O) (fun a => k - a.1) (0, (p1, false), []) ⟨by simp, dk, by simp, by simpa using hO⟩ (by simp -dsimp -implicitDefEqProofs (maxSteps := 1000000) (disch := omega) [condP_pos, condP_neg, optP_pos, decide_eq_true, decide_eq_false, wrap_i64, Int.natCast_inj, T91, rb]) ?_
      rintro ⟨j, c3, o⟩ ⟨f1, f2, f3, f4⟩
      simp only at f1 f2 f3 f4
      -- what is done behind the points
      rcases Nat.lt_or_ge j k with hj | hj
      · have h2 := run_pt hv b c3.1 c3.2 gs ps f2.1 hb
        obtain ⟨pk, _⟩ := ptV_ok f2
        rw [show k - j = (k - (j + 1)) + 1 by omega, ptsV] at f4
        simp only at f4
        generalize ptV b c3.1 c3.2 = q at *
        obtain ⟨pt, r1, r2⟩ := q
        simp only at *
        unfold rb at h2
        cases r2 with
        | true =>
          simp only [if_true, List.append_nil] at f4
          subst f4
          by_cases ha : acc.length < 64
          · have hi64 : i < 64 := by have := e4 ha; omega
            simp -dsimp -implicitDefEqProofs (maxSteps := 1000000) (disch := omega) [condP_pos, condP_neg, optP_pos, decide_eq_true, decide_eq_false, wrap_i64, Int.natCast_inj, T91, rb, h2, ha]
            refine again (i + 1, (r1, true), acc ++ [o]) ⟨by simp only; omega, pk, by simp; omega, by simp; omega, by simp; omega, by simpa [hi64] using e6⟩ (by simp; omega) ?_
            simp -dsimp -implicitDefEqProofs (maxSteps := 1000000) (disch := omega) [condP_pos, condP_neg, optP_pos, decide_eq_true, decide_eq_false, wrap_i64, Int.natCast_inj, S91, rb, eOl]
          · have hi64 : ¬ i < 64 := by omega
            simp -dsimp -implicitDefEqProofs (maxSteps := 1000000) (disch := omega) [condP_pos, condP_neg, optP_pos, decide_eq_true, decide_eq_false, wrap_i64, Int.natCast_inj, T91, rb, h2, ha]
            refine again (i + 1, (r1, true), acc) ⟨by simp only; omega, pk, by simp only; omega, by simp only; omega, by simp only; omega, by simpa [hi64] using e6⟩ (by simp; omega) ?_
            simp -dsimp -implicitDefEqProofs (maxSteps := 1000000) (disch := omega) [condP_pos, condP_neg, optP_pos, decide_eq_true, decide_eq_false, wrap_i64, Int.natCast_inj, S91, rb]
        | false =>
          simp only [Bool.false_eq_true, if_false] at f4
          simp -dsimp -implicitDefEqProofs (maxSteps := 1000000) (disch := omega) [condP_pos, condP_neg, optP_pos, decide_eq_true, decide_eq_false, wrap_i64, Int.natCast_inj, T91, rb, h2]
          refine again (j + 1, (r1, false), o ++ [pt]) ⟨by simp only; omega, pk, by simp; omega, by simpa using f4⟩ (by simp; omega) ?_
          simp -dsimp -implicitDefEqProofs (maxSteps := 1000000) (disch := omega) [condP_pos, condP_neg, optP_pos, decide_eq_true, decide_eq_false, wrap_i64, Int.natCast_inj, T91, rb, ePt]
      · have hjk : j = k := by omega
        subst hjk
        simp only [Nat.sub_self, ptsV, List.append_nil] at f4
        subst f4
        by_cases ha : acc.length < 64
        · have hi64 : i < 64 := by have := e4 ha; omega
          simp -dsimp -implicitDefEqProofs (maxSteps := 1000000) (disch := omega) [condP_pos, condP_neg, optP_pos, decide_eq_true, decide_eq_false, wrap_i64, Int.natCast_inj, T91, rb, ha]
          refine again (i + 1, c3, acc ++ [o]) ⟨by simp only; omega, f2, by simp; omega, by simp; omega, by simp; omega, by simpa [hi64] using e6⟩ (by simp; omega) ?_
          simp -dsimp -implicitDefEqProofs (maxSteps := 1000000) (disch := omega) [condP_pos, condP_neg, optP_pos, decide_eq_true, decide_eq_false, wrap_i64, Int.natCast_inj, S91, rb, eOl]
        · have hi64 : ¬ i < 64 := by omega
          simp -dsimp -implicitDefEqProofs (maxSteps := 1000000) (disch := omega) [condP_pos, condP_neg, optP_pos, decide_eq_true, decide_eq_false, wrap_i64, Int.natCast_inj, T91, rb, ha]
          refine again (i + 1, c3, acc) ⟨by simp only; omega, f2, by simp only; omega, by simp only; omega, by simp only; omega, by simpa [hi64] using e6⟩ (by simp; omega) ?_
          simp -dsimp -implicitDefEqProofs (maxSteps := 1000000) (disch := omega) [condP_pos, condP_neg, optP_pos, decide_eq_true, decide_eq_false, wrap_i64, Int.natCast_inj, S91, rb]
  · have him : i = m := by omega
    subst him
    simp only [Nat.sub_self, olsV, List.append_nil] at e6
    subst e6
    simp -dsimp -implicitDefEqProofs (maxSteps := 1000000) (disch := omega) [condP_pos, condP_neg, optP_pos, decide_eq_true, decide_eq_false, wrap_i64, Int.natCast_inj, S91, rb]
end Go.Vai

set_option linter.unusedVariables false
set_option linter.unusedSimpArgs false
set_option linter.unnecessarySimpa false
set_option linter.unusedSectionVars false
namespace Go.Vai
variable {v : Env} (hv : v.T = Tt)
include hv
def S92 (b : List UInt8) (gs : List Gl) (ps : List Pt) (m : Nat) (a : Nat × Cu × List Pc) : St :=
  { sl := [(0, .bp 0 0), (3, .osl 3 3 0 a.2.2.length), (10, i64 m), (11, i64 a.1)], hp := numd 0 (rb b a.2.1.1 a.2.1.2 gs ps ++ [some (.arr 3 (a.2.2.map ePc))]), nx := 4 }
theorem run_pcs (b : List UInt8) (c : Cu) (gs : List Gl) (ps : List Pt) (hc : okC b c) (hb : b.length < 1000000000000000) :
    v.run 92 [.bp 0 0] (rb b c.1 c.2 gs ps) = some (.osl 3 3 0 (pcsV b (tkV b c.1 c.2 1).1.toNat 0 (tkV b c.1 c.2 1).2).1.length, rb b (pcsV b (tkV b c.1 c.2 1).1.toNat 0 (tkV b c.1 c.2 1).2).2.1 (pcsV b (tkV b c.1 c.2 1).1.toNat 0 (tkV b c.1 c.2 1).2).2.2 gs ps ++ [some (.arr 3 ((pcsV b (tkV b c.1 c.2 1).1.toNat 0 (tkV b c.1 c.2 1).2).1.map ePc))]) := by
  have h0 : v.run 93 [.bp 0 0, i64 1] (rb b c.1 c.2 gs ps) = _ := run_num hv b c.1 c.2 1 gs ps (by omega) hc.1 hb
  obtain ⟨ck, _⟩ := tkV_ok hc 1 (by omega)
  obtain ⟨n0, n1, _, _, _⟩ := tkV_b b c.1 c.2 1 hc.1 (by omega)
  generalize tkV b c.1 c.2 1 = q at *
  obtain ⟨mz, c1⟩ := q
  obtain ⟨m, rfl⟩ := Int.eq_ofNat_of_zero_le n0
  simp only [Int.toNat_natCast] at *
  simp at n1
  generalize hW : pcsV b m 0 c1 = W
  refine run_wp (by rw [hv]; exact rfl) ?_
  unfold rb at h0
  simp -dsimp -implicitDefEqProofs (maxSteps := 1000000) (disch := omega) [condP_pos, condP_neg, optP_pos, decide_eq_true, decide_eq_false, wrap_i64, Int.natCast_inj, rb, h0]
  refine wp_inv (S92 b gs ps m) (fun a => a.1 ≤ m ∧ okC b a.2.1 ∧ a.2.2.length ≤ a.1 ∧ (a.2.2.length < 32 → a.2.2.length = a.1) ∧ (a.2.2.length < 32 ∨ 32 ≤ a.1) ∧ (a.2.2 ++ (pcsV b (m - a.1) a.1 a.2.1).1, (pcsV b (m - a.1) a.1 a.2.1).2) = W) (fun a => m - a.1) (0, c1, []) ⟨by simp, ck, by simp, by simp, by simp, by simpa using hW⟩ (by simp -dsimp -implicitDefEqProofs (maxSteps := 1000000) (disch := omega) [condP_pos, condP_neg, optP_pos, decide_eq_true, decide_eq_false, wrap_i64, Int.natCast_inj, S92, rb]) ?_
  rintro ⟨i, d, acc⟩ ⟨e1, e2, e3, e4, e5, e6⟩
  simp only at e1 e2 e3 e4 e5 e6
  rcases Nat.lt_or_ge i m with hi | hi
  · have h1 : v.run 93 [.bp 0 0, i64 2] (rb b d.1 d.2 gs ps) = _ := run_num hv b d.1 d.2 2 gs ps (by omega) e2.1 hb
    obtain ⟨dk, _⟩ := tkV_ok e2 2 (by omega)
    rw [show m - i = (m - (i + 1)) + 1 by omega, pcsV] at e6
    simp only at e6
    generalize tkV b d.1 d.2 2 = q at *
    obtain ⟨k, p1, p2⟩ := q
    simp only at *
    have h2 := run_pt hv b p1 p2 gs ps dk.1 hb
    obtain ⟨pk, _⟩ := ptV_ok dk
    simp only at pk
    generalize ptV b p1 p2 = q at *
    obtain ⟨pt, r1, r2⟩ := q
    simp only at *
    unfold rb at h1 h2
    cases r2 with
    | true =>
      simp only [if_true, List.append_nil] at e6
      subst e6
      simp -dsimp -implicitDefEqProofs (maxSteps := 1000000) (disch := omega) [condP_pos, condP_neg, optP_pos, decide_eq_true, decide_eq_false, wrap_i64, Int.natCast_inj, S92, rb, h1, h2]
      done
    | false =>
      simp only [Bool.false_eq_true, if_false] at e6
      by_cases ha : acc.length < 32
      · have hi32 : i < 32 := by have := e4 ha; omega
        simp -dsimp -implicitDefEqProofs (maxSteps := 1000000) (disch := omega) [condP_pos, condP_neg, optP_pos, decide_eq_true, decide_eq_false, wrap_i64, Int.natCast_inj, S92, rb, h1, h2, ha]
        refine again (i + 1, (r1, false), acc ++ [(k, pt)]) ⟨by simp only; omega, pk, by simp; omega, by simp; omega, by simp; omega, by simpa [hi32] using e6⟩ (by simp; omega) ?_
        simp -dsimp -implicitDefEqProofs (maxSteps := 1000000) (disch := omega) [condP_pos, condP_neg, optP_pos, decide_eq_true, decide_eq_false, wrap_i64, Int.natCast_inj, S92, rb, ePc]
      · have hi32 : ¬ i < 32 := by omega
        simp -dsimp -implicitDefEqProofs (maxSteps := 1000000) (disch := omega) [condP_pos, condP_neg, optP_pos, decide_eq_true, decide_eq_false, wrap_i64, Int.natCast_inj, S92, rb, h1, h2, ha]
        refine again (i + 1, (r1, false), acc) ⟨by simp only; omega, pk, by simp only; omega, by simp only; omega, by simp only; omega, by simpa [hi32] using e6⟩ (by simp; omega) ?_
        simp -dsimp -implicitDefEqProofs (maxSteps := 1000000) (disch := omega) [condP_pos, condP_neg, optP_pos, decide_eq_true, decide_eq_false, wrap_i64, Int.natCast_inj, S92, rb]
  · have him : i = m := by omega
    subst him
    simp only [Nat.sub_self, pcsV, List.append_nil] at e6
    subst e6
    simp -dsimp -implicitDefEqProofs (maxSteps := 1000000) (disch := omega) [condP_pos, condP_neg, optP_pos, decide_eq_true, decide_eq_false, wrap_i64, Int.natCast_inj, S92, rb]
    done
def putG (gs : List Gl) (g : Gl) : List Gl := if gs.length < 1000 then gs ++ [g] else gs
def putP (ps : List Pt) (p : Pt) (br : Bool) : List Pt := if br = true then ps else ps ++ [p]
set_option maxHeartbeats 4000000 in
theorem run_74 (b : List UInt8) (c : Cu) (gs : List Gl) (ps : List Pt) (hc : okC b c) (hb : b.length < 1000000000000000) :
    ∃ bl, v.run 74 [.bp 0 0] (rb b c.1 c.2 gs ps) = some (.tup [], bl) ∧ (if gs.length < 1000 then bl = [some (.box [bs b, i64 (glV b c).2.1, bo (glV b c).2.2, .osl 3 3 0 (gs.length + 1), .emp, .osl 2 2 0 ps.length]), none, some (.arr 2 (ps.map ePt)), some (.row 3 ((gs ++ [(glV b c).1]).map rGl))]
      else bl = rb b (glV b c).2.1 (glV b c).2.2 gs ps) := by
  have h1 := run_coo hv b c.1 c.2 gs ps hc.1 hb
  obtain ⟨k1, _⟩ := sgV_ok hc
  unfold glV
  simp only
  generalize sgV b c.1 c.2 = a at *
  obtain ⟨adv, c1⟩ := a
  simp only at *
  have h2 := run_ols hv b c1 gs ps k1 hb
  obtain ⟨k2, _⟩ := tkV_ok k1 1 (by omega)
  obtain ⟨k3, _, _⟩ := olsV_ok (tkV b c1.1 c1.2 1).1.toNat 0 k2
  generalize olsV b (tkV b c1.1 c1.2 1).1.toNat 0 (tkV b c1.1 c1.2 1).2 = o at *
  obtain ⟨ols, c2⟩ := o
  simp only at *
  have h3 := run_pcs hv b c2 gs ps k3 hb
  generalize pcsV b (tkV b c2.1 c2.2 1).1.toNat 0 (tkV b c2.1 c2.2 1).2 = o at *
  obtain ⟨pcs, c3⟩ := o
  simp only at *
  unfold rb at h1 h2 h3
  by_cases hg : gs.length < 1000
  · simp only [if_pos hg]
    refine ⟨_, ?_, rfl⟩
    refine run_wp (by rw [hv]; exact rfl) ?_
    simp -dsimp -implicitDefEqProofs (maxSteps := 1000000) (disch := omega) [condP_pos, condP_neg, optP_pos, decide_eq_true, decide_eq_false, wrap_i64, Int.natCast_inj, rb, h1, h2, h3, hg]
    simp [rGl]
  · simp only [if_neg hg]
    obtain ⟨pre, g, rfl⟩ : ∃ pre g, gs = pre ++ [g] := by
      rcases List.eq_nil_or_concat gs with rfl | ⟨pre, g, h⟩
      · simp at hg
      · exact ⟨pre, g, by simpa using h⟩
    have hp : ¬ pre.length + 1 < 1000 := by simpa using hg
    have hlt : ¬ ((pre.length : Int) + 1 < 1000) := by omega
    simp only [List.map_append, List.map_cons, List.map_nil, List.length_append, List.length_cons, List.length_nil, Nat.zero_add] at h1 h2 h3
    refine ⟨_, ?_, rfl⟩
    refine run_wp (by rw [hv]; exact rfl) ?_
    simp -dsimp -implicitDefEqProofs (maxSteps := 1000000) (disch := omega) [condP_pos, condP_neg, optP_pos, decide_eq_true, decide_eq_false, wrap_i64, Int.natCast_inj, rb, h1, h2, h3, hlt]
end Go.Vai
