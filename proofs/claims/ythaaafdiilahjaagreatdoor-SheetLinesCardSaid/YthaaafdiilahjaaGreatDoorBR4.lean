/-
  What functions of layer 9 and of its reference compute: equations of the abstract run, and plain laws of them.
-/
import Derived.Test.YthaaafdiilahjaaGreatDoorBR1
set_option linter.unusedVariables false
set_option linter.unusedSimpArgs false
set_option linter.unnecessarySimpa false
set_option linter.unusedSectionVars false
namespace Go.Vai
variable {m : Int} {e3 e4 : Value}
def rcB (s : RS) : List (Option Blk) := [some (.box [.emp, .osl 1 1 0 s.wid.length, .osl 2 1 0 s.mac.length]), some (.arr 1 (s.wid.map eIn)), some (.arr 1 (s.mac.map eTx)), some (.box [.mp 4]), some (.map (s.tab.map eEnt) s.cnt)]
def rcO (s : RS) : LK → List (Option Blk)
 | .mac t => [some (.box [.emp, .osl 1 1 0 s.wid.length, .osl 5 1 0 (s.mac ++ [t]).length]), some (.arr 1 (s.wid.map eIn)), none, some (.box [.mp 4]), some (.map (s.tab.map eEnt) s.cnt), some (.arr 1 ((s.mac ++ [t]).map eTx))]
 | k => rcB (stepE s k)
theorem run_round (s : RS) (l : List UInt8) (hl : l.length ≤ 1000000000000) (hw : s.wid.length = 26) (hm : s.mac.length ≤ 1000000000000) (hn : nodC (s.tab.map (·.2))) : (W m e3 e4).run 8364047 [.tup [.bm 9 [.bp 0 0], .bm 10 [.bp 3 0]], bs l] (rcB s) = some (.tup [], rcO s (lineK l)) := by
 have h := run_read (m := m) (e3 := e3) (e4 := e4) s l hl hw hm hn
 refine round_wp (by rw [W_T]; exact rfl) rfl ?_
 cases hk : lineK l with
 | cel x =>
  rw [hk] at h
  simp only [rdO, rsB, stepE] at h
  simp -dsimp -implicitDefEqProofs (maxSteps := 1000000) (disch := omega) [ST, rcB, rcO, stepE, h]
 | mac t =>
  rw [hk] at h
  simp only [rdO, rsB] at h
  simp -dsimp -implicitDefEqProofs (maxSteps := 1000000) (disch := omega) [ST, rcB, rcO, h]
 | wid i n =>
  rw [hk] at h
  simp only [rdO, rsB, stepE] at h
  simp -dsimp -implicitDefEqProofs (maxSteps := 1000000) (disch := omega) [ST, rcB, rcO, stepE, h]
 | non =>
  rw [hk] at h
  simp only [rdO, rsB, stepE] at h
  simp -dsimp -implicitDefEqProofs (maxSteps := 1000000) (disch := omega) [ST, rcB, rcO, stepE, h]
def splitG : List UInt8 → List (List UInt8)
 | [] => [[]]
 | b :: r => if b = 10 then [] :: splitG r else match splitG r with
  | [] => [[b]]
  | h :: t => (b :: h) :: t
theorem splitG_ne : ∀ l, splitG l ≠ []
 | [] => by simp [splitG]
 | b :: r => by
  unfold splitG
  split
  ·simp
  ·split <;> simp
theorem splitG_cons (b : UInt8) (r : List UInt8) : splitG (b :: r) = if b = 10 then [] :: splitG r else match splitG r with
 | [] => [[b]]
 | h :: t => (b :: h) :: t := by rw [splitG]
theorem cutP_cons (c b : UInt8) (r : List UInt8) : cutP c (b :: r) = if b = c then 0 else cutP c r + 1 := by rw [cutP]
theorem splitG_cut : ∀ l, splitG l = if 10 ∈ l then l.take (cutP 10 l) :: splitG (l.drop (cutP 10 l + 1)) else [l]
 | [] => rfl
 | b :: r => by
  rw [splitG_cons, cutP_cons]
  by_cases h : b = 10
  ·subst h; simp
  ·have h' : ¬ (10 : UInt8) = b := fun e => h e.symm
   rw [if_neg h, if_neg h, splitG_cut r]
   simp only [List.mem_cons, h', false_or]
   by_cases hm : (10 : UInt8) ∈ r
   ·rw [if_pos hm, if_pos hm, List.drop_succ_cons, List.take_succ_cons]
   ·rw [if_neg hm, if_neg hm]
def foldE (s : RS) (L : List (List UInt8)) : RS := L.foldl (fun s l => stepE s (lineK l)) s
def rsOk (s : RS) : Prop := s.wid.length = 26 ∧ nodC (s.tab.map (·.2))
theorem putE_tab (L : List (Nat × Cel)) (c : Nat) (x : Cel) : (putE L c x).map (·.2) = tabC (L.map (·.2)) x := by
 unfold putE tabC
 split
 ·rw [List.filter_map]; rfl
 ·rw [List.map_append, List.filter_map]; rfl
theorem step_ok {s : RS} (h : rsOk s) (k : LK) : rsOk (stepE s k) := by
 obtain ⟨h1, h2⟩ := h
 cases k with
 | cel x => exact ⟨h1, by simp only [stepE]; rw [putE_tab]; exact nod_tab h2 x⟩
 | mac t => exact ⟨h1, h2⟩
 | wid i n => exact ⟨by simp [stepE, h1], h2⟩
 | non => exact ⟨h1, h2⟩
theorem step_mac (s : RS) (k : LK) : (stepE s k).mac.length ≤ s.mac.length + 1 := by
 cases k <;> simp [stepE]
def sqB (f : Bool) (s : RS) (l : List UInt8) : List (Option Blk) := match f with
 | false => [some (.loop 8364047 [(9, .bp 1 0), (10, .bp 4 0)] none), some (.box [.emp, .osl 2 1 0 s.wid.length, .osl 3 1 0 s.mac.length]), some (.arr 1 (s.wid.map eIn)), some (.arr 1 (s.mac.map eTx)), some (.box [.mp 5]), some (.map (s.tab.map eEnt) s.cnt), some (.box [bs [10]]), some (.box [bs l]), some (.box [i64 0])]
 | true => [some (.loop 8364047 [(9, .bp 1 0), (10, .bp 4 0)] none), some (.box [.emp, .osl 2 1 0 s.wid.length, .osl 9 1 0 s.mac.length]), some (.arr 1 (s.wid.map eIn)), none, some (.box [.mp 5]), some (.map (s.tab.map eEnt) s.cnt), some (.box [bs [10]]), some (.box [bs l]), some (.box [i64 0]), some (.arr 1 (s.mac.map eTx))]
def isMac : LK → Bool
 | .mac _ => true
 | _ => false
def S103 (a : Bool × RS × List UInt8) : St := { sl := [(0, .yl 0), (1, .bp 6 0), (2, .bp 7 0), (3, .bp 8 0)], hp := numd 0 (sqB a.1 a.2.1 a.2.2), nx := (sqB a.1 a.2.1 a.2.2).length }
def anyM (l : List UInt8) : Bool := (splitG l).any fun x => isMac (lineK x)
def lastG (l : List UInt8) : List UInt8 := (splitG l).getLast (splitG_ne l)
theorem anyM_no {l : List UInt8} (h : ¬ (10 : UInt8) ∈ l) : anyM l = isMac (lineK l) := by unfold anyM; rw [splitG_cut, if_neg h]; simp
theorem anyM_yes {l : List UInt8} (h : (10 : UInt8) ∈ l) : anyM l = (isMac (lineK (l.take (cutP 10 l))) || anyM (l.drop (cutP 10 l + 1))) := by unfold anyM; rw [splitG_cut, if_pos h]; simp
theorem lastG_no {l : List UInt8} (h : ¬ (10 : UInt8) ∈ l) : lastG l = l := by
 have : ∀ L (hL : L ≠ []), L = [l] → L.getLast hL = l := by rintro _ _ rfl; rfl
 exact this _ _ (by rw [splitG_cut, if_neg h])
theorem lastG_yes {l : List UInt8} (h : (10 : UInt8) ∈ l) : lastG l = lastG (l.drop (cutP 10 l + 1)) := by
 have : ∀ (L : List (List UInt8)) (hL : L ≠ []) (x : List UInt8) (M : List (List UInt8)) (hM : M ≠ []), L = x :: M → L.getLast hL = M.getLast hM := by rintro _ _ x M hM rfl; exact List.getLast_cons hM
 exact this _ _ (l.take (cutP 10 l)) _ (splitG_ne _) (by rw [splitG_cut, if_pos h])
theorem foldE_no (s : RS) {l : List UInt8} (h : ¬ (10 : UInt8) ∈ l) : foldE s (splitG l) = stepE s (lineK l) := by rw [splitG_cut, if_neg h]; rfl
theorem foldE_yes (s : RS) {l : List UInt8} (h : (10 : UInt8) ∈ l) : foldE s (splitG l) = foldE (stepE s (lineK (l.take (cutP 10 l)))) (splitG (l.drop (cutP 10 l + 1))) := by rw [splitG_cut, if_pos h]; rfl
set_option maxHeartbeats 4000000 in
theorem run_seq (s : RS) (l : List UInt8) (hl : l.length ≤ 100000000000) (hs : rsOk s) (hm : s.mac = []) : (W m e3 e4).run 103 [.yl 0, .bp 6 0, .bp 7 0, .bp 8 0] (sqB false s l) = some (.tup [], sqB (anyM l) (foldE s (splitG l)) (lastG l)) := by
 obtain ⟨R, hR⟩ : ∃ R, sqB (anyM l) (foldE s (splitG l)) (lastG l) = R := ⟨_, rfl⟩
 rw [hR]
 refine run_wp (by rw [W_T]; exact rfl) ?_
 simp -dsimp -implicitDefEqProofs (maxSteps := 1000000) (disch := omega) [ST, sqB]
 refine wp_inv S103 (fun a => rsOk a.2.1 ∧ a.2.1.mac.length + a.2.2.length ≤ 100000000000 ∧ sqB (a.1 || anyM a.2.2) (foldE a.2.1 (splitG a.2.2)) (lastG a.2.2) = R) (fun a => a.2.2.length) (false, s, l) ⟨hs, by simp [hm]; omega, by simpa using hR⟩ (by simp -dsimp -implicitDefEqProofs (maxSteps := 1000000) (disch := omega) [ST, S103, sqB]) ?_
 rintro ⟨f, s', r⟩ ⟨g1, g2, g3⟩
 simp only at g1 g2 g3
 have hix := run_sIndex (m := m) (e3 := e3) (e4 := e4) 10 r (by omega)
 by_cases h : (10 : UInt8) ∈ r
 ·have hc := (cutP_mem 10 r).1 h
  have hr := run_round (m := m) (e3 := e3) (e4 := e4) s' (r.take (cutP 10 r)) (by rw [List.length_take]; omega) g1.1 (by omega) g1.2
  rw [anyM_yes h, foldE_yes s' h, lastG_yes h] at g3
  rw [if_pos h] at hix
  have hsm := step_mac s' (lineK (r.take (cutP 10 r)))
  have hso := step_ok g1 (lineK (r.take (cutP 10 r)))
  have hdl : (r.drop (cutP 10 r + 1)).length = r.length - (cutP 10 r + 1) := by simp
  generalize cutP 10 r = k at *
  cases f
  ·cases hk : lineK (r.take k) with
   | cel x =>
    rw [hk] at hr g3 hsm hso
    simp only [rcB, rcO, stepE] at hr
    simp -dsimp -implicitDefEqProofs (maxSteps := 1000000) (disch := omega) [ST, S103, sqB, hix, hr, show k ≤ r.length by omega, show k + 1 ≤ r.length by omega, List.take_of_length_le]
    refine again (false, stepE s' (.cel x), r.drop (k + 1)) ⟨hso, by simp only; omega, by simpa [isMac] using g3⟩ (by simp only; omega) (by simp -dsimp -implicitDefEqProofs (maxSteps := 1000000) (disch := omega) [ST, S103, sqB, stepE])
   | mac t =>
    rw [hk] at hr g3 hsm hso
    simp only [rcB, rcO, stepE] at hr
    simp -dsimp -implicitDefEqProofs (maxSteps := 1000000) (disch := omega) [ST, S103, sqB, hix, hr, show k ≤ r.length by omega, show k + 1 ≤ r.length by omega, List.take_of_length_le]
    refine again (true, stepE s' (.mac t), r.drop (k + 1)) ⟨hso, by simp only; omega, by simpa [isMac] using g3⟩ (by simp only; omega) (by simp -dsimp -implicitDefEqProofs (maxSteps := 1000000) (disch := omega) [ST, S103, sqB, stepE])
   | wid i n =>
    rw [hk] at hr g3 hsm hso
    simp only [rcB, rcO, stepE] at hr
    simp -dsimp -implicitDefEqProofs (maxSteps := 1000000) (disch := omega) [ST, S103, sqB, hix, hr, show k ≤ r.length by omega, show k + 1 ≤ r.length by omega, List.take_of_length_le]
    refine again (false, stepE s' (.wid i n), r.drop (k + 1)) ⟨hso, by simp only; omega, by simpa [isMac] using g3⟩ (by simp only; omega) (by simp -dsimp -implicitDefEqProofs (maxSteps := 1000000) (disch := omega) [ST, S103, sqB, stepE])
   | non =>
    rw [hk] at hr g3 hsm hso
    simp only [rcB, rcO, stepE] at hr
    simp -dsimp -implicitDefEqProofs (maxSteps := 1000000) (disch := omega) [ST, S103, sqB, hix, hr, show k ≤ r.length by omega, show k + 1 ≤ r.length by omega, List.take_of_length_le]
    refine again (false, stepE s' (.non), r.drop (k + 1)) ⟨hso, by simp only; omega, by simpa [isMac] using g3⟩ (by simp only; omega) (by simp -dsimp -implicitDefEqProofs (maxSteps := 1000000) (disch := omega) [ST, S103, sqB, stepE])
  ·cases hk : lineK (r.take k) with
   | cel x =>
    rw [hk] at hr g3 hsm hso
    simp only [rcB, rcO, stepE] at hr
    simp -dsimp -implicitDefEqProofs (maxSteps := 1000000) (disch := omega) [ST, S103, sqB, hix, hr, show k ≤ r.length by omega, show k + 1 ≤ r.length by omega, List.take_of_length_le]
    refine again (true, stepE s' (.cel x), r.drop (k + 1)) ⟨hso, by simp only; omega, by simpa [isMac] using g3⟩ (by simp only; omega) (by simp -dsimp -implicitDefEqProofs (maxSteps := 1000000) (disch := omega) [ST, S103, sqB, stepE])
   | mac t =>
    rw [hk] at hr g3 hsm hso
    simp only [rcB, rcO, stepE] at hr
    simp -dsimp -implicitDefEqProofs (maxSteps := 1000000) (disch := omega) [ST, S103, sqB, hix, hr, show k ≤ r.length by omega, show k + 1 ≤ r.length by omega, List.take_of_length_le]
    refine again (true, stepE s' (.mac t), r.drop (k + 1)) ⟨hso, by simp only; omega, by simpa [isMac] using g3⟩ (by simp only; omega) (by simp -dsimp -implicitDefEqProofs (maxSteps := 1000000) (disch := omega) [ST, S103, sqB, stepE])
   | wid i n =>
    rw [hk] at hr g3 hsm hso
    simp only [rcB, rcO, stepE] at hr
    simp -dsimp -implicitDefEqProofs (maxSteps := 1000000) (disch := omega) [ST, S103, sqB, hix, hr, show k ≤ r.length by omega, show k + 1 ≤ r.length by omega, List.take_of_length_le]
    refine again (true, stepE s' (.wid i n), r.drop (k + 1)) ⟨hso, by simp only; omega, by simpa [isMac] using g3⟩ (by simp only; omega) (by simp -dsimp -implicitDefEqProofs (maxSteps := 1000000) (disch := omega) [ST, S103, sqB, stepE])
   | non =>
    rw [hk] at hr g3 hsm hso
    simp only [rcB, rcO, stepE] at hr
    simp -dsimp -implicitDefEqProofs (maxSteps := 1000000) (disch := omega) [ST, S103, sqB, hix, hr, show k ≤ r.length by omega, show k + 1 ≤ r.length by omega, List.take_of_length_le]
    refine again (true, stepE s' (.non), r.drop (k + 1)) ⟨hso, by simp only; omega, by simpa [isMac] using g3⟩ (by simp only; omega) (by simp -dsimp -implicitDefEqProofs (maxSteps := 1000000) (disch := omega) [ST, S103, sqB, stepE])
 ·have hr := run_round (m := m) (e3 := e3) (e4 := e4) s' r (by omega) g1.1 (by omega) g1.2
  rw [anyM_no h, foldE_no s' h, lastG_no h] at g3
  rw [if_neg h] at hix
  cases f
  ·cases hk : lineK r with
   | cel x =>
    rw [hk] at hr g3
    simp only [rcB, rcO, stepE] at hr
    rw [← g3]
    simp -dsimp -implicitDefEqProofs (maxSteps := 1000000) (disch := omega) [ST, S103, sqB, hix, hr, isMac, stepE]
   | mac t =>
    rw [hk] at hr g3
    simp only [rcB, rcO, stepE] at hr
    rw [← g3]
    simp -dsimp -implicitDefEqProofs (maxSteps := 1000000) (disch := omega) [ST, S103, sqB, hix, hr, isMac, stepE]
   | wid i n =>
    rw [hk] at hr g3
    simp only [rcB, rcO, stepE] at hr
    rw [← g3]
    simp -dsimp -implicitDefEqProofs (maxSteps := 1000000) (disch := omega) [ST, S103, sqB, hix, hr, isMac, stepE]
   | non =>
    rw [hk] at hr g3
    simp only [rcB, rcO, stepE] at hr
    rw [← g3]
    simp -dsimp -implicitDefEqProofs (maxSteps := 1000000) (disch := omega) [ST, S103, sqB, hix, hr, isMac, stepE]
  ·cases hk : lineK r with
   | cel x =>
    rw [hk] at hr g3
    simp only [rcB, rcO, stepE] at hr
    rw [← g3]
    simp -dsimp -implicitDefEqProofs (maxSteps := 1000000) (disch := omega) [ST, S103, sqB, hix, hr, isMac, stepE]
   | mac t =>
    rw [hk] at hr g3
    simp only [rcB, rcO, stepE] at hr
    rw [← g3]
    simp -dsimp -implicitDefEqProofs (maxSteps := 1000000) (disch := omega) [ST, S103, sqB, hix, hr, isMac, stepE]
   | wid i n =>
    rw [hk] at hr g3
    simp only [rcB, rcO, stepE] at hr
    rw [← g3]
    simp -dsimp -implicitDefEqProofs (maxSteps := 1000000) (disch := omega) [ST, S103, sqB, hix, hr, isMac, stepE]
   | non =>
    rw [hk] at hr g3
    simp only [rcB, rcO, stepE] at hr
    rw [← g3]
    simp -dsimp -implicitDefEqProofs (maxSteps := 1000000) (disch := omega) [ST, S103, sqB, hix, hr, isMac, stepE]
end Go.Vai
