/-
  What functions of layer 5 and of its reference compute: equations of the abstract run.
-/
import Derived.Test.YtfaomcaimppmeaaDoorGd
import Derived.Test.YtfaomcaimppmeaaDoorGb
import Derived.Test.YtfaomcaimppmeaaDoorGa
import Derived.Test.YtfaomcaimppmeaaDoorIS
set_option linter.unusedVariables false
set_option linter.unusedSimpArgs false
set_option linter.unnecessarySimpa false
set_option linter.unusedSectionVars false
namespace Go.Vai
def Gt : Nat → Option (List FV)
  | 0 => some gFirst
  | 1 => some gAcc
  | _ => none
def Eg : RF := fun f xs bl => if f = 96 then E96 f xs bl else E66 f xs bl
theorem Eg_sound (G : Nat → Option (List FV)) : RFSound Go.Proofs.Tryd.prog G Eg := by
  intro f xs bl r bl' e
  unfold Eg at e
  split at e
  · exact E96_sound G f xs bl r bl' e
  · exact E66_sound G f xs bl r bl' e
def V : Env := { G := Gt, T := Tt, E := Eg }
theorem V_T : V.T = Tt := rfl
theorem V_G0 : V.G 0 = some gFirst := rfl
theorem V_G1 : V.G 1 = some gAcc := rfl
set_option maxRecDepth 100000 in
theorem closed_scale : V.run 32 [.osl 0 1 0 1, i64 1, i64 2] [some (.arr 1 [[.sl [[.sc (.int .i64 3), .sc (.int .i64 (-3))]]]])] = some (rw_ [[.sl [[.sc (.int .i64 1), .sc (.int .i64 (-2))]]]], [some (.arr 1 [[.sl [[.sc (.int .i64 3), .sc (.int .i64 (-3))]]]])]) :=
  V.run_some.2 ⟨60, by kernel_rfl⟩
def gl0 : List FV := [.sc (.int .i64 5), .sl [], .sl [[.sc (.int .i64 0), .sc (.int .i64 0), .sc (.int .i64 0)]]]
set_option maxRecDepth 100000 in
theorem closed_outline : V.run 20 [.agg [.osl 0 3 0 1, .emp], i64 0, i64 10] [some (.arr 3 [gl0])] = some (.tup [rw_ [], i64 9, i64 0], [some (.arr 3 [gl0])]) :=
  V.run_some.2 ⟨60, by kernel_rfl⟩
theorem runes_ex : runesG [97, 226, 128, 139, 255, 10] = [97, 65533, 32] := by kernel_rfl
theorem line_ex : lineG plainF [97, 98] = ([(66, 0, 0), (67, 16, 0)], 32) := by kernel_rfl
theorem plain_len : plainF.1.length = 96 ∧ plainF.2.length = 95 := ⟨by kernel_rfl, by kernel_rfl⟩
set_option maxHeartbeats 1000000 in
set_option maxRecDepth 20000 in
theorem run_awake : V.run 14 [] [] = some (bo true, []) := by
  refine run_wp (by rw [V_T]; exact rfl) ?_
  have h1 := run_runes V_T V_G0 V_G1 [97, 226, 128, 139, 255, 10] (by decide)
  have h2 := run_plain V_T
  have h3 := run_line V_T V_G0 V_G1 plainF [97, 98] (by decide) (by rw [plain_len.1]; omega) (by rw [plain_len.2]; omega)
  rw [runes_ex] at h1
  rw [line_ex] at h3
  have h4 := closed_outline
  simp only [gl0] at h4
  simp -dsimp -implicitDefEqProofs (maxSteps := 1000000) (disch := omega) [condP_pos, condP_neg, optP_pos, decide_eq_true, decide_eq_false, wrap_i64, Int.natCast_inj, h1, h2, h3, closed_scale, h4, eI, ePc]
end Go.Vai
