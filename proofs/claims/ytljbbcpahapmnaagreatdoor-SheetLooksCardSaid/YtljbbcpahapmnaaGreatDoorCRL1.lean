/-
  The row of a law.
-/
import Derived.Test.YtljbbcpahapmnaaGreatDoorCVC
import Derived.Test.YtljbbcpahapmnaaGreatDoorCM9
import Derived.Test.YtljbbcpahapmnaaGreatDoorCKF
set_option linter.unusedVariables false
set_option linter.unusedSimpArgs false
set_option linter.unnecessarySimpa false
namespace Go.Vai
open Go.RowKit Go.ChangeShapes Go.WideShapes Go.Proofs Go.Proofs.YtljbbcpahapmnaaGreatDoor
def tsSheetLooks:List Tx:=[.st shF]
theorem hrun_sheetLooks {m:Int} {e3 e4:Value} : ∀ xss:List (List FV),xss.length=tsSheetLooks.length→(∀ (i:Nat) (T:Tx) (xs:List FV),tsSheetLooks[i]? = some T→xss[i]? = some xs→HasX Gx T xs)→∃ bl,(W m e3 e4).run 5 (List.zipWith argAX tsSheetLooks xss) []=some (.fz (.sc (.bool true)),bl):=by
 intro xss hl h
 match xss,hl with
 | [x0],_ =>
  obtain ⟨a0,rfl,h0⟩:=hasX_sheet (h 0 _ x0 rfl rfl)
  exact ⟨[],law_looks a0 h0.1 h0.2.1 h0.2.2.1 (fun c hc => (h0.2.2.2.1 c hc).2.2) h0.2.2.2.2.2⟩
set_option maxRecDepth 100000 in
theorem lifted_sheetLooks (os:Os) (started:os.Started) (H:Type) (enc:TypeId × Value→H) :
 ReturnsInHanded {} Tryz.checked os 5 .any (fun w args => (Rows.sheetLooksSpec.pre enc Tryz.prog Tryz.f5 [] false w args∧laidMetH Tryz.prog laidL w)∧sizedMet enc Tryz.prog Tryz.f5 (OpenSpec.ofChange Rows.sheetLooksSpec) false w args)
  (Rows.sheetLooksSpec.post enc Tryz.prog Tryz.f5 false true false false):=by
 refine returns_laid (C:=Tryz.checked) (X:=fun w _ => laidMetH Tryz.prog laidL w) (fun _ _ _ hh h => h.of_heap hh) Tryz_own started (by kernel_rfl) Tryz.func5
  (witness_ref (enc:=enc) (C:=Tryz.checked) (os:=os) (X:=fun w _ => laidMetH Tryz.prog laidL w) false (laidW os) #[.agg #[.slice none 0 0,.slice none 0 0,.slice none 0 0]] 8 rfl (by kernel_rfl) (by kernel_rfl) (by kernel_rfl) (by kernel_rfl) (by kernel_rfl) (laidW_met os _)) ?_
 intro W0 base args ds gs before hval hW hwt hL hsh
 obtain ⟨m,e3,e4,i3,i4,hg⟩:=gr_of_laid hL hsh
 exact contract_x Gx_ok (W m e3 e4) mixed tokz (Ez_sound m e3 e4 i3 i4) Tryz_laidOut (by decide) Tryz.func5 (by kernel_rfl) rfl (Ts:=tsSheetLooks) (by kernel_rfl) (by
  intro i T t h1 h2
  rw [Tryz.params5] at h2
  match i with
  | 0 => simp [tsSheetLooks] at h1 h2; subst h1; subst h2; exact ok_sheet
  | n + 1 => simp [tsSheetLooks] at h1)
  (by
    intro t ht
    rw [Tryz.params5] at ht
    simp at ht
    subst ht
    exact ⟨by kernel_rfl,of_decide_eq_true (by kernel_rfl)⟩)
  rfl (tb:=4) (by kernel_rfl) (by kernel_rfl) (by
   intro ds hd
   match ds,hd with
   | [d0],_ => rfl)
  hrun_sheetLooks hg hval hW hwt
end Go.Vai
