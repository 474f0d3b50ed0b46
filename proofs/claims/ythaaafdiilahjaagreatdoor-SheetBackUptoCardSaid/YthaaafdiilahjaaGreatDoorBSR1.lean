/-
  The row of a law.
-/
import Derived.JoinedCond
import Derived.Test.YthaaafdiilahjaaGreatDoorBS1
import Derived.Test.YthaaafdiilahjaaGreatDoorBM9
import Derived.Test.YthaaafdiilahjaaGreatDoorBKX
set_option linter.unusedVariables false
set_option linter.unusedSimpArgs false
set_option linter.unnecessarySimpa false
namespace Go.Vai
open Go.RowKit Go.ChangeShapes Go.WideShapes Go.Proofs Go.Proofs.YthaaafdiilahjaaGreatDoor
theorem contract_text {H : Type} {enc : TypeId × Value → H} {P : Program} (v : Env) (hmix : P.follows .mixedOrders = true) (hT : TOk P v.T) (hE : RFSound P v.G v.E) (hl : laidOutB P = true) {f : FuncId} (hf4 : f < 4096) {fn : Func} {c : Code} (hf : P.funcs[f]? = some fn) (hnm : (fn.name == "runtime.NumGoroutine") = false) (hb : fn.body = some c)
 {t : TypeId} (hpar : fn.params.toList = [t]) (ht : P.underlying t = some .string) (hps : P.readableRec t = true ∧ t < P.types.size)
 {s : ChangeSpec} (hv : s.vars = []) {tb : TypeId} (hres : fn.resultTypes = #[tb]) (hbool : P.underlying tb = some .bool) (hfn : ∀ d : DataW H, s.fn H [d] = { results := [.lit (.bool true)], args := [d] }) (N : Nat)
 (hrun : ∀ l : List UInt8, l.length ≤ N → v.run f [bs l] [] = some (.fz (.sc (.bool true)), []))
 {apart fresh handsOn again : Bool} {W0 : World} {args : Array Value} {ds gs : List (DataW H)} {before : List MemPlace} {base : Nat} (hG : GR v.G (heapOf W0))
 (hval : ∀ (j : Nat) (t : TypeId) (v : Value), fn.params[j]? = some t → args[j]? = some v → Value.okWide P W0 .any base t v) (hwt : (DataW.weightsEach P (fn.params.toList ++ s.plain.varTypes P) (ds ++ gs)).all (· ≤ reachBytes) = true)
 (hW : DataW.Whole enc P fn.params.toList s.vars apart W0 args.toList ds gs before) (hN : ∀ l, ds = [.lit (.string l)] → l.length ≤ N) :
 Calls P f args W0 fun e W' => ∃ u, e = .returned u ∧ s.post enc P fn apart fresh handsOn again W0 args u W' := by
 have hW0 := hW
 obtain ⟨p, q, hA, hV, hpq, hz, hn⟩ := hW0
 rw [hv] at hV
 have hg : gs = [] := by
  cases gs with
  | nil => rfl
  | cons g r => exact absurd hV (by intro h; cases h)
 subst hg
 have hwt' : ∀ n ∈ DataW.weightsEach P fn.params.toList ds, n ≤ reachBytes := by
  intro n hn
  have hvt : s.plain.varTypes P = [] := by simp [ChangeSpec.plain, hv, DataSpec.varTypes]
  rw [hvt, List.append_nil, List.append_nil] at hwt
  have := List.all_eq_true.1 hwt n hn
  simpa using this
 rw [hpar] at hA hwt'
 generalize hargs : args.toList = vs at hA
 obtain ⟨v1, vs1, d, ds1, a, b, rfl, rfl, rfl, h1, h2⟩ := trodAll_cons hA
 obtain ⟨rfl, rfl, rfl⟩ := trodAll_nil h2
 have hpar0 : fn.params[0]? = some t := by
  rw [← Array.getElem?_toList, hpar]; rfl
 have harg0 : args[0]? = some v1 := by
  rw [← Array.getElem?_toList, hargs]; rfl
 obtain ⟨xs, g1, g2⟩ := arg_x (Γ := []) (fun j T t h => by simp at h) (TxOk.s t ht) (hval 0 t v1 hpar0 harg0) h1 fun n hn => hwt' n (by simp [DataW.weightsEach, hn])
 obtain ⟨fuel, h1⟩ := h1
 obtain ⟨sq, e1, e2, e3⟩ := DataW.trod_string ht h1
 injection e2 with e2 e4
 subst e2
 have hv1 : v1 = .string sq := by
  cases g1 with
  | s q0 _ =>
   have := VR.sc_inv g2
   subst this
   simp [Value.cells] at e1
   rw [e1]
 subst hv1
 have hq : sq.data.toList.length ≤ N := hN _ rfl
 have hbl := hrun sq.data.toList hq
 have hd := top_sound v hmix hT hE hf4 hbl hG (vs := [.string sq]) rfl (fun i x u q1 q2 => by
  cases i with
  | zero =>
   simp at q1 q2
   subst q1; subst q2
   have hm : mkB sq.data.toList = sq := mkB_data sq
   show VR _ _ (.fz (.sc (.string (mkB sq.data.toList)))) _
   rw [hm]
   exact .fz _ _ (.sc _ rfl)
  | succ i => simp at q1) (K := fun e W' => ∃ u, e = .returned u ∧ s.post enc P fn apart fresh handsOn again W0 args u W') fun w' F => ⟨_, rfl, post_true hW hv F hl (by rw [hpar]; intro t' h'; simp at h'; subst h'; exact hps) hres hbool (hfn _)⟩
 have ha : [Value.string sq].toArray = args := by rw [← hargs]
 rw [ha] at hd
 exact hd.calls hf hnm hb
theorem uptoBulk_text {H : Type} (l : List UInt8) (h : Rows.uptoSmall H [.lit (.string l)] = true) : l.length ≤ 1048576 := by
 simp [Rows.uptoSmall, Rows.uptoBulkAll, Rows.uptoBulk] at h
 omega
theorem upto_pre {H : Type} {enc : TypeId × Value → H} {P : Program} {f : Func} {s : ChangeSpec} {apart : Bool} {w : World} {args : Array Value} {fuel : Nat}
 (h : (match DataW.whole enc P w f.params.toList s.vars apart args.toList fuel with
   | some x => Rows.uptoSmall H (x.1 ++ x.2.1)
   | none => false) = true) : (Rows.OpenSpec.upto s).pre enc P f [] apart w args := by
 split at h
 ·rename_i x hx
  exact (OpenSpec.pre_some rfl _ _ _ _).2 ⟨x.1, x.2.1, x.2.2, DataW.Whole_of_whole hx, rfl, h⟩
 ·cases h
set_option maxRecDepth 100000 in
theorem lifted_sheetBack (os : Os) (started : os.Started) (H : Type) (enc : TypeId × Value → H) (F : Stop.Interp) :
 ReturnsInHanded {} Tryz.checked os 6 .any (fun w args => ((Rows.OpenSpec.upto Rows.sheetBackSpec).pre enc Tryz.prog Tryz.f6 [] false w args ∧ laidMetH Tryz.prog laidL w) ∧ sizedMet enc Tryz.prog Tryz.f6 (Rows.OpenSpec.upto Rows.sheetBackSpec) false w args)
  (((Rows.OpenSpec.upto Rows.sheetBackSpec).at F).post enc Tryz.prog Tryz.f6 false true false false) := by
 refine returnsInHanded_of_calls Tryz_own started (by kernel_rfl) ?_ ?_
 ·obtain ⟨w, tape, i, h1, h2, h3, h4, ⟨⟨_, hX⟩, hs⟩, h6⟩ := witness_ref (enc := enc) (C := Tryz.checked) (os := os) (f := 6) (fn := Tryz.f6) (s := Rows.sheetBackSpec) (conds := []) (apart := false) (X := fun w args => (Rows.OpenSpec.upto Rows.sheetBackSpec).pre enc Tryz.prog Tryz.f6 [] false w args ∧ laidMetH Tryz.prog laidL w) false (laidW os) #[.string ⟨#[]⟩] 8 rfl (by kernel_rfl) (by kernel_rfl) (by kernel_rfl) (by kernel_rfl) (by kernel_rfl) ⟨upto_pre (fuel := 8) (by kernel_rfl), laidW_met os _⟩
  exact ⟨w, tape, i, h1, h2, h3, h4, ⟨hX, hs⟩, h6⟩
 ·intro w tape i _ hsh _ hok hpre hholds
  obtain ⟨_, _, _, fn', hfn', _, _, _, _, hval⟩ := hok
  have e : fn' = Tryz.f6 := Option.some.inj (hfn'.symm.trans Tryz.func6)
  subst e
  obtain ⟨⟨hp, hx⟩, hz⟩ := hpre
  obtain ⟨ds, gs, before, hw, hc, hk⟩ := (OpenSpec.pre_some (k := Rows.uptoSmall) rfl _ _ _ _).1 hp
  have hw' := DataW.Whole.of_heap (w' := w.forCall tape i) (by rfl) hw
  have hX : laidMetH Tryz.prog laidL (w.forCall tape i) := laidMetH.of_heap (by rfl) hx
  obtain ⟨m, e3, e4, i3, i4, hg⟩ := gr_of_laid hX hsh
  refine (contract_text (fresh := true) (handsOn := false) (again := false) (W m e3 e4) mixed tokz (Ez_sound m e3 e4 i3 i4) Tryz_laidOut (by decide) Tryz.func6 (by kernel_rfl) rfl (by kernel_rfl) (t := 9) (by kernel_rfl) ⟨by kernel_rfl, of_decide_eq_true (by kernel_rfl)⟩ (s := Rows.sheetBackSpec) rfl (tb := 4) (by kernel_rfl) (by kernel_rfl) (fun d => rfl) 1048576
   (fun l hl => law_back l hl) hg hval (hz.weights hw) hw' (fun l hl => ?_)).mono fun e W' ⟨v, he, hp⟩ => ?_
  ·subst hl
   have hgs : gs = [] := by
    obtain ⟨p, q, hA, hV, hpq, _, _⟩ := hw
    cases gs with
    | nil => rfl
    | cons g r => exact absurd hV (by intro h; cases h)
   subst hgs
   exact uptoBulk_text l hk
  ·subst he
   exact ChangeSpec.post_blind hp
end Go.Vai
