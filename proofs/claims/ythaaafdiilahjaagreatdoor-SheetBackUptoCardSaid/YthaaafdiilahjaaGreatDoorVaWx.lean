/-
  A part of the abstract run of Go functions and of the proof that it tells the truth.
-/
import Derived.Below
import Derived.Carry
import Derived.ChangeSame
import Derived.RowKit
import Derived.Test.YthaaafdiilahjaaGreatDoorVaUx
set_option linter.unusedVariables false
set_option linter.unusedSimpArgs false
namespace Go.Vai
open Go.RowKit Go.ChangeShapes Go.WideShapes
theorem Frame0.below {W W' : World} (F : Frame0 (fun _ => False) W W') : Below W.heap.size W W' :=
 ⟨F.os, F.tape, F.output, F.size, fun k hk => F.keep k hk fun h => h⟩
theorem trodAll_stays {H : Type} {enc : TypeId × Value → H} {P : Program} (hl : laidOutB P = true) {W W' : World} (hb : Below W.heap.size W W') {sp : Nat → Bool} : ∀ {ts : List TypeId} {vs : List Value} {ds : List (DataW H)} {ps : List MemPlace},
 (∀ t ∈ ts, P.readableRec t = true ∧ t < P.types.size) → DataW.TrodAll enc P W 0 (fun _ => true) true ts vs ds ps → (∀ p ∈ ps, p.block < W.heap.size ∧ sp p.block = true) → DataW.TrodAll enc P W' 0 sp true ts vs ds ps
 | [], _, _, _, ht, h, hp => by
  obtain ⟨rfl, rfl, rfl⟩ := trodAll_nil h
  exact h
 | t :: ts, _, _, _, ht, h, hp => by
  obtain ⟨v, vs1, d, ds1, a, b, rfl, rfl, rfl, h1, h2⟩ := trodAll_cons h
  have htt := ht t (by simp)
  refine ⟨a, b, ?_, trodAll_stays hl hb (fun u hu => ht u (by simp [hu])) h2 fun p hp' => hp p (by simp [hp']), rfl⟩
  exact WideElems.Trod_stays hl htt.1 htt.2 h1 (fun x hx => hb.same (hp x (by simp [hx])).1) fun x hx => (hp x (by simp [hx])).2
theorem post_true {H : Type} {enc : TypeId × Value → H} {P : Program} {f : Func} {s : ChangeSpec} {apart fresh handsOn again : Bool} {W W' : World} {args : Array Value} {ds gs : List (DataW H)} {before : List MemPlace} {tb : TypeId}
 (hW : DataW.Whole enc P f.params.toList s.vars apart W args.toList ds gs before) (hv : s.vars = []) (F : Frame0 (fun _ => False) W W') (hl : laidOutB P = true) (hps : ∀ t ∈ f.params.toList, P.readableRec t = true ∧ t < P.types.size)
 (hres : f.resultTypes = #[tb]) (hb : P.underlying tb = some .bool) (hfn : s.fn H (ds ++ gs) = { results := [.lit (.bool true)], args := ds }) : s.post enc P f apart fresh handsOn again W args (.bool true) W' := by
 have hB := F.below
 have hlt : ∀ p ∈ before, p.block < W.heap.size := fun p hp => hW.lt p hp
 have hW0 := hW
 obtain ⟨p, q, hA, hV, hpq, hz, hn⟩ := hW
 rw [hv] at hV
 have hgq : gs = [] ∧ q = [] := by
  cases gs with
  | nil => exact ⟨rfl, hV⟩
  | cons g r => exact absurd hV (by intro h; cases h)
 obtain ⟨rfl, rfl⟩ := hgq
 rw [List.append_nil] at hpq
 subst hpq
 have hargs : ∀ sp : Nat → Bool, (∀ x ∈ before, sp x.block = true) → DataW.TrodAll enc P W' 0 sp true f.params.toList args.toList ds before := fun sp hsp => trodAll_stays hl hB hps hA fun x hx => ⟨hlt x hx, hsp x hx⟩
 have hold : ∀ x ∈ before, (fun b => decide (b < W.heap.size)) x.block = true := fun x hx => by simpa using hlt x hx
 have hr : ∀ (b : Nat) (sp : Nat → Bool) (hd : Bool), DataW.TrodAll enc P W' b sp hd f.resultTypes.toList ((Value.bool true).resultList f.resultTypes.size) [.lit (.bool true)] [] := by
  intro b sp hd
  rw [hres]
  exact trodAll_mk1 (shut_bool hb true)
 have hvv : ∀ sp : Nat → Bool, DataW.TrodVars enc P W' sp s.vars ([] : List (DataW H)) [] := fun sp => by rw [hv]; rfl
 refine ⟨ds, [], before, [], before, [], hW0, by rw [hfn]; exact hr _ _ _, by rw [hfn]; exact hargs _ hold, by rw [hfn]; exact hvv _, ?_, fun _ => ?_⟩
 ·refine ⟨F.os, F.output, fun i hi => ?_⟩
  rw [hB.block i hi]
  split
  ·rename_i h1 h2
   rw [h1] at h2
   injection h2 with h2
   injection h2 with a1 a2 a3
   subst a1; subst a2; subst a3
   exact ⟨rfl, rfl, rfl, fun j _ => rfl⟩
  ·rename_i h1 h2
   rw [h1] at h2
   injection h2 with h2
   injection h2 with a1 a2
   subst a1; subst a2
   exact .inr ⟨rfl, rfl⟩
  ·rfl
 ·refine ⟨ok_one hres rfl (okWide_bool_mk hb true), _, _, ([] ++ before) ++ [], ⟨[] ++ before, [], trodAll_append (hargs _ (fun _ _ => rfl)) (hr _ _ _), hvv _, rfl, ?_, ?_⟩, ?_⟩
  ·intro b off hp
   have hp' : MemPlace.cell b off ∈ before := by simpa using hp
   have hbl := hlt _ hp'
   have : W'.frozen? ⟨b, off, none⟩ = W.frozen? ⟨b, off, none⟩ := by
    have := hB.block b hbl
    simp only [World.frozen?, this]
   rw [this]
   exact hz b off hp'
  ·intro ha
   simpa using hn ha
  ·intro x hx _
   simpa using hx
end Go.Vai
