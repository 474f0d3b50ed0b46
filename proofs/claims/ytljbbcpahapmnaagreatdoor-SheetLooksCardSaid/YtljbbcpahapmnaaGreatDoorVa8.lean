/-
  A part of the abstract run of Go functions and of the proof that it tells the truth.
-/
import Derived.Test.YtljbbcpahapmnaaGreatDoorVa7
set_option linter.unusedVariables false
set_option linter.unusedSimpArgs false
namespace Go.Vai
variable {P:Program} {G:Nat→Option (List FV)} {σ:Nat→Option Loc} {h:PH} {sl:List (Nat × AV)} {a:Act}
theorem pure_sound {op:Op} {l:LOp} {v:AV} (hc:compOp P op=some l) (hh:l.isHeap=false) (H:Sl G σ h sl a) (hp:pureOp (LX.av G sl) l=some v) : ∃ u,VR σ h v u∧Gives P a op u:=by
 cases op with
 | move x => simp only [compOp] at hc; injection hc with hc; subst hc; simp only [pureOp] at hp; injection hp with hp; subst hp; exact ⟨_,H.av x,gives_mov (.inl rfl)⟩
 | assign x => simp only [compOp] at hc; injection hc with hc; subst hc; simp only [pureOp] at hp; injection hp with hp; subst hp; exact ⟨_,H.av x,gives_mov (.inr rfl)⟩
 | pick c x y => simp only [compOp] at hc; injection hc with hc; subst hc; exact pure_pick H hp
 | alloc e =>
  simp only [compOp] at hc
  split at hc
  ·injection hc with hc; subst hc; simp [LOp.isHeap] at hh
  ·obtain ⟨z,_,rfl⟩:=Option.map_eq_some_iff.1 hc; simp [LOp.isHeap] at hh
 | box e x => simp only [compOp] at hc; injection hc with hc; subst hc; simp [LOp.isHeap] at hh
 | load t x => simp only [compOp] at hc; obtain ⟨z,_,rfl⟩:=Option.map_eq_some_iff.1 hc; simp [LOp.isHeap] at hh
 | store t x y =>
  simp only [compOp] at hc
  split at hc
  ·injection hc with hc; subst hc; simp [LOp.isHeap] at hh
  ·cases hc
 | binOp op t x y yt =>
  simp only [compOp,compBin] at hc
  split at hc
  ·injection hc with hc; subst hc; exact pure_bin H hp
  ·injection hc with hc; subst hc; exact pure_bin H hp
  ·rename_i ht
   split at hc
   ·rename_i ho; injection hc with hc; subst hc; subst ho; exact pure_beq (ng:=false) ht H hp
   ·split at hc
    ·rename_i ho; injection hc with hc; subst hc; subst ho; exact pure_beq (ng:=true) ht H hp
    ·cases hc
  ·rename_i fs ht
   split at hc
   ·rename_i ks hk
    split at hc
    ·rename_i h1
     split at hc
     ·rename_i ho; injection hc with hc; subst hc; subst ho; exact pure_eqs (ng:=false) ht hk h1.1 h1.2 H hp
     ·split at hc
      ·rename_i ho; injection hc with hc; subst hc; subst ho; exact pure_eqs (ng:=true) ht hk h1.1 h1.2 H hp
      ·cases hc
    ·cases hc
   ·cases hc
  ·split at hc
   ·rename_i ho; subst ho; exact pure_isnil (ng:=false) hc H hp
   ·split at hc
    ·rename_i ho; subst ho; exact pure_isnil (ng:=true) hc H hp
    ·cases hc
  ·cases hc
 | unOp op t x => simp only [compOp] at hc; injection hc with hc; subst hc; exact pure_un H hp
 | convert s d x =>
  simp only [compOp,compConv] at hc
  split at hc
  ·rename_i hs hd; injection hc with hc; subst hc; exact pure_conv ⟨_,hs⟩ hd H hp
  ·rename_i hs hd; injection hc with hc; subst hc; exact pure_i2s ⟨_,hs⟩ hd H hp
  ·rename_i hs hd; injection hc with hc; subst hc; exact pure_s2s hs hd H hp
  ·split at hc
   ·injection hc with hc; subst hc; simp [LOp.isHeap] at hh
   ·cases hc
  ·split at hc
   ·injection hc with hc; subst hc; simp [LOp.isHeap] at hh
   ·cases hc
  ·split at hc
   ·injection hc with hc; subst hc; simp [LOp.isHeap] at hh
   ·cases hc
  ·cases hc
 | makeSlice t x y =>
  simp only [compOp] at hc
  split at hc
  ·split at hc
   ·split at hc
    ·injection hc with hc; subst hc; simp [LOp.isHeap] at hh
    ·cases hc
   ·cases hc
  ·cases hc
 | slice t x lo hi mx =>
  simp only [compOp] at hc
  split at hc
  ·rename_i ht
   split at hc
   ·rename_i hm; injection hc with hc; subst hc; exact pure_slcs ht hm H hp
   ·cases hc
  ·rename_i e ht
   split at hc
   ·rename_i n hn
    split at hc
    ·injection hc with hc; subst hc; exact pure_slc ht hn H hp
    ·cases hc
   ·cases hc
  ·split at hc
   ·injection hc with hc; subst hc; simp [LOp.isHeap] at hh
   ·cases hc
  ·cases hc
 | fieldAddr s x k =>
  simp only [compOp] at hc
  split at hc
  ·rename_i fs ht
   split at hc
   ·rename_i f hf
    split at hc
    ·rename_i n hn
     split at hc
     ·rename_i h0; injection hc with hc; subst hc; exact pure_fld ht hf hn h0 H hp
     ·cases hc
    ·cases hc
   ·cases hc
  ·cases hc
 | field s x k =>
  simp only [compOp] at hc
  split at hc
  ·rename_i fs ht
   split at hc
   ·rename_i f hf
    obtain ⟨g,hg,rfl⟩:=Option.map_eq_some_iff.1 hc
    exact pure_field ht hf hg H hp
   ·cases hc
  ·cases hc
 | indexAddr t x i =>
  simp only [compOp] at hc
  split at hc
  ·rename_i e ht
   split at hc
   ·rename_i n hn
    split at hc
    ·injection hc with hc; subst hc; exact pure_ixa ht hn H hp
    ·cases hc
   ·cases hc
  ·rename_i m e ht
   split at hc
   ·rename_i n hn
    split at hc
    ·injection hc with hc; subst hc; exact pure_ixp ht hn H hp
    ·cases hc
   ·cases hc
  ·cases hc
 | index t x i =>
  simp only [compOp] at hc
  split at hc
  ·rename_i ht; injection hc with hc; subst hc; exact pure_ixs ht H hp
  ·rename_i m e ht
   split at hc
   ·rename_i n g hn hg; injection hc with hc; subst hc; exact pure_ixv ht hn hg H hp
   ·cases hc
  ·cases hc
 | extract x i => simp only [compOp] at hc; injection hc with hc; subst hc; exact pure_ext H hp
 | makeFunc fn first caps =>
  cases fn with
  | func f =>
   obtain ⟨first⟩:=first
   cases first with
   | nil => simp only [compOp] at hc; injection hc with hc; subst hc; exact pure_mkf H hp
   | cons x xs =>
    obtain ⟨caps⟩:=caps
    cases caps with
    | nil => simp only [compOp] at hc; injection hc with hc; subst hc; exact pure_mkb H hp
    | cons => simp [compOp] at hc
  | _ => simp [compOp] at hc
 | makeInterface t x =>
  simp only [compOp] at hc
  split at hc
  ·rename_i fs ht; injection hc with hc; subst hc; exact pure_mki ht H hp
  ·cases hc
 | typeAssert x xt t ok =>
  cases ok with
  | false => simp [compOp] at hc
  | true =>
   simp only [compOp] at hc
   split at hc
   ·rename_i fs i ht hi
    split at hc
    ·rename_i cs hz; injection hc with hc; subst hc; exact pure_tas ht hi hz H hp
    ·cases hc
   ·cases hc
 | nilCheck x => simp only [compOp] at hc; injection hc with hc; subst hc; exact pure_nilchk H hp
 | build t ps => exact pure_build hc H (by exact hp)
 | buildSlice t n ps =>
  simp only [compOp] at hc
  split at hc
  ·split at hc
   ·split at hc
    ·injection hc with hc; subst hc; simp [LOp.isHeap] at hh
    ·cases hc
   ·cases hc
  ·cases hc
 | call c =>
  obtain ⟨callee,xs,ts⟩:=c
  cases callee with
  | value f => simp only [compOp] at hc; injection hc with hc; subst hc; simp [LOp.isHeap] at hh
  | invoke r m => simp only [compOp] at hc; injection hc with hc; subst hc; simp [LOp.isHeap] at hh
  | builtin b =>
   simp only [compOp] at hc
   unfold compBuiltin at hc
   split at hc
   ·rename_i t x ets exs
    split at hc
    ·rename_i ht; injection hc with hc; subst hc; exact pure_slen exs ets ht H hp
    ·rename_i e ht; injection hc with hc; subst hc; exact pure_len exs ets ht H hp
    ·rename_i n e ht; injection hc with hc; subst hc; exact pure_alen exs ets (.inl ⟨e,ht⟩) hp
    ·rename_i b' ht
     split at hc
     ·rename_i n e ht2; injection hc with hc; subst hc; exact pure_alen exs ets (.inr ⟨b',e,ht,ht2⟩) hp
     ·cases hc
    ·cases hc
   ·injection hc with hc; subst hc; exact pure_mx H hp
   ·injection hc with hc; subst hc; exact pure_mn H hp
   ·split at hc
    ·split at hc
     ·split at hc
      ·injection hc with hc; subst hc; simp [LOp.isHeap] at hh
      ·cases hc
     ·split at hc
      ·injection hc with hc; subst hc; simp [LOp.isHeap] at hh
      ·cases hc
     ·cases hc
    ·cases hc
   ·split at hc
    ·split at hc
     ·split at hc
      ·injection hc with hc; subst hc; simp [LOp.isHeap] at hh
      ·cases hc
     ·cases hc
    ·cases hc
   ·split at hc
    ·split at hc
     ·split at hc
      ·injection hc with hc; subst hc; simp [LOp.isHeap] at hh
      ·cases hc
     ·cases hc
    ·cases hc
   ·split at hc
    ·injection hc with hc; subst hc; simp [LOp.isHeap] at hh
    ·cases hc
   ·cases hc
 | makeMap t r =>
  cases r with
  | none => simp only [compOp] at hc; injection hc with hc; subst hc; simp [LOp.isHeap] at hh
  | some r => simp [compOp] at hc
 | insert t m k x => simp only [compOp] at hc; obtain ⟨z,_,rfl⟩:=Option.map_eq_some_iff.1 hc; simp [LOp.isHeap] at hh
 | mapUpdate t m k x => simp only [compOp] at hc; obtain ⟨z,_,rfl⟩:=Option.map_eq_some_iff.1 hc; simp [LOp.isHeap] at hh
 | range t m => simp only [compOp] at hc; obtain ⟨z,_,rfl⟩:=Option.map_eq_some_iff.1 hc; simp [LOp.isHeap] at hh
 | entry it => simp only [compOp] at hc; injection hc with hc; subst hc; simp [LOp.isHeap] at hh
 | lookup t m k c =>
  simp only [compOp] at hc
  split at hc
  ·obtain ⟨z,_,rfl⟩:=Option.map_eq_some_iff.1 hc; simp [LOp.isHeap] at hh
  ·cases hc
 | next it s =>
  cases s with
  | false => simp only [compOp] at hc; injection hc with hc; subst hc; simp [pureOp] at hp
  | true => simp [compOp] at hc
 | _ => simp [compOp] at hc
end Go.Vai
