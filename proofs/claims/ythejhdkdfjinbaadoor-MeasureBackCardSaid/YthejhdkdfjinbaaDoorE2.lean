/-
  The library's functions that are known by contracts; the tables.
-/
import Derived.Test.YthejhdkdfjinbaaDoorE1
import Derived.Test.YthejhdkdfjinbaaDoorMaS
import Derived.Test.YthejhdkdfjinbaaDoorMaG
set_option linter.unusedVariables false
set_option linter.unusedSimpArgs false
set_option linter.unnecessarySimpa false
set_option linter.unusedSectionVars false
namespace Go.Vai
open Go.RowKit Go.Proofs Go.Shelf Go.Sort
/-! The library's functions that are known by contracts. -/
def nibL : List Int := [0, 498536548, 997073096, 651767980, 1994146192, 1802195444, 1303535960, 1342533948, 3988292384, 4027552580, 3604390888, 3412177804, 2607071920, 2262029012, 2685067896, 3183342108]
def db32L : List Int := [0, 1, 28, 2, 29, 14, 24, 3, 30, 22, 20, 15, 25, 17, 4, 8, 31, 27, 13, 23, 21, 19, 16, 7, 26, 12, 18, 6, 11, 5, 10, 9]
def db64L : List Int := [0, 1, 56, 2, 57, 49, 28, 3, 61, 58, 42, 50, 38, 29, 17, 4, 62, 47, 59, 36, 45, 43, 51, 22, 53, 39, 33, 30, 24, 18, 12, 5, 63, 55, 48, 27, 60, 41, 37, 16, 46, 35, 44, 21, 52, 32, 23, 11, 54, 26, 40, 15, 34, 20, 31, 10, 25, 14, 19, 9, 13, 8, 7, 6]
def scI (k : IntKind) (l : List Int) : List FV := (l.map fun z => Value.int k z).map .sc
/-- The tables; the two errors are what the laid variables hold. -/
def Gm (e3 e4 : Value) : Nat → Option (List FV)
  | 0 => some (scI .u32 nibL)
  | 1 => some (scI .u64 Lib.pow10Tab)
  | 3 => some [.sc e3]
  | 4 => some [.sc e4]
  | 5 => some (scI .u8 db32L)
  | 6 => some (scI .u8 db64L)
  | _ => none
def isIf (v : Value) : Prop := ∃ t p, v = .iface t p
def Em : RF := fun f xs bl => match bl with
  | [] => match f, xs with
    | 36, [.fz (.sc (.string s)), .fz (.sc (.int .i64 c))] => if 0 ≤ c ∧ c ≤ 9223372036854775807 ∧ s.size * c.toNat ≤ 140737488355328 then some (.fz (.sc (.string (mkB (Lib.repeatL s.data.toList c.toNat)))), []) else none
    | 50, [.fz (.sc (.int .i64 n))] => if -9223372036854775808 ≤ n ∧ n ≤ 9223372036854775807 then some (.fz (.sc (.string (mkB (Lib.itoa n)))), []) else none
    | 51, [.fz (.sc (.string s))] => if s.size ≤ 281474976710656 then some (match Lib.atoiAll s.data.toList with
        | .ok v => .tup [i64 v, .fz (.sc .nilIface)]
        | .range => .tup [i64 (Lib.atoiSat s.data.toList), .err]
        | _ => .tup [i64 0, .err], []) else none
    | 60, [.fz (.sc (.string s)), .fz (.sc (.int .u8 c))] => some (i64 (Lib.indexByte s.data.toList c.toNat.toUInt8), [])
    | _, _ => none
  | _ => none
theorem enters36 : ∀ args w, (callFunc 36 args).run Tryd.prog w = .ok (.enter 36 args) w := fun args w => enters_of Tryd.func36 (by kernel_rfl) rfl args w
theorem enters50 : ∀ args w, (callFunc 50 args).run Tryd.prog w = .ok (.enter 50 args) w := fun args w => enters_of Tryd.func50 (by kernel_rfl) rfl args w
theorem enters51 : ∀ args w, (callFunc 51 args).run Tryd.prog w = .ok (.enter 51 args) w := fun args w => enters_of Tryd.func51 (by kernel_rfl) rfl args w
theorem enters60 : ∀ args w, (callFunc 60 args).run Tryd.prog w = .ok (.enter 60 args) w := fun args w => enters_of Tryd.func60 (by kernel_rfl) rfl args w
theorem vr_str {σ : Nat → Option Loc} {h : PH} (s : ByteArray) : VR σ h (.fz (.sc (.string s))) (.string s) := .fz _ _ (.sc _ rfl)
theorem vr_int {σ : Nat → Option Loc} {h : PH} (k : IntKind) (n : Int) : VR σ h (.fz (.sc (.int k n))) (.int k n) := .fz _ _ (.sc _ rfl)
theorem vr_pair {σ : Nat → Option Loc} {h : PH} {x y : AV} {u v : Value} (h1 : VR σ h x u) (h2 : VR σ h y v) : VR σ h (.tup [x, y]) (.tuple #[u, v]) :=
  .tup [x, y] [u, v] rfl fun i a b e1 e2 => match i with
    | 0 => by simp at e1 e2; subst e1; subst e2; exact h1
    | 1 => by simp at e1 e2; subst e1; subst e2; exact h2
    | n + 2 => by simp at e1
theorem below_grow (w : World) (k : Nat) (os : Array Obj) : Below w.heap.size w (grow (w.drewN k) os) := by
  refine ⟨rfl, rfl, rfl, by simp [grow, World.drewN], fun i hi => ?_⟩
  simp [grow, World.drewN, Array.getElem?_append, hi]
theorem Em_sound (e3 e4 : Value) (h3 : isIf e3) (h4 : isIf e4) : RFSound Tryd.prog (Gm e3 e4) Em := by
  intro f xs bl r bl' e
  unfold Em at e
  split at e
  · split at e
    · rename_i s c
      split at e
      · rename_i hc
        injection e with e; injection e with e1 e2; subst e1; subst e2
        refine rf_of_calls fun C σ w vs hG hl hv => .inl ⟨enters36 _ _, ?_⟩
        match vs, hl with
        | [a, b], _ =>
          obtain rfl := (hv 0 _ a rfl rfl).sc_inv
          obtain rfl := (hv 1 _ b rfl rfl).sc_inv
          have hcn : ((c.toNat : Nat) : Int) = c := by omega
          have := Tryd.strings_Repeat s c.toNat w (by omega) hc.2.2
          rw [hcn] at this
          exact this.mono fun e w' ⟨he, hb⟩ => ⟨_, he, fun σ h => vr_str _, hb⟩
      · cases e
    · rename_i n
      split at e
      · rename_i hc
        injection e with e; injection e with e1 e2; subst e1; subst e2
        refine rf_of_calls fun C σ w vs hG hl hv => .inl ⟨enters50 _ _, ?_⟩
        match vs, hl with
        | [a], _ =>
          obtain rfl := (hv 0 _ a rfl rfl).sc_inv
          have ht : Lib.TabIs Tryd.prog w "internal/strconv.uint64pow10" .u64 Lib.pow10Tab := by
            obtain ⟨t, z, ht⟩ := hG.tab (g := 1) (zs := Lib.pow10Tab.map fun z => Value.int .u64 z) rfl
            unfold Lib.TabIs World.var?
            rw [show Tryd.prog.globalNamed "internal/strconv.uint64pow10" = some 1 by kernel_rfl]
            simp only [Option.bind_some, ht]
          exact (Tryd.strconv_Itoa n hc.1 hc.2 w ht).mono fun e w' ⟨he, k, os, hw⟩ => ⟨_, he, fun σ h => vr_str _, hw ▸ below_grow _ _ _⟩
      · cases e
    · rename_i s
      split at e
      · rename_i hc
        injection e with e; injection e with e1 e2; subst e1; subst e2
        refine rf_of_calls fun C σ w vs hG hl hv => .inl ⟨enters51 _ _, ?_⟩
        match vs, hl with
        | [a], _ =>
          obtain rfl := (hv 0 _ a rfl rfl).sc_inv
          cases hat : Lib.atoiAll s.data.toList with
          | ok v =>
            refine (Tryd.strconv_Atoi_ok s (by omega) v hat w).mono fun e w' ⟨he, hw⟩ => ⟨_, he, fun σ h => vr_pair (vr_int _ _) (.fz _ _ (.sc _ rfl)), ?_⟩
            rcases hw with rfl | ⟨t, rfl⟩
            · exact Below.refl _ _
            · exact Lib.bytesWorld_below _ _ _
          | range =>
            obtain ⟨t, z, ht⟩ := hG.tab (g := 4) (zs := [e4]) rfl
            exact (Tryd.strconv_Atoi_range s hc hat e4 w (by simp [World.cell?, ht]) (.inr h4)).mono fun e w' ⟨N, he, _, _, hb⟩ => ⟨_, he, fun σ h => vr_pair (vr_int _ _) (.err _ _), hb⟩
          | _ =>
            obtain ⟨t, z, ht⟩ := hG.tab (g := 3) (zs := [e3]) rfl
            exact (Tryd.strconv_Atoi_syntax s hc hat e3 w (by simp [World.cell?, ht]) (.inr h3)).mono fun e w' ⟨N, he, _, _, hb⟩ => ⟨_, he, fun σ h => vr_pair (vr_int _ _) (.err _ _), hb⟩
      · cases e
    · rename_i s c
      injection e with e; injection e with e1 e2; subst e1; subst e2
      refine rf_of_calls fun C σ w vs hG hl hv => .inl ⟨enters60 _ _, ?_⟩
      match vs, hl with
      | [a, b], _ =>
        obtain rfl := (hv 0 _ a rfl rfl).sc_inv
        obtain rfl := (hv 1 _ b rfl rfl).sc_inv
        exact (Tryd.stringslite_IndexByte s c w).mono fun e w' ⟨he, hw⟩ => ⟨_, he, fun σ h => vr_int _ _, hw ▸ Below.refl _ _⟩
    · cases e
  · cases e
end Go.Vai
