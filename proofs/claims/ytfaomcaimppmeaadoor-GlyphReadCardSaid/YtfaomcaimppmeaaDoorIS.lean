/-
  What functions of layer 5 and of its reference compute: equations of the abstract run.
-/
import Derived.Shelf.SlSortCmp.WholeK
import Derived.Shelf.SlSortCmp.NoneTotal
import Derived.Ground.SlsfProg
import Derived.Test.YtfaomcaimppmeaaDoorIb
set_option linter.unusedVariables false
namespace Go.Proofs
open Go.Shelf Go.RowKit Go.Lib Go.Sort
def Tryd.sortPr_ren : Go.Shelf.Ren := ⟨fun | 6 => 96 | 15 => 105 | 14 => 104 | 28 => 114 | 29 => 115 | 20 => 106 | 21 => 107 | 22 => 108 | 23 => 109 | 24 => 110 | 25 => 111 | 26 => 112 | 27 => 113 | 46 => 116 | 47 => 117 | 48 => 118 | 49 => 119 | 50 => 120 | 57 => 121 | n => n, fun | 22 => 29 | 24 => 89 | 25 => 132 | 3 => 3 | 39 => 98 | 0 => 0 | 53 => 156 | 55 => 158 | 4 => 4 | 46 => 150 | 45 => 149 | 50 => 108 | 5 => 5 | 9 => 9 | 66 => 159 | 70 => 163 | 76 => 165 | 77 => 79 | n => n, fun | n => n⟩
theorem Tryd.sortPr : Go.Proofs.SlLaysF0.n6 Tryd.prog Tryd.sortPr_ren := {
  mixed := by kernel_rfl
  f6 := ⟨Tryd.f96.name, by decide, Tryd.func96.trans (congrArg some (by kernel_rfl))⟩
  f14 := ⟨Tryd.f104.name, by decide, Tryd.func104.trans (congrArg some (by kernel_rfl))⟩
  f15 := Tryd.func105.trans (congrArg some (by kernel_rfl))
  f20 := ⟨Tryd.f106.name, by decide, Tryd.func106.trans (congrArg some (by kernel_rfl))⟩
  f21 := ⟨Tryd.f107.name, by decide, Tryd.func107.trans (congrArg some (by kernel_rfl))⟩
  f22 := ⟨Tryd.f108.name, by decide, Tryd.func108.trans (congrArg some (by kernel_rfl))⟩
  f23 := ⟨Tryd.f109.name, by decide, Tryd.func109.trans (congrArg some (by kernel_rfl))⟩
  f24 := ⟨Tryd.f110.name, by decide, Tryd.func110.trans (congrArg some (by kernel_rfl))⟩
  f25 := ⟨Tryd.f111.name, by decide, Tryd.func111.trans (congrArg some (by kernel_rfl))⟩
  f26 := ⟨Tryd.f112.name, by decide, Tryd.func112.trans (congrArg some (by kernel_rfl))⟩
  f27 := ⟨Tryd.f113.name, by decide, Tryd.func113.trans (congrArg some (by kernel_rfl))⟩
  f28 := Tryd.func114.trans (congrArg some (by kernel_rfl))
  f29 := Tryd.func115.trans (congrArg some (by kernel_rfl))
  f46 := ⟨Tryd.f116.name, by decide, Tryd.func116.trans (congrArg some (by kernel_rfl))⟩
  f47 := Tryd.func117.trans (congrArg some (by kernel_rfl))
  f48 := Tryd.func118.trans (congrArg some (by kernel_rfl))
  f49 := ⟨Tryd.f119.name, by decide, Tryd.func119.trans (congrArg some (by kernel_rfl))⟩
  f50 := ⟨Tryd.f120.name, by decide, Tryd.func120.trans (congrArg some (by kernel_rfl))⟩
  f57 := ⟨Tryd.f121.name, by decide, Tryd.func121.trans (congrArg some (by kernel_rfl))⟩
  t0 := Tryd.underlying0
  a0 := Tryd.isAgg0
  z0 := Tryd.sizeOf0
  v0 := Tryd.zeroValue0
  t3 := Tryd.underlying3
  a3 := Tryd.isAgg3
  z3 := Tryd.sizeOf3
  v3 := Tryd.zeroValue3
  t4 := Tryd.underlying4
  a4 := Tryd.isAgg4
  z4 := Tryd.sizeOf4
  v4 := Tryd.zeroValue4
  t5 := Tryd.underlying5
  a5 := Tryd.isAgg5
  z5 := Tryd.sizeOf5
  v5 := Tryd.zeroValue5
  t9 := Tryd.underlying9
  a9 := Tryd.isAgg9
  z9 := Tryd.sizeOf9
  v9 := Tryd.zeroValue9
  t22 := Tryd.underlying29
  a22 := Tryd.isAgg29
  z22 := Tryd.sizeOf29
  v22 := Tryd.zeroValue29
  t25 := Tryd.underlying132
  a25 := Tryd.isAgg132
  z25 := Tryd.sizeOf132
  v25 := Tryd.zeroValue132
  t39 := Tryd.underlying98
  a39 := Tryd.isAgg98
  z39 := Tryd.sizeOf98
  v39 := Tryd.zeroValue98
  t45 := Tryd.underlying149
  a45 := Tryd.isAgg149
  z45 := Tryd.sizeOf149
  v45 := Tryd.zeroValue149
  t46 := Tryd.underlying150
  a46 := Tryd.isAgg150
  z46 := Tryd.sizeOf150
  v46 := Tryd.zeroValue150
  t50 := Tryd.underlying108
  a50 := Tryd.isAgg108
  z50 := Tryd.sizeOf108
  v50 := Tryd.zeroValue108
  t53 := Tryd.underlying156
  a53 := Tryd.isAgg156
  z53 := Tryd.sizeOf156
  v53 := Tryd.zeroValue156
  t55 := Tryd.underlying158
  a55 := Tryd.isAgg158
  z55 := Tryd.sizeOf158
  v55 := Tryd.zeroValue158
  t66 := Tryd.underlying159
  a66 := Tryd.isAgg159
  z66 := Tryd.sizeOf159
  v66 := Tryd.zeroValue159
  t70 := Tryd.underlying163
  a70 := Tryd.isAgg163
  z70 := Tryd.sizeOf163
  v70 := Tryd.zeroValue163
  t76 := Tryd.underlying165
  a76 := Tryd.isAgg165
  z76 := Tryd.sizeOf165
  v76 := Tryd.zeroValue165
  t77 := Tryd.underlying79
  a77 := Tryd.isAgg79
  z77 := Tryd.sizeOf79
  v77 := Tryd.zeroValue79 }
abbrev Tryd.KP := { p : Int × Int // 0 ≤ p.1 ∧ p.1 ≤ 1114111 }
instance : Inhabited Tryd.KP := ⟨⟨(0, 0), by decide⟩⟩
def Tryd.encP (x : Tryd.KP) : List Value := [.int .i64 x.1.1, .int .i64 x.1.2]
def Tryd.cfP (x y : Tryd.KP) : Int := x.1.1 - y.1.1
set_option maxHeartbeats 1000000 in
theorem Tryd.closure97 (x y : Tryd.KP) (W : World) : Calls Tryd.prog 97 #[.agg #[.int .i64 x.1.1, .int .i64 x.1.2], .agg #[.int .i64 y.1.1, .int .i64 y.1.2]] W fun e w' => e = .returned (.int .i64 (Tryd.cfP x y)) ∧ ∃ q os', w' = grow (W.drewN q) os' := by
  have hw : IntKind.i64.wrap (x.1.1 - y.1.1) = Tryd.cfP x y := by
    have := x.2; have := y.2
    exact Go.Vai.wrap_i64 (by omega) (by omega)
  generalize Tryd.cfP x y = r at hw ⊢
  go_enter Tryd.func97, Tryd.ntmps97
  go_wp2
  go_ret
  exact ⟨rfl, 0, _, by rw [alloc_eq_grow, alloc_eq_grow, grow_grow]; rfl⟩
theorem Tryd.ltP (x y : Tryd.KP) : ltOf Tryd.cfP x y = decide (x.1.1 < y.1.1) := by
  unfold ltOf Tryd.cfP
  by_cases h : x.1.1 < y.1.1 <;> simp [h] <;> omega
theorem Tryd.swoP : SWO (ltOf Tryd.cfP) where
  irrefl x := by rw [Tryd.ltP]; simp
  trans x y z h1 h2 := by rw [Tryd.ltP] at *; simp at *; omega
  ntrans x y z h1 h2 := by rw [Tryd.ltP] at *; simp at *; omega
theorem Tryd.cmpLays97 (blk off size : Nat) (w : World) : CmpLays Tryd.prog 97 #[] Tryd.encP 2 Tryd.cfP blk off size w := fun _ _ _ _ x y => Tryd.closure97 x y _
theorem Tryd.sortP96 (blk off cap : Nat) (d : Array Tryd.KP) (w : World) (hH : HoldsK Tryd.encP 2 w blk off d) (hblk : blk < w.heap.size) (hsz : d.size < 4611686018427387904) :
    Calls Tryd.prog 96 #[.slice (some ⟨blk, off, none⟩) d.size cap, .func (.func 97) #[] #[]] w fun e w' => e = .returned (.tuple #[]) ∧ ∃ d' n os, PermIn 0 d.size d d' ∧ SortedIn (ltOf Tryd.cfP) 0 d.size d' ∧ w' = sortWorldK Tryd.encP 2 w blk off n d' os := by
  have eg : ∀ args w, (callFunc 97 args).run Tryd.prog w = .ok (.enter 97 args) w := enters_of Tryd.func97 (by kernel_rfl) rfl
  exact AnyQ.slices_SortFunc Tryd.sortPr 2 Tryd.isAgg89 Tryd.sizeOf89 Tryd.encP (fun _ => rfl) (fun x v hv => by simp [Tryd.encP] at hv; rcases hv with rfl | rfl <;> rfl) Tryd.cfP Tryd.swoP 97 #[] blk off cap d w eg (Tryd.cmpLays97 blk off d.size w) hH hblk hsz
theorem Tryd.perm_list {α : Type} [Inhabited α] {d d' : Array α} (h : PermIn 0 d.size d d') : d'.toList.Perm d.toList := by
  obtain ⟨h1, _, h2⟩ := h
  rw [Array.extract_eq_self_of_le (by omega), Array.extract_eq_self_of_le (by omega)] at h2
  exact h2
theorem Tryd.sorted_list {d d' : Array Tryd.KP} (hs : d'.size = d.size) (h : SortedIn (ltOf Tryd.cfP) 0 d.size d') : (d'.toList.map (·.1)).Pairwise fun a b => a.1 ≤ b.1 := by
  rw [List.pairwise_map, List.pairwise_iff_getElem]
  intro i j hi hj hij
  have := h i j (Nat.zero_le _) hij (by simpa [hs] using hj)
  rw [Tryd.ltP] at this
  simp at hi hj
  rw [getElem!_pos d' i hi, getElem!_pos d' j hj] at this
  simpa using this
theorem Tryd.sort_heap {w : World} {k off n : Nat} {d' : Array Tryd.KP} {os : Array Obj} {c : Array Value} {e : TypeId} {z : Nat × Nat} (hk : w.heap[k]? = some (.cells c e z)) :
    (sortWorldK Tryd.encP 2 w k off n d' os).heap[k]? = some (.cells (putCells id off (flatK Tryd.encP 2 d') c) e z) ∧ w.heap.size ≤ (sortWorldK Tryd.encP 2 w k off n d' os).heap.size ∧ ∀ i, i < w.heap.size → i ≠ k → (sortWorldK Tryd.encP 2 w k off n d' os).heap[i]? = w.heap[i]? := by
  have hlt : k < w.heap.size := (Array.getElem?_eq_some_iff.1 hk).1
  have hg : ∀ i, i < w.heap.size → (sortWorldK Tryd.encP 2 w k off n d' os).heap[i]? = (w.heap.modify k (onCells (putCells id off (flatK Tryd.encP 2 d'))))[i]? := by
    intro i hi
    show ((w.heap.modify k (onCells (putCells id off (flatK Tryd.encP 2 d')))) ++ os)[i]? = _
    rw [Array.getElem?_append_left (by simpa using hi)]
  refine ⟨?_, ?_, fun i hi hne => ?_⟩
  · rw [hg k hlt, Array.getElem?_modify, if_pos rfl, hk]
    rfl
  · show w.heap.size ≤ ((w.heap.modify k _) ++ os).size
    simp
  · rw [hg i hi, Array.getElem?_modify, if_neg (fun h => hne h.symm)]
end Go.Proofs
namespace Go.Vai
open Go.Proofs Go.Shelf Go.RowKit Go.Lib Go.Sort
def toKP : (l : List Pt) → (∀ p ∈ l, 0 ≤ p.1 ∧ p.1 ≤ 1114111) → List Tryd.KP := fun l h => l.attach.map fun p => ⟨p.1, h p.1 p.2⟩
theorem toKP_val (l : List Pt) (h : ∀ p ∈ l, 0 ≤ p.1 ∧ p.1 ≤ 1114111) : (toKP l h).map (·.1) = l := by
  unfold toKP
  rw [List.map_map]
  exact List.attach_map_subtype_val l
theorem toKP_len (l : List Pt) (h : ∀ p ∈ l, 0 ≤ p.1 ∧ p.1 ≤ 1114111) : (toKP l h).length = l.length := by simp [toKP]
theorem flatP_get (d : Array Tryd.KP) (i j : Nat) (hi : i < d.size) (hj : j < 2) : (flatK Tryd.encP 2 d)[i * 2 + j]! = (Tryd.encP d[i]!)[j]! := by
  rw [get_flatK _ _ _ _ (by omega)]
  rw [show (i * 2 + j) / 2 = i by omega, show (i * 2 + j) % 2 = j by omega]
theorem hk1 {x : Option Blk} {b : Nat} {blk : Blk} (h : hk (numd 0 [x]) b = some blk) : b = 0 ∧ x = some blk := by
  simp only [numd, hk] at h
  split at h
  · rename_i e; exact ⟨e.symm, h⟩
  · cases h
theorem E96_sound (G : Nat → Option (List FV)) : RFSound Tryd.prog G E96 := by
  intro f xs bl r bl' e
  unfold E96 at e
  split at e
  · rename_i hf
    subst hf
    split at e
    · rename_i n es
      split at e
      · rename_i l hl
        split at e
        · rename_i hc
          obtain ⟨rfl, hko⟩ := hc
          injection e with e
          injection e with e1 e2
          subst e1; subst e2
          have hes := decPs_some hl
          subst hes
          refine ⟨Nat.le_refl _, fun C σ w vs hC hw hown hfr HR hlv hv K hK => ?_⟩
          match vs, hlv with
          | [u1, u2], _ =>
            have hu1 := hv 0 _ u1 rfl rfl
            have hu2 := hv 1 _ u2 rfl rfl
            have hf2 : u2 = .func (.func 97) #[] #[] := by
              cases hu2 with
              | fn _ _ vs h1 h2 =>
                have : vs = [] := by simpa using h1.symm
                subst this; rfl
            subst hf2
            have hen : ∀ args w, (callFunc 96 args).run Tryd.prog w = .ok (.enter 96 args) w := enters_of Tryd.func96 (by kernel_rfl) rfl
            refine .inl ⟨hen _ _, ?_⟩
            by_cases hne : l = []
            · subst hne
              have hsl : ∃ A cap, u1 = .slice A 0 cap := by
                cases hu1 with
                | vir _ _ _ A h => exact ⟨A, 0, rfl⟩
                | osl _ _ _ _ k' d' nn a cap h1 h2 h3 h4 => exact ⟨some a, cap, rfl⟩
              obtain ⟨A, cap, rfl⟩ := hsl
              have hS : Calls Tryd.prog 96 #[.slice A 0 cap, .func (.func 97) #[] #[]] w _ := AnyF.slices_SortFunc_none Tryd.sortPr A cap (.func (.func 97) #[] #[]) w
              refine hS.mono ?_
              rintro ex w' ⟨rfl, rfl⟩
              exact hK (.tuple #[]) σ _ (.tup [] [] rfl fun i x v e => by simp at e) (by rw [show sortP ([] : List Pt) = [] by simp [sortP]]; exact HR) (fun _ _ => rfl) hfr
            · have hpos : 0 < l.length := List.length_pos_iff.2 hne
              have B := HR.bk 0 _ rfl
              generalize hE : l.map ePt = es at B
              cases B with
              | vir sz h => simp at hE; exact absurd hE hne
              | arr _ _ k d c t z g1 g2 g3 g4 g5 =>
                subst hE
                have hklt : k < w.heap.size := (Array.getElem?_eq_some_iff.1 g2).1
                generalize hN : l.length = N at hu1
                cases hu1 with
                | vir _ _ _ A h => rw [g1] at h; cases h
                | osl _ _ _ _ k' d' nn a cap h1 h2 h3 h4 =>
                  rw [g1] at h1
                  injection h1 with h1
                  injection h1 with q1 q2 q3 q4
                  subst q1; subst q2; subst q3
                  subst hN
                  have hcap : ¬ cap = 0 := by omega
                  have ha := h3.resolve_left hcap
                  simp only [Nat.zero_mul, Nat.add_zero] at ha h4
                  subst ha
                  -- the row's elements
                  let D : Array Tryd.KP := (toKP l hko.2.1).toArray
                  have hDs : D.size = l.length := by simp [D, toKP_len]
                  have hDv : D.toList.map (·.1) = l := toKP_val l hko.2.1
                  have hDget : ∀ i (hi : i < D.size), l[i]? = some D[i]!.1 := by
                    intro i hi
                    rw [← hDv, getElem!_pos D i hi]
                    simp [hi]
                  have hcell : ∀ i j, i < l.length → j < 2 → ∃ v, c[d + (i * 2 + j)]? = some v ∧ v = (Tryd.encP D[i]!)[j]! := by
                    intro i j hi hj
                    have hli := hDget i (by omega)
                    have e1 : (l.map ePt)[i]? = some (ePt D[i]!.1) := by simp [hli]
                    have hj2 : j = 0 ∨ j = 1 := by omega
                    rcases hj2 with rfl | rfl
                    · obtain ⟨v, r1, r2⟩ := g5 i _ 0 _ e1 rfl
                      exact ⟨v, r1, VR.sc_inv (σ := σ) (.fz _ _ r2)⟩
                    · obtain ⟨v, r1, r2⟩ := g5 i _ 1 _ e1 rfl
                      exact ⟨v, r1, VR.sc_inv (σ := σ) (.fz _ _ r2)⟩
                  have hH : HoldsK Tryd.encP 2 w k d D := by
                    intro j hj
                    rw [size_flatK] at hj
                    have hd : j = j / 2 * 2 + j % 2 := by omega
                    obtain ⟨v, r1, r2⟩ := hcell (j / 2) (j % 2) (by omega) (by omega)
                    rw [← hd] at r1
                    have hjc : d + j < c.size := (Array.getElem?_eq_some_iff.1 r1).1
                    refine ⟨?_, ?_⟩
                    · rw [cell_block g2, r1, r2, ← flatP_get _ _ _ (by omega) (by omega), ← hd]
                      rfl
                    · have := g3.no (d + j) hjc
                      simp only [World.frozen?, g2]
                      simp; omega
                  have hS := Tryd.sortP96 k d cap D w hH hklt (by have := hko.2.2; omega)
                  rw [hDs] at hS
                  refine hS.mono ?_
                  rintro ex w' ⟨rfl, D', nd, os, p1, p2, rfl⟩
                  obtain ⟨s1, s2, s3⟩ := Tryd.sort_heap (k := k) (off := d) (n := nd) (d' := D') (os := os) g2
                  rw [← hDs] at p1 p2
                  have hls : D'.toList.map (·.1) = sortP l := by
                    refine sortP_uniq ?_ hko.1 (Tryd.sorted_list p1.1 p2)
                    have := (Tryd.perm_list p1).map fun x : Tryd.KP => x.1
                    rwa [hDv] at this
                  have hD's : D'.size = l.length := p1.1.trans hDs
                  have hD'get : ∀ i, i < l.length → (sortP l)[i]? = some D'[i]!.1 := by
                    intro i hi
                    rw [← hls, getElem!_pos D' i (by omega)]
                    simp [show i < D'.size by omega]
                  refine hK (.tuple #[]) σ _ (.tup [] [] rfl fun i x v e => by simp at e) ?_ (fun _ _ => rfl) hfr
                  have hcs : (putCells id d (flatK Tryd.encP 2 D') c).size = c.size := by simp [putCells]
                  refine (HR.step (fun i => i = k) (SLe.refl σ) ⟨?_, ?_, ?_, ?_, ?_⟩ s2 (fun i hi hne => s3 i hi hne) (fun i hi _ => hi ▸ ⟨0, _, rfl, .at _ _ _ _ _ g1⟩) ?_ ?_ ?_).1
                  · rw [hw]; exact s2
                  · intro i hi hno
                    rw [hw] at hi ⊢
                    refine s3 i hi fun e => hno ?_
                    rw [hown, e]
                    exact ⟨0, _, rfl, .at _ _ _ _ _ g1⟩
                  · rw [hw]; rfl
                  · rw [hw]; rfl
                  · rw [hw]; rfl
                  · rintro b' i ⟨blk, hb1, hb2⟩
                    obtain ⟨rfl, hb3⟩ := hk1 hb1
                    injection hb3 with hb3
                    subst hb3
                    cases hb2 with
                    | «at» _ _ d2 n2 sz2 h =>
                      rw [g1] at h
                      injection h with h
                      injection h with q1
                      subst q1
                      exact ⟨by omega, .inl ⟨0, _, rfl, .at _ _ _ _ _ g1⟩⟩
                  · rintro b1 b2 i ⟨blk1, hb1, _⟩ ⟨blk2, hb2, _⟩
                    rw [(hk1 hb1).1, (hk1 hb2).1]
                  · intro b' blk hb
                    refine .inr fun hle => ?_
                    obtain ⟨rfl, hb3⟩ := hk1 hb
                    injection hb3 with hb3
                    subst hb3
                    refine .arr 2 _ k d _ t z (by rw [hcs]; exact g1) s1 (g3.of_size hcs) (fun i cl e => ?_) fun i cl j x e1 e2 => ?_
                    · obtain ⟨p, _, rfl⟩ := List.mem_map.1 (List.mem_of_getElem? e)
                      rfl
                    · rw [List.getElem?_map] at e1
                      obtain ⟨p, hp1, rfl⟩ := Option.map_eq_some_iff.1 e1
                      have hil : i < l.length := by
                        have := (List.getElem?_eq_some_iff.1 hp1).1
                        rwa [(sortP_perm l).length_eq] at this
                      rw [hD'get i hil] at hp1
                      injection hp1 with hp1
                      subst hp1
                      have hj2 : j < 2 := by
                        have := (List.getElem?_eq_some_iff.1 e2).1
                        simpa [ePt] using this
                      have hsz : d + (i * 2 + j) < c.size := by omega
                      refine ⟨(Tryd.encP D'[i]!)[j]!, ?_, ?_⟩
                      · unfold putCells
                        rw [Array.getElem?_mapIdx, Array.getElem?_eq_getElem hsz]
                        simp only [Option.map_some]
                        rw [if_pos (by rw [size_flatK]; omega), show d + (i * 2 + j) - d = i * 2 + j by omega, flatP_get _ _ _ (by omega) hj2]
                        rfl
                      · have hj3 : j = 0 ∨ j = 1 := by omega
                        rcases hj3 with rfl | rfl
                        · simp [ePt] at e2; subst e2; exact .sc _ rfl
                        · simp [ePt] at e2; subst e2; exact .sc _ rfl
        · cases e
      · cases e
    · cases e
  · cases e
end Go.Vai
