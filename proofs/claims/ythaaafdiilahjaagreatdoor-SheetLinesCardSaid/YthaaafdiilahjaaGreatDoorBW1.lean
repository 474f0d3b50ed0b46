/-
  What functions of layer 9 and of its reference compute: equations of the abstract run, and plain laws of them.
-/
import Derived.Test.YthaaafdiilahjaaGreatDoorProg
import Derived.Shelf.RegionOpenPlain
import Derived.Lib.Strings
import Derived.Lib.Slices
import Derived.Lib.Walk
import Derived.Lib.Builder
import Derived.Lib.AppendStr
import Derived.Lib.UnsafeStr
import Derived.WalkKit
import Derived.Laws.Externs
import Derived.KernelRfl
import Derived.Test.YthaaafdiilahjaaGreatDoorBKA
set_option linter.unusedVariables false
set_option linter.unusedSimpArgs false
namespace Go.Proofs
open Go.Shelf Go.RowKit
set_option maxRecDepth 100000 in
theorem Tryz.sizeB : ∃ j, Tryz.prog.info? 67 = some j ∧ j.size = 2 := by
 have h : (Tryz.prog.info? 67).map (·.size) = some 2 := by kernel_rfl
 obtain ⟨j, h1, h2⟩ := Option.map_eq_some_iff.1 h
 exact ⟨j, h1, h2⟩
theorem Tryz.und64 : Tryz.prog.underlying 64 = some (.pointer 67) := by kernel_rfl
theorem Tryz.und144 : Tryz.prog.underlying 144 = some .unsafePointer := by kernel_rfl
set_option maxRecDepth 100000 in
theorem Tryz.cc_used (b : Nat) (w : World) (h0 : w.cell? ⟨b, 0, none⟩ = some (.pointer (some ⟨b, 0, none⟩))) :
 Calls Tryz.prog 65 #[.pointer (some ⟨b, 0, none⟩)] w fun e w' => e = .returned (.tuple #[]) ∧ w' = w := by
 obtain ⟨j, hj, _⟩ := Tryz.sizeB
 go_enter Tryz.func65, Tryz.ntmps65
 go_wp2
 rw [Lib.run_neq_ptr_same w _ Tryz.und64 hj]
 go_wp2
 go_end0
 exact ⟨rfl, rfl⟩
set_option maxRecDepth 100000 in
theorem Tryz.cc_fresh (b : Nat) (w : World) (h0 : w.cell? ⟨b, 0, none⟩ = some (.pointer none)) (hsh : w.shape? b = some (67, 2)) (hfz : w.frozen? ⟨b, 0, none⟩ = false) :
 Calls Tryz.prog 65 #[.pointer (some ⟨b, 0, none⟩)] w fun e w' => e = .returned (.tuple #[]) ∧ w' = w.setCell ⟨b, 0, none⟩ (.pointer (some ⟨b, 0, none⟩)) := by
 obtain ⟨j, hj, hjs⟩ := Tryz.sizeB
 go_enter Tryz.func65, Tryz.ntmps65
 go_wp2
 rw [Lib.run_to_unsafe w ⟨b, 0, none⟩ Tryz.und64 Tryz.und144 hj (by rw [hjs]; decide) hsh (Nat.zero_lt_succ 1)]
 simp only [Result.andThen]
 rw [Oper.upon_value]
 go_wp2
 rw [run_callFunc_extern Tryz.func98 (by kernel_rfl) (by kernel_rfl) (by kernel_rfl) (e := Extern.AbiNoEscape.same) (by kernel_rfl)]
 rw [Lib.run_noEscape]
 simp only [Result.andThen]
 rw [Oper.upon_value]
 go_wp2
 rw [Lib.run_from_unsafe w ⟨b, 0, none⟩ Tryz.und144 Tryz.und64 hj hsh (by kernel_rfl)]
 simp only [Result.andThen]
 rw [Oper.upon_value]
 go_wp2
 go_end0
 exact ⟨rfl, rfl⟩
end Go.Proofs
namespace Go.Proofs
open Go.Shelf Go.RowKit Go.Vai
abbrev byV (l : List UInt8) : List Value := l.map fun b => .int .u8 b.toNat
theorem Tryz.info5 : ∃ i, Tryz.prog.info? 5 = some i ∧ i.zero = some (.int .u8 0) ∧ i.size = 1 ∧ i.bytes = 1 := by
 have h : (Tryz.prog.info? 5).map (fun i => (i.zero, i.size, i.bytes)) = some (some (.int .u8 0), 1, 1) := by kernel_rfl
 obtain ⟨j, h1, h2⟩ := Option.map_eq_some_iff.1 h
 injection h2 with h2 h3
 injection h3 with h3 h4
 exact ⟨j, h1, h2, h3, h4⟩
theorem Tryz.und65 : Tryz.prog.underlying 65 = some (.slice 5) := by kernel_rfl
theorem Tryz.und9 : Tryz.prog.underlying 9 = some .string := by kernel_rfl
theorem own_of_buf {w : World} {k U : Nat} {l : List UInt8} {v : Value} (h : BufAt w k U l v) : w.ownsRow 0 U 1 v l.length (byV l) ∧ v.ownBlock ≠ some k := by
 rcases h with ⟨rfl, rfl⟩ | ⟨g, cap, cur, rfl, hne, hg, h1, h2, h3, h4⟩
 ·exact ⟨⟨rfl, .inl ⟨rfl, rfl⟩⟩, by simp [Value.ownBlock]⟩
 ·refine ⟨⟨by simp [byV], .inr ⟨g, cap, cur, rfl, Nat.zero_le _, hg, h1, h2, by simpa using h3, by simpa using h4⟩⟩, ?_⟩
  simp [Value.ownBlock]
  exact hne
theorem buf_of_own {w : World} {k U : Nat} {l : List UInt8} {v : Value} (h : w.ownsRow 0 U 1 v l.length (byV l)) (hne : v.ownBlock ≠ some k) : BufAt w k U l v := by
 rcases h.2 with ⟨rfl, hn⟩ | ⟨g, cap, cur, rfl, _, hg, h1, h2, h3, h4⟩
 ·exact .inl ⟨rfl, List.length_eq_zero_iff.1 hn⟩
 ·exact .inr ⟨g, cap, cur, rfl, fun e => hne (by rw [← e]; rfl), hg, h1, h2, by simpa using h3, by simpa using h4⟩
theorem Tryz.app_buf {w : World} {k : Nat} {l : List UInt8} {v : Value} (h : BufAt w k 5 l v) (hk : k < w.heap.size) (s : ByteArray) (hl : l.length + s.size ≤ 140737488355328) (ty : TypeId) :
 ∃ v' w', (Builtin.append_ #[65, 9] ty #[v, .string s]).run Tryz.prog w = .ok v' w' ∧ BufAt w' k 5 (l ++ s.data.toList) v' ∧ w.grownBy w' v.ownBlock ∧ ∀ g, v'.ownBlock = some g → v.ownBlock = some g ∨ w.heap.size ≤ g := by
 obtain ⟨i, hi, hz, hs1, hb1⟩ := Tryz.info5
 obtain ⟨hown, hne⟩ := own_of_buf h
 have h63 : l.length + s.size ≤ maxLen := by unfold maxLen; omega
 obtain ⟨v', w', hr, h2, h3, h4⟩ := Lib.run_append_own_string (P := Tryz.prog) w 0 65 9 ty 5 i Tryz.und65 Tryz.und9 hi hz hs1 hb1 v l.length (byV l) hown s h63 hl (Nat.zero_le _)
 have hnew : ∀ g, v'.ownBlock = some g → v.ownBlock = some g ∨ w.heap.size ≤ g := by
  intro g hg
  rcases hown.2 with ⟨rfl, _⟩ | ⟨g0, cap, cur, rfl, _, hg0, c1, c2, c3, c4⟩
  ·by_cases hm : s.size = 0
   ·have := h4.2 ⟨rfl, hm⟩
    rw [this] at hg
    cases hg
   ·have := run_append_nil_string (P := Tryz.prog) w 65 9 ty 5 i (.int .u8 0) Tryz.und65 Tryz.und9 hi hz s (by omega) (by omega) (by rw [hb1]; omega)
    rw [this] at hr
    injection hr with hr _
    rw [← hr] at hg
    simp [Value.ownBlock] at hg
    exact .inr (by omega)
  ·by_cases hroom : l.length + s.size ≤ cap
   ·have := Lib.run_append_room_string (P := Tryz.prog) w 65 9 ty 5 i Tryz.und65 Tryz.und9 hi hs1 g0 l.length cap cur hg0 s hroom (by omega)
    rw [this] at hr
    injection hr with hr _
    rw [← hr] at hg
    exact .inl hg
   ·have hc : ∀ j u, (byV l)[j]? = some u → w.cell? ((⟨g0, 0, none⟩ : Addr).add j) = some u := hown.cells (g := g0) rfl
    have := Lib.run_append_grow_string (P := Tryz.prog) w 65 9 ty 5 i (.int .u8 0) Tryz.und65 Tryz.und9 hi hz ⟨g0, 0, none⟩ l.length cap (byV l) (by rw [hs1]; simp [byV]) hc s (by omega) (by omega) (by rw [hb1]; exact growslice_fits (by omega) (by omega))
    rw [this] at hr
    injection hr with hr _
    rw [← hr] at hg
    simp [Value.ownBlock] at hg
    exact .inr (by omega)
 refine ⟨v', w', hr, buf_of_own ?_ (fun e => ?_), h3, hnew⟩
 ·have e1 : byV (l ++ s.data.toList) = byV l ++ Lib.strCells s := by simp [byV, Lib.strCells]
  have e2 : (l ++ s.data.toList).length = l.length + s.size := by simp
  rw [e1, e2]
  exact h2
 ·rcases hnew k e with e | e
  ·exact hne e
  ·omega
theorem Tryz.cc (b : Nat) (w : World) (p v : Value) (hb : w.heap[b]? = some (.cells #[p, v] 67 (0, 0))) (hp : p = .pointer none ∨ p = .pointer (some ⟨b, 0, none⟩)) :
 Calls Tryz.prog 65 #[.pointer (some ⟨b, 0, none⟩)] w fun e w' => e = .returned (.tuple #[]) ∧ w'.heap[b]? = some (.cells #[.pointer (some ⟨b, 0, none⟩), v] 67 (0, 0)) ∧ w.grownBy w' (some b) ∧ w'.heap.size = w.heap.size := by
 have hlt : b < w.heap.size := (Array.getElem?_eq_some_iff.1 hb).1
 rcases hp with rfl | rfl
 ·refine (Tryz.cc_fresh b w (by rw [Lib.cell_of_heap hb]; rfl) (by simp [World.shape?, hb]) (Lib.frozen_of_heap hb 0)).mono ?_
  rintro e w' ⟨rfl, rfl⟩
  refine ⟨rfl, by simp [World.setCell, Array.getElem?_modify, hb], ⟨rfl, rfl, rfl, by simp [World.setCell], fun k _ hk => Below.heap_setCell _ _ _ _ (fun e => hk (by simp [e]))⟩, by simp [World.setCell]⟩
 ·refine (Tryz.cc_used b w (by rw [Lib.cell_of_heap hb]; rfl)).mono ?_
  rintro e w' ⟨rfl, rfl⟩
  exact ⟨rfl, hb, ⟨rfl, rfl, rfl, Nat.le_refl _, fun _ _ _ => rfl⟩, rfl⟩
theorem BufAt.kept {w w' : World} {k U : Nat} {l : List UInt8} {v : Value} (h : BufAt w k U l v) (hw : ∀ g, v.ownBlock = some g → w'.heap[g]? = w.heap[g]?) : BufAt w' k U l v := by
 rcases h with h | ⟨g, cap, cur, rfl, h0, h1, h2⟩
 ·exact .inl h
 ·exact .inr ⟨g, cap, cur, rfl, h0, (hw g rfl).trans h1, h2⟩
end Go.Proofs
namespace Go.Proofs
open Go.Shelf Go.RowKit Go.Vai
theorem wpList_app {ops : Array Oper} {rest : List Oper} {o : Oper} {a : Act} {Q : Exit → Act → World → Prop} {w : World} {k : Nat} {l : List UInt8} {v : Value} (hgd : o.guard = none) (sl x : Operand)
 (ho : o.op = .call { callee := .builtin .append, args := #[sl, x], argTypes := #[65, 9] }) (hs : a.eval sl = v) (h : BufAt w k 5 l v) (hk : k < w.heap.size) (s : ByteArray) (hx : a.eval x = .string s) (hl : l.length + s.size ≤ 140737488355328)
 (hh : ∀ v' w', BufAt w' k 5 (l ++ s.data.toList) v' → w.grownBy w' v.ownBlock → (∀ g, v'.ownBlock = some g → v.ownBlock = some g ∨ w.heap.size ≤ g) → wpList Tryz.prog ops Q rest (a.put o.dst v') w') : wpList Tryz.prog ops Q (o :: rest) a w := by
 refine wpList_plain hgd fun K hK => ?_
 obtain ⟨v', w', hr, h2, h3, h4⟩ := Tryz.app_buf h hk s hl o.type
 unfold Oper.wp execOp
 simp only [ho, resolve, invoke, builtin, Sem.run_bind, Sem.run_pure, Result.andThen_ok, List.map_toArray, List.map_cons, List.map_nil, hs, hx, hr]
 exact hK _ _ (hh v' w' h2 h3 h4)
set_option maxRecDepth 100000 in
theorem Tryz.ws (b : Nat) (l : List UInt8) (s : ByteArray) (w : World) (p v : Value) (hb : w.heap[b]? = some (.cells #[p, v] 67 (0, 0))) (hp : p = .pointer none ∨ p = .pointer (some ⟨b, 0, none⟩)) (hbuf : BufAt w b 5 l v) (hl : l.length + s.size ≤ 140737488355328) :
 Calls Tryz.prog 32 #[.pointer (some ⟨b, 0, none⟩), .string s] w fun e w' => e = .returned (.tuple #[.int .i64 s.size, .nilIface]) ∧ ∃ v', w'.heap[b]? = some (.cells #[.pointer (some ⟨b, 0, none⟩), v'] 67 (0, 0)) ∧ BufAt w' b 5 (l ++ s.data.toList) v' ∧
  (w'.os = w.os ∧ w'.tape = w.tape ∧ w'.output = w.output ∧ w.heap.size ≤ w'.heap.size) ∧ (∀ k, k < w.heap.size → k ≠ b → v.ownBlock ≠ some k → w'.heap[k]? = w.heap[k]?) ∧ ∀ g, v'.ownBlock = some g → v.ownBlock = some g ∨ w.heap.size ≤ g := by
 have hlt : b < w.heap.size := (Array.getElem?_eq_some_iff.1 hb).1
 have hne := (own_of_buf hbuf).2
 go_enter Tryz.func32, Tryz.ntmps32
 go_wp2_with (go_at_call 65; refine (Tryz.cc b w p v hb hp).mono ?_)
 rintro e w1 ⟨rfl, hb1, hg1, hs1⟩
 have hbuf1 : BufAt w1 b 5 l v := BufAt.kept hbuf fun g hg => hg1.block g (by
  rcases hbuf with ⟨rfl, _⟩ | ⟨g0, cap, cur, rfl, h0, h1, _⟩
  ·cases hg
  ·injection hg with hg
   have := (Array.getElem?_eq_some_iff.1 h1).1
   simp at hg
   omega) (fun e => hne (by injection e with e; rw [← e]; exact hg))
 have c0 : w1.cell? ⟨b, 0, none⟩ = some (.pointer (some ⟨b, 0, none⟩)) := by rw [Lib.cell_of_heap hb1]; rfl
 have c1 : w1.cell? ⟨b, 1, none⟩ = some v := by rw [Lib.cell_of_heap hb1]; rfl
 go_wp2_with (at_builtin; refine wpList_app rfl _ _ rfl rfl hbuf1 (by omega) s rfl hl ?_)
 intro v' w2 hbuf2 hg2 hnew
 have hb2 : w2.heap[b]? = some (.cells #[.pointer (some ⟨b, 0, none⟩), v] 67 (0, 0)) := by
  rw [hg2.block b (by omega) (fun e => hne e.symm)]
  exact hb1
 have d0 : w2.cell? ⟨b, 0, none⟩ = some (.pointer (some ⟨b, 0, none⟩)) := by rw [Lib.cell_of_heap hb2]; rfl
 have d1 : w2.cell? ⟨b, 1, none⟩ = some v := by rw [Lib.cell_of_heap hb2]; rfl
 have f1 : w2.frozen? ⟨b, 1, none⟩ = false := Lib.frozen_of_heap hb2 1
 have hne2 := (own_of_buf hbuf2).2
 obtain ⟨ao, n', cap, rfl⟩ : ∃ ao n' cap, v' = .slice ao n' cap := by
  rcases hbuf2 with ⟨hv, _⟩ | ⟨g, cap, cur, hv, _⟩
  ·exact ⟨_, _, _, hv⟩
  ·exact ⟨_, _, _, hv⟩
 go_wp2
 go_ret2
 refine ⟨rfl, _, by simp [World.setCell, Array.getElem?_modify, hb2], BufAt.kept hbuf2 fun g hg => Below.heap_setCell _ _ _ _ (fun e => hne2 (by rw [hg, e])), ⟨hg2.os.trans hg1.os, hg2.tape.trans hg1.tape, hg2.output.trans hg1.output, by have := hg2.size; simp [World.setCell]; omega⟩, fun k h1 h2 h3 => ?_, fun g hg => ?_⟩
 ·rw [Below.heap_setCell _ _ _ _ (fun e => h2 e), hg2.block k (by omega) (fun e => h3 e.symm), hg1.block k h1 (fun e => h2 (by injection e))]
 ·have := hnew g hg
  omega
end Go.Proofs
namespace Go.Proofs
open Go.Shelf Go.RowKit Go.Vai
theorem freeze_facts (w : World) (g n : Nat) (hn : n ≠ 0) (cap : Nat) : ((w.drew.freeze ⟨g, 0, none⟩ n).os = w.os ∧ (w.drew.freeze ⟨g, 0, none⟩ n).tape = w.tape ∧ (w.drew.freeze ⟨g, 0, none⟩ n).output = w.output ∧ w.heap.size ≤ (w.drew.freeze ⟨g, 0, none⟩ n).heap.size) ∧
 ∀ k, k < w.heap.size → (Value.slice (some ⟨g, 0, none⟩) n cap).ownBlock ≠ some k → (w.drew.freeze ⟨g, 0, none⟩ n).heap[k]? = w.heap[k]? := by
 unfold World.freeze
 rw [if_neg hn]
 refine ⟨⟨rfl, rfl, rfl, ?_⟩, fun k hk h => ?_⟩
 ·show w.heap.size ≤ (w.heap.modify g _).size
  rw [Array.size_modify]
  exact Nat.le_refl _
 ·show (w.heap.modify g _)[k]? = _
  rw [Array.getElem?_modify, if_neg (fun e => h (by rw [← e]; rfl))]
theorem Tryz.und114 : Tryz.prog.underlying 114 = some (.pointer 5) := by kernel_rfl
set_option maxHeartbeats 4000000 in
set_option maxRecDepth 100000 in
theorem Tryz.bstr (b : Nat) (l : List UInt8) (w : World) (p v : Value) (hb : w.heap[b]? = some (.cells #[p, v] 67 (0, 0))) (hbuf : BufAt w b 5 l v) (h0 : l ≠ []) :
 Calls Tryz.prog 35 #[.pointer (some ⟨b, 0, none⟩)] w fun e w' => e = .returned (.string ⟨l.toArray⟩) ∧ (w'.os = w.os ∧ w'.tape = w.tape ∧ w'.output = w.output ∧ w.heap.size ≤ w'.heap.size) ∧ ∀ k, k < w.heap.size → v.ownBlock ≠ some k → w'.heap[k]? = w.heap[k]? := by
 have hl0 : l.length ≠ 0 := by simpa using h0
 rcases hbuf with ⟨_, hz⟩ | ⟨g, cap, cur, rfl, hne, hg, hnc, hcm, hcs, htake⟩
 ·exact absurd hz h0
 have c1 : w.drew.cell? ⟨b, 1, none⟩ = some (.slice (some ⟨g, 0, none⟩) l.length cap) := by
  have : w.drew.heap[b]? = some (.cells #[p, .slice (some ⟨g, 0, none⟩) l.length cap] 67 (0, 0)) := hb
  rw [Lib.cell_of_heap this]; rfl
 have hgd : w.drew.heap[g]? = some (.cells cur 5 (0, 0)) := hg
 have hSD : (Builtin.unsafeSliceData_ #[65] 114 #[.slice (some ⟨g, 0, none⟩) l.length cap]).run Tryz.prog w.drew = .ok (.pointer (some ⟨g, 0, none⟩)) w.drew :=
  Lib.run_unsafeSliceData_row _ _ _ _ _ _ (by omega)
 have hUS : (Builtin.unsafeString_ #[114, 3] 9 #[.pointer (some ⟨g, 0, none⟩), .int .i64 l.length]).run Tryz.prog w.drew = .ok (.string ⟨l.toArray⟩) (w.drew.freeze ⟨g, 0, none⟩ l.length) := by
  refine Lib.run_unsafeString_row w.drew 114 3 9 5 Tryz.und114 (by kernel_rfl) g cur.size (by simp [World.shape?, hgd]) l h0 (by omega) (by unfold maxLen at hcm; omega) ?_
  intro j x hx
  have hj : j < l.length := (List.getElem?_eq_some_iff.1 hx).1
  have h1 : (cur.toList.take l.length)[j]? = some (.int .u8 x.toNat) := by rw [htake, List.getElem?_map, hx]; rfl
  rw [List.getElem?_take, if_pos hj, Array.getElem?_toList] at h1
  show w.drew.cell? ((⟨g, 0, none⟩ : Addr).add j) = _
  rw [Addr.add_lit, Lib.cell_of_heap hgd, Nat.zero_add]
  exact h1
 have mixed : Tryz.prog.follows .mixedOrders = true := by kernel_rfl
 go_enter Tryz.func35, Tryz.ntmps35
 go_wp2
 go_region_o
 all_goals (go_wp2; go_ret; exact ⟨rfl, freeze_facts w g l.length hl0 cap⟩)
end Go.Proofs
namespace Go.Vai
open Go.Proofs
theorem hk_one {x : Option Blk} {b : Nat} {blk : Blk} (h : hk (numd 0 [x]) b = some blk) : b = 0 ∧ x = some blk := by
 simp only [numd, hk] at h
 split at h
 ·rename_i e; exact ⟨e.symm, h⟩
 ·cases h
theorem owns_bld {σ : Nat → Option Loc} {w : World} {b T U k q : Nat} {l : List UInt8} {p v : Value} (hσ : σ b = some (.here k 0 2 1)) (hb : w.heap[k]? = some (.cells #[p, v] T (0, 0))) (h : Owns σ w b (.bld T U l) q) : q = k ∨ v.ownBlock = some q := by
 cases h with
 | «at» _ _ d n sz h => rw [hσ] at h; injection h with h; injection h with h; exact .inl h.symm
 | buf _ _ _ k1 d n sz c e z _ o sp len cap h1 h2 h3 =>
  rw [hσ] at h1
  injection h1 with h1; injection h1 with h1
  subst h1
  rw [hb] at h2
  injection h2 with h2; injection h2 with h2
  subst h2
  simp at h3
  subst h3
  exact .inr rfl
theorem bld_owns {σ : Nat → Option Loc} {w : World} {b T U k q : Nat} {l : List UInt8} {p v : Value} (hσ : σ b = some (.here k 0 2 1)) (hb : w.heap[k]? = some (.cells #[p, v] T (0, 0))) (h : q = k ∨ v.ownBlock = some q) : Owns σ w b (.bld T U l) q := by
 rcases h with rfl | h
 ·exact .at _ _ _ _ _ hσ
 ·cases v with
  | slice a n c =>
   cases a with
   | none => cases h
   | some a =>
    obtain ⟨q', o, sp⟩ := a
    injection h with h
    simp at h
    subst h
    exact .buf T U l k 0 2 1 _ _ _ _ o sp n c hσ hb rfl
  | _ => cases h
theorem enters32 : ∀ args w, (callFunc 32 args).run Tryz.prog w = .ok (.enter 32 args) w := fun args w => enters_of Tryz.func32 (by kernel_rfl) rfl args w
theorem enters35 : ∀ args w, (callFunc 35 args).run Tryz.prog w = .ok (.enter 35 args) w := fun args w => enters_of Tryz.func35 (by kernel_rfl) rfl args w
set_option maxRecDepth 100000 in
theorem ws_told {G : Nat → Option (List FV)} (l : List UInt8) (s : ByteArray) (hl : l.length + s.size ≤ 140737488355328) :
 [some (Blk.bld 67 5 l)].length ≤ [some (Blk.bld 67 5 (l ++ s.data.toList))].length ∧
 ∀ (w : World) (vs : List Value), Told Tryz.prog G (fun _ => False) [.bp 0 0, .fz (.sc (.string s))] [some (Blk.bld 67 5 l)] (.tup [i64 s.size, .fz (.sc .nilIface)]) [some (Blk.bld 67 5 (l ++ s.data.toList))] w vs (Does Tryz.prog 32 vs.toArray w) := by
 refine ⟨Nat.le_refl _, fun w vs C σ hG hrc hw hown hfr R hl2 hv K hK => ?_⟩
 match vs, hl2 with
 | [u0, u1], _ =>
  have h0 := hv 0 _ u0 rfl rfl
  obtain rfl := (hv 1 _ u1 rfl rfl).sc_inv
  have B := R.bk 0 _ rfl
  cases B with
  | bld _ _ _ k p v g1 g2 g3 g4 =>
   obtain ⟨k', n', hσ, rfl⟩ := h0.bp_inv
   rw [g1] at hσ
   injection hσ with hσ; injection hσ with hσ
   subst hσ
   have hlive : ∀ q, (q = k ∨ v.ownBlock = some q) → Live (hk (numd 0 [some (Blk.bld 67 5 l)])) σ w 0 q := fun q h => ⟨_, rfl, bld_owns g1 g2 h⟩
   have hkz : k < w.heap.size := (Array.getElem?_eq_some_iff.1 g2).1
   refine .inl ⟨enters32 _ _, (Tryz.ws k l s w p v g2 g3 g4 hl).mono ?_⟩
   rintro e w' ⟨rfl, v', hb', hbuf', ⟨f1, f2, f3, f4⟩, hkeep, hnew⟩
   have hlive' : ∀ q, Owns σ w' 0 (.bld 67 5 (l ++ s.data.toList)) q → (q = k ∨ v.ownBlock = some q) ∨ (w.heap.size ≤ q ∧ q < w'.heap.size) := by
    intro q h
    rcases owns_bld g1 hb' h with h | h
    ·exact .inl (.inl h)
    ·rcases hnew q h with h2 | h2
     ·exact .inl (.inr h2)
     ·refine .inr ⟨h2, ?_⟩
      rcases hbuf' with ⟨rfl, _⟩ | ⟨g, cap, cur, rfl, _, hg, _⟩
      ·cases h
      ·injection h with h
       simp at h
       subst h
       exact (Array.getElem?_eq_some_iff.1 hg).1
   have hle : HLe (frz (hk (numd 0 [some (Blk.bld 67 5 l)])) σ C.X w) (frz (hk (numd 0 [some (Blk.bld 67 5 (l ++ s.data.toList))])) σ C.X w') := by
    intro q o hq
    rw [frz_some] at hq ⊢
    obtain ⟨⟨q1, q2⟩, q3⟩ := hq
    have hqz : q < w.heap.size := (Array.getElem?_eq_some_iff.1 q3).1
    have q4 : ¬ (q = k ∨ v.ownBlock = some q) := fun h => q1 ⟨0, hlive q h⟩
    refine ⟨⟨?_, q2⟩, (hkeep q hqz (fun h => q4 (.inl h)) (fun h => q4 (.inr h))).trans q3⟩
    rintro ⟨b, blk, e1, e2⟩
    obtain ⟨rfl, e3⟩ := hk_one e1
    injection e3 with e3; subst e3
    rcases hlive' q e2 with h | h
    ·exact q4 h
    ·omega
   refine hK (.tuple #[.int .i64 s.size, .nilIface]) σ w' ?_ ?_ (fun _ _ => rfl) hfr
   ·exact .tup [i64 s.size, .fz (.sc .nilIface)] [.int .i64 s.size, .nilIface] rfl fun i x u e1 e2 => match i with
     | 0 => by simp at e1 e2; subst e1; subst e2; exact .fz _ _ (.sc _ rfl)
     | 1 => by simp at e1 e2; subst e1; subst e2; exact .fz _ _ (.sc _ rfl)
     | n + 2 => by simp at e1
   ·refine ⟨fun b blk e => ?_, fun b b' q e1 e2 => ?_, fun b q e => ?_, ?_, R.gl.mono hle, R.xl⟩
    ·obtain ⟨rfl, e3⟩ := hk_one e
     injection e3 with e3; subst e3
     exact .bld 67 5 _ k _ v' g1 hb' (.inr rfl) hbuf'
    ·obtain ⟨_, e1, _⟩ := e1
     obtain ⟨_, e2, _⟩ := e2
     rw [(hk_one e1).1, (hk_one e2).1]
    ·obtain ⟨blk, e1, e2⟩ := e
     obtain ⟨rfl, e3⟩ := hk_one e1
     injection e3 with e3; subst e3
     rcases hlive' q e2 with h | ⟨h1, h2⟩
     ·obtain ⟨a1, a2, a3⟩ := R.ow 0 q (hlive q h)
      exact ⟨a1, by omega, a3⟩
     ·refine ⟨fun hx => ?_, h2, .inr (by rw [hw]; exact h1)⟩
      have := R.xl q hx
      rw [hw] at this
      omega
    ·rw [hw]
     refine ⟨f4, fun q hq hno => ?_, f1, f2, f3⟩
     have q4 : ¬ (q = k ∨ v.ownBlock = some q) := fun h => by
      obtain ⟨_, _, a3⟩ := R.ow 0 q (hlive q h)
      rcases a3 with a3 | a3
      ·exact hno a3
      ·rw [hw] at a3; omega
     exact hkeep q hq (fun h => q4 (.inl h)) (fun h => q4 (.inr h))
set_option maxRecDepth 100000 in
theorem bstr_told {G : Nat → Option (List FV)} (l : List UInt8) (h0 : l ≠ []) :
 [some (Blk.bld 67 5 l)].length ≤ [(none : Option Blk)].length ∧
 ∀ (w : World) (vs : List Value), Told Tryz.prog G (fun _ => False) [.bp 0 0] [some (Blk.bld 67 5 l)] (bs l) [none] w vs (Does Tryz.prog 35 vs.toArray w) := by
 refine ⟨Nat.le_refl _, fun w vs C σ hG hrc hw hown hfr R hl2 hv K hK => ?_⟩
 match vs, hl2 with
 | [u0], _ =>
  have hu0 := hv 0 _ u0 rfl rfl
  have B := R.bk 0 _ rfl
  cases B with
  | bld _ _ _ k p v g1 g2 g3 g4 =>
   obtain ⟨k', n', hσ, rfl⟩ := hu0.bp_inv
   rw [g1] at hσ
   injection hσ with hσ; injection hσ with hσ
   subst hσ
   have hlive : ∀ q, (q = k ∨ v.ownBlock = some q) → Live (hk (numd 0 [some (Blk.bld 67 5 l)])) σ w 0 q := fun q h => ⟨_, rfl, bld_owns g1 g2 h⟩
   refine .inl ⟨enters35 _ _, (Tryz.bstr k l w p v g2 g4 h0).mono ?_⟩
   rintro e w' ⟨rfl, ⟨f1, f2, f3, f4⟩, hkeep⟩
   have hno0 : ∀ b blk, hk (numd 0 [(none : Option Blk)]) b = some blk → False := fun b blk h => by
    obtain ⟨_, h⟩ := hk_one h
    cases h
   have hle : HLe (frz (hk (numd 0 [some (Blk.bld 67 5 l)])) σ C.X w) (frz (hk (numd 0 [(none : Option Blk)])) σ C.X w') := by
    intro q o hq
    rw [frz_some] at hq ⊢
    obtain ⟨⟨q1, q2⟩, q3⟩ := hq
    have hqz : q < w.heap.size := (Array.getElem?_eq_some_iff.1 q3).1
    have q4 : ¬ (q = k ∨ v.ownBlock = some q) := fun h => q1 ⟨0, hlive q h⟩
    refine ⟨⟨?_, q2⟩, (hkeep q hqz (fun h => q4 (.inr h))).trans q3⟩
    rintro ⟨b, blk, e1, e2⟩
    exact hno0 b blk e1
   refine hK (.string ⟨l.toArray⟩) σ w' (.fz _ _ (.sc _ rfl)) ?_ (fun _ _ => rfl) hfr
   refine ⟨fun b blk e => (hno0 b blk e).elim, fun b b' q e1 e2 => ?_, fun b q e => ?_, ?_, R.gl.mono hle, R.xl⟩
   ·obtain ⟨_, e1, _⟩ := e1
    exact (hno0 _ _ e1).elim
   ·obtain ⟨_, e1, _⟩ := e
    exact (hno0 _ _ e1).elim
   ·rw [hw]
    refine ⟨f4, fun q hq hno => ?_, f1, f2, f3⟩
    have q4 : ¬ (q = k ∨ v.ownBlock = some q) := fun h => by
     obtain ⟨_, _, a3⟩ := R.ow 0 q (hlive q h)
     rcases a3 with a3 | a3
     ·exact hno a3
     ·rw [hw] at a3; omega
    exact hkeep q hq (fun h => q4 (.inr h))
end Go.Vai
