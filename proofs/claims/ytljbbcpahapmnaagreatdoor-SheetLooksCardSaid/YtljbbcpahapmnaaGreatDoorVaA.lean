/-
  A part of the abstract run of Go functions and of the proof that it tells the truth.
-/
import Derived.Test.YtljbbcpahapmnaaGreatDoorVa9
set_option linter.unusedVariables false
set_option linter.unusedSimpArgs false
namespace Go.Vai
variable {P:Program} {C:Ctx} {σ:Nat→Option Loc} {hp:Nat→Option Blk} {w:World}
def CellsAt (w:World) (k o:Nat) (us:List Value):Prop := ∀ (j:Nat) (u:Value),us[j]? = some u→w.cell? ⟨k,o + j,none⟩=some u
theorem cell_block {k:Nat} {c:Array Value} {e:TypeId} {z:Nat × Nat} (hb:w.heap[k]? = some (.cells c e z)) (i:Nat):w.cell? ⟨k,i,none⟩=c[i]? := by
 simp [World.cell?,hb]
theorem cell_frz {X:Nat→Prop} {k i:Nat} {v:Value} (e:cellAt (frz hp σ X w) k i=some v):w.cell? ⟨k,i,none⟩=some v:=by
 unfold cellAt at e
 split at e
 ·rename_i c t z h
  rw [frz_some] at h
  rw [cell_block h.2]; exact e
 ·cases e
theorem run_loadCells_at {k o:Nat} {us:List Value} (hc:CellsAt w k o us):(loadCells ⟨k,o,none⟩ us.length).run P w=.ok us.toArray w :=
 run_loadCells_list w _ us fun j v e => by rw [add_at]; exact hc j v e
theorem run_load_at {k o:Nat} {u:Value} (hc:w.cell? ⟨k,o,none⟩=some u):(load ⟨k,o,none⟩).run P w=.ok u w:=by
 simp [run_load,hc]
theorem run_loadVar_agg {t:TypeId} {k o:Nat} {us:List Value} (hg:agT P t=some (some us.length)) (hc:CellsAt w k o us):(loadVar t ⟨k,o,none⟩).run P w=.ok (.agg us.toArray) w:=by
 have hs:=(run_isAgg hg w).2 _ rfl
 simp [loadVar,Sem.run_bind,(run_isAgg hg w).1,run_size hs,run_loadCells_at hc]
theorem run_loadVar_one {t:TypeId} {k o:Nat} {u:Value} (hg:agT P t=some none) (hc:w.cell? ⟨k,o,none⟩=some u):(loadVar t ⟨k,o,none⟩).run P w=.ok u w:=by
 have:=run_load_at (P:=P) hc
 simp only [loadVar,Sem.run_bind,(run_isAgg hg w).1,Result.andThen_ok,Option.isSome_none,Bool.false_eq_true,if_false,this]
theorem loadC_sound {σ:Nat→Option Loc} {h:PH} {t:TypeId} {g:Option Nat} (hg:agT P t=some g) {cs:List AV} {o:Nat} {x:AV} (e:loadC g cs o=some x) {k q:Nat} (us:Nat→Value)
 (hc : ∀ (j:Nat) (y:AV),cs[j]? = some y→w.cell? ⟨k,q + j,none⟩=some (us j)∧VR σ h y (us j)) : ∃ u,VR σ h x u∧(loadVar t ⟨k,q + o,none⟩).run P w=.ok u w:=by
 cases g with
 | none =>
  simp only [loadC] at e
  obtain ⟨h1,h2⟩:=hc o x e
  exact ⟨us o,h2,run_loadVar_one hg h1⟩
 | some n =>
  simp only [loadC] at e
  split at e
  ·rename_i hle
   injection e with e; subst e
   have hl:((cs.drop o).take n).length=n:=by simp; omega
   have hul:((List.range n).map fun j => us (o + j)).length=n:=by simp
   refine ⟨.agg ((List.range n).map fun j => us (o + j)).toArray,.agg _ _ (by rw [hl,hul]) (fun i y v e1 e2 => ?_),?_⟩
   ·rw [List.getElem?_take] at e1
    split at e1
    ·rename_i hi
     rw [List.getElem?_drop] at e1
     rw [List.getElem?_map,List.getElem?_range hi] at e2
     simp at e2
     subst e2
     exact (hc _ _ e1).2
    ·cases e1
   ·have:=run_loadVar_agg (P:=P) (w:=w) (t:=t) (k:=k) (o:=q + o) (us:=(List.range n).map fun j => us (o + j)) (by rw [hul]; exact hg) (fun j u e => by
     rw [List.getElem?_map] at e
     by_cases hj:j < n
     ·rw [List.getElem?_range hj] at e
      simp at e
      subst e
      have hlt:o + j < cs.length:=by omega
      have:=(hc (o + j) _ (List.getElem?_eq_getElem hlt)).1
      rw [Nat.add_assoc]; exact this
     ·rw [List.getElem?_eq_none (by simp; omega)] at e; cases e)
    exact this
  ·cases e
theorem setBlock_self {k:Nat} {o:Obj} (e:w.heap[k]? = some o):World.setBlock w k o=w:=by
 have:w.heap.setIfInBounds k o=w.heap:=by
  apply Array.ext_getElem?
  intro i
  rw [Array.getElem?_setIfInBounds]
  split
  ·rename_i h
   subst h
   have:=(Array.getElem?_eq_some_iff.1 e).1
   rw [if_pos this,e]
  ·rfl
 simp [World.setBlock,this]
theorem setBlock_twice {k:Nat} {o o':Obj}:World.setBlock (World.setBlock w k o) k o'=World.setBlock w k o':=by
 simp [World.setBlock]
theorem run_store_at {k o:Nat} {c:Array Value} {e:TypeId} {z:Nat × Nat} (hb:w.heap[k]? = some (.cells c e z)) (hz:NoFz c z) (ho:o < c.size) {u:Value} (hu:leafV u=true) :
 (store ⟨k,o,none⟩ u).run P w=.ok () (World.setBlock w k (.cells (c.setIfInBounds o u) e z)):=by
 have hcell:w.cell? ⟨k,o,none⟩=some c[o]:=by rw [cell_block hb]; simp [ho]
 have hfz:w.frozen? ⟨k,o,none⟩=false:=by
  have:=hz.no o ho
  simp only [World.frozen?,hb]
  simp; omega
 have hset:w.setCell ⟨k,o,none⟩ u=World.setBlock w k (.cells (c.setIfInBounds o u) e z):=by
  have hk:k < w.heap.size:=(Array.getElem?_eq_some_iff.1 hb).1
  simp only [World.setCell,World.setBlock]
  congr 1
  apply Array.ext_getElem?
  intro i
  rw [Array.getElem?_modify,Array.getElem?_setIfInBounds]
  split
  ·rename_i h; subst h; rw [hb]; try rw [if_pos hk]
   simp
  ·rfl
 unfold store
 cases u <;> first
  | (simp [leafV] at hu; done)
  | (simp only [Sem.run,hcell,hfz,hset,Bool.false_eq_true,if_false])
theorem run_storeCells {k:Nat} {e:TypeId} {z:Nat × Nat} : ∀ (us:List Value) (i o:Nat) (c:Array Value) (w:World),w.heap[k]? = some (.cells c e z)→NoFz c z→(∀ u∈us,leafV u=true)→o + i + us.length≤c.size →
 (storeCells ⟨k,o,none⟩ us i).run P w=.ok () (World.setBlock w k (.cells (setAt c.toList (o + i) us).toArray e z))
 | [],i,o,c,w,hb,hz,hu,ho => by
  have:setAt c.toList (o + i) []=c.toList:=by simp [setAt]
  rw [this]
  simp [storeCells,setBlock_self hb]
 | u :: us,i,o,c,w,hb,hz,hu,ho => by
  simp at ho
  have hk:k < w.heap.size:=(Array.getElem?_eq_some_iff.1 hb).1
  simp only [storeCells,add_at,Sem.run_bind,run_store_at hb hz (show o + i < c.size by omega) (hu u (by simp)),Result.andThen_ok]
  have:=run_storeCells us (i + 1) o (c.setIfInBounds (o + i) u) (World.setBlock w k (.cells (c.setIfInBounds (o + i) u) e z)) (setBlock_same hk) (hz.of_size (by simp)) (fun v hv => hu v (by simp [hv])) (by simp; omega)
  rw [this,setBlock_twice,setAt_cons _ _ _ _ (by simp; omega)]
  simp [Nat.add_assoc]
theorem run_newVar {t:TypeId} {v:Value}:(newVar t v).run P w=.ok ⟨w.heap.size,0,none⟩ (w.alloc (.cells v.cells t)):=by
 simp only [newVar,newRow,Sem.run_bind]
 rfl
theorem run_newRow {t:TypeId} {c:Array Value}:(newRow t c).run P w=.ok ⟨w.heap.size,0,none⟩ (w.alloc (.cells c t)):=by
 simp only [newRow,Sem.run_bind]
 rfl
theorem NoFz.zero (c:Array Value):NoFz c (0,0):=.inl rfl
end Go.Vai
