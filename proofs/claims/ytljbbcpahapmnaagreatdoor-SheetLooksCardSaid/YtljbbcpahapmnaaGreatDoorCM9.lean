/-
  What functions of layer 9 and of its reference compute: equations of the abstract run, and plain laws of them.
-/
import Derived.Test.YtljbbcpahapmnaaGreatDoorTie
import Derived.Test.YtljbbcpahapmnaaGreatDoorCards
import Derived.OpenShut
import Derived.ChangeArms
import Derived.LaidLaws
import Derived.LaidHandle
import Derived.JoinedOf
import Derived.Handed
import Derived.SevenTiedAt
import Derived.Stop.Joined
import Derived.Stop.LaidErr
import Derived.Deep.DeepLaidRun
import Derived.Test.YtljbbcpahapmnaaGreatDoorCN9
set_option linter.unusedVariables false
set_option linter.unusedSimpArgs false
set_option linter.unnecessarySimpa false
namespace Go.Vai
open Go.RowKit Go.ChangeShapes Go.WideShapes Go.Proofs Go.Proofs.YtljbbcpahapmnaaGreatDoor
section
variable {H:Type} {enc:TypeId × Value→H} {P:Program} {w:World} {base:Nat} {spare:Nat→Bool} {held:Bool}
theorem take1 (cs:List Value) (i:Nat) (v:Value) (h:(cs.drop i).take 1=[v]):cs[i]? = some v:=by
 have h1:((cs.drop i).take 1)[0]? = some v:=by rw [h]; rfl
 rw [List.getElem?_take,if_pos (by omega),List.getElem?_drop] at h1
 simpa using h1
theorem cells_ints {t e:TypeId} {n fuel:Nat} {k:IntKind} {cs:List Value} {ns:List Int} {p:List MemPlace} (ht:P.underlying t=some (.array n e)) (he:P.underlying e=some (.int k)) (hc:P.cellsOf e=1)
 (h:DataW.trod enc P w base spare held fuel t cs=some (.agg (ns.map fun x => .lit (.int k x)),p)) : ∀ (i:Nat) (x:Int),ns[i]? = some x→cs[i]? = some (.int k x):=by
 obtain ⟨xs,m,_,hx,hl,hn,hf⟩:=DataW.trod_array ht h
 injection hx with hx _
 injection hx with hx
 intro i x hi
 have hlen:ns.length=xs.length:=by have:=congrArg List.length hx; simpa using this
 have hlt:=(List.getElem?_eq_some_iff.1 hi).1
 have hxi:xs[i]? = some xs[i]:=List.getElem?_eq_getElem (by omega)
 have g:=hf i (by omega)
 rw [hc,Nat.mul_one,hxi] at g
 obtain ⟨n',q1,q2,_⟩:=DataW.trod_int he g
 have h2:=congrArg (fun l => l[i]?) hx
 simp only [List.getElem?_map,hi,hxi,Option.map_some] at h2
 rw [q2] at h2
 injection h2 with h2
 injection h2 with h2
 injection h2 with _ h2
 rw [h2]
 exact take1 _ _ _ q1
end
theorem mixed:Tryz.prog.follows .mixedOrders=true:=by kernel_rfl
theorem ints_head {P:Program} {n:String} {zs:List Int} {r:List (String × DataW Unit)} {W:World} {g:Nat} {t e:TypeId} {m:Nat} {k:IntKind}
 (h:laidMet P ((n,.agg (zs.map fun x => .lit (.int k x))) :: r) W) (hg:P.globalNamed n=some g) (ht:(P.globals[g]?).map (·.type)=some t) (hu:P.underlying t=some (.array m e)) (he:P.underlying e=some (.int k)) (hc:P.cellsOf e=1) (hct:P.cellsOf t=zs.length) :
 ∃ t' z,W.heap[g]? = some (.cells (zs.map fun x => Value.int k x).toArray t' z):=by
 obtain ⟨ps,⟨g0,t0,cs0,f0,p0,q0,hg0,ht0,hv0,hd0,_,e0⟩,_,hrows⟩:=h
 obtain rfl:=Option.some.inj (hg.symm.trans hg0)
 obtain rfl:=Option.some.inj (ht.symm.trans ht0)
 have h1:=cells_ints hu he hc hd0
 obtain ⟨_,_,_,_,hl,_⟩:=DataW.trod_array hu hd0
 have hcs:cs0=(zs.map fun x => Value.int k x).toArray:=by
  apply Array.ext
  ·simpa [hct] using hl
  ·intro i hi1 hi2
   have hi:i < zs.length:=by simpa using hi2
   have h2:=h1 i zs[i] (List.getElem?_eq_getElem hi)
   rw [Array.getElem?_toList,Array.getElem?_eq_getElem hi1] at h2
   injection h2 with h2
   rw [h2]; simp
 subst hcs
 unfold World.var? at hv0
 rw [hg] at hv0
 simp only [Option.bind_some] at hv0
 split at hv0
 ·rename_i cs t' z hh
  injection hv0 with hv0
  exact ⟨t',z,by rw [hh,hv0]⟩
 ·cases hv0
theorem one_head {P:Program} {W:World} {n:String} {g:Nat} {v:Value} (hg:P.globalNamed n=some g) (h:W.var? P n=some #[v]) : ∃ t' z,W.heap[g]? = some (.cells [v].toArray t' z):=by
 unfold World.var? at h
 rw [hg] at h
 simp only [Option.bind_some] at h
 split at h
 ·rename_i cs t' z hh
  injection h with h
  exact ⟨t',z,by rw [hh,h]⟩
 ·cases h
theorem gr_one {W:World} {g:Nat} {vs:List Value} {t:TypeId} {z:Nat × Nat} (hl : ∀ v∈vs,leafV v=true) (h:W.heap[g]? = some (.cells vs.toArray t z)):(∃ us:Nat→Value,(∀ (j:Nat) (x:FV),(vs.map FV.sc)[j]? = some x→cellAt (heapOf W) g j=some (us j))∧(∀ (j:Nat) (x:FV),(vs.map FV.sc)[j]? = some x→FR (heapOf W) x (us j))) ∧
 ∃ cs t z,heapOf W g=some (.cells cs t z)∧cs.size=(vs.map FV.sc).length:=by
 refine ⟨⟨fun j => (vs[j]?).getD undef,fun j x hj => ?_,fun j x hj => ?_⟩,vs.toArray,t,z,h,by simp⟩
 ·rw [List.getElem?_map] at hj
  obtain ⟨v,hv,rfl⟩:=Option.map_eq_some_iff.1 hj
  simp only [cellAt,heapOf,h,hv,Option.getD_some]
  simpa using hv
 ·rw [List.getElem?_map] at hj
  obtain ⟨v,hv,rfl⟩:=Option.map_eq_some_iff.1 hj
  simp only [hv,Option.getD_some]
  exact .sc _ (hl v (List.mem_of_getElem? hv))
theorem leaf_ints (k:IntKind) (zs:List Int) : ∀ v∈zs.map (fun z => Value.int k z),leafV v=true:=by
 intro v hv
 obtain ⟨z,_,rfl⟩:=List.mem_map.1 hv
 rfl
theorem shaped_int {P:Program} {w:World} {g:Nat} {t:TypeId} {zero:Array Value} {k:IntKind}
 (h:w.ShapedOpen P) (hg:g < P.globals.size)
 (h0:((begin P (fun _ _ => 0) default).world.heap[g]?).bind Obj.row? = some (zero,t)) (hz:zero.size=1)
 (hb:P.buildable t=true) (hc:P.cellTypes P.depth t=some [t]) (hu:P.underlying t=some (.int k)) :
 ∃ m t' z,w.heap[g]? = some (.cells [Value.int k m].toArray t' z):=by
 obtain ⟨cs,hh,hs,hr⟩:=h.1 g zero t hg h0
 obtain ⟨ts,hts,_,hall⟩:=hr hb
 rw [hc] at hts
 cases hts
 have h1:0 < cs.size:=by omega
 obtain ⟨u,hu',hok⟩:=hall 0 cs[0] (by simp [h1])
 have:u=t:=by simpa using hu'.symm
 subst this
 have hcs:cs = #[cs[0]]:=by
  apply Array.ext
  ·simp; omega
  ·intro i h2 h3
   simp at h3
   subst h3
   rfl
 unfold Cell.ok at hok
 rw [hu] at hok
 cases hv:cs[0] <;> rw [hv] at hok <;> simp at hok
 case int k' n =>
  rw [hcs,hv] at hh
  exact ⟨n,_,_,by rw [hh,hok.1]⟩
theorem d_pow:(Rows.laid_internal_strconv_uint64pow10:DataW Unit)=.agg (Lib.pow10Tab.map fun x => .lit (.int .u64 x)):=by kernel_rfl
theorem starE : "*" ++ "errors.errorString" = "*errors.errorString" := by decide
theorem rowE (u : TypeId) (h : Tryz.prog.typeName? 3 u = some "*errors.errorString") : u = 313 :=
 typeName_ptr_named (nm := "errors.errorString") (by rw [starE]; kernel_rfl) (by kernel_rfl) (by decide) u (by rw [starE]; exact h)
theorem und315 : ∃ f,Tryz.prog.underlying 315=some (.struct #[f])∧f.type=9∧f.offset=0:=by
 have h : ∃ gs:Array Field,Tryz.prog.underlying 315=some (.struct gs)∧gs.size=1∧gs.toList.map (·.type)=[9]∧gs.toList.map (·.offset)=[0] :=
  ⟨(match Tryz.prog.underlying 315 with | some (.struct gs) => gs | _ => #[]),by kernel_rfl,by kernel_rfl,by kernel_rfl,by kernel_rfl⟩
 obtain ⟨⟨l⟩,h1,h2,h3,h4⟩:=h
 match l,h2 with
 | [f],_ => exact ⟨f,h1,by simpa using h3,by simpa using h4⟩
abbrev laidL : List (String × DataW Unit) := [("math/bits.deBruijn32tab", Rows.laid_math_bits_deBruijn32tab), ("math/bits.deBruijn64tab", Rows.laid_math_bits_deBruijn64tab), ("internal/strconv.uint64pow10", Rows.laid_internal_strconv_uint64pow10), ("unicode/utf8.acceptRanges", Rows.laid_unicode_utf8_acceptRanges), ("strconv.ErrRange", Rows.laid_strconv_ErrRange), ("strconv.ErrSyntax", Rows.laid_strconv_ErrSyntax), ("unicode.CaseRanges", Rows.laid_unicode_CaseRanges), ("unicode/utf8.first", Rows.laid_unicode_utf8_first)]
theorem laidL_met {W:World} (h:laidMetH Tryz.prog laidL W):laidMet Tryz.prog laidL W:=h
theorem gr_of_laid {W:World} (h:laidMetH Tryz.prog laidL W) (hs:W.ShapedOpen Tryz.prog) : ∃ m e3 e4,isIf e3∧isIf e4∧GR (Gz m e3 e4) (heapOf W):=by
 have h0:=laidL_met h
 unfold laidL at h0
 rw [d_pow] at h0
 obtain ⟨t3,z3,b3⟩:=ints_head h0.tail.tail (g:=5) (by kernel_rfl) (t:=299) (by kernel_rfl) (m:=20) (e:=131) (by kernel_rfl) (by kernel_rfl) (by kernel_rfl) (by kernel_rfl)
 obtain ⟨f,u1,u2,u3⟩:=und315
 obtain ⟨a5,s5,v5,_⟩:=laid_sentinel h0.tail.tail.tail.tail (g:=4) (ti:=163) (tp:=313) (te:=315) (ts:=9) (ms:=(match Tryz.prog.underlying 163 with | some (.interface ms) => ms | _ => #[])) (by kernel_rfl) (by kernel_rfl) (by kernel_rfl) rowE (by kernel_rfl) u1 u2 u3 (by kernel_rfl) (by kernel_rfl) (by kernel_rfl)
 obtain ⟨a4,s4,v4,_⟩:=laid_sentinel h0.tail.tail.tail.tail.tail (g:=3) (ti:=163) (tp:=313) (te:=315) (ts:=9) (ms:=(match Tryz.prog.underlying 163 with | some (.interface ms) => ms | _ => #[])) (by kernel_rfl) (by kernel_rfl) (by kernel_rfl) rowE (by kernel_rfl) u1 u2 u3 (by kernel_rfl) (by kernel_rfl) (by kernel_rfl)
 obtain ⟨t4,z4,b4⟩:=one_head (g:=3) (by kernel_rfl) v4
 obtain ⟨t5,z5,b5⟩:=one_head (g:=4) (by kernel_rfl) v5
 obtain ⟨m,t0,z0,b0⟩:=shaped_int (g:=0) (t:=3) (zero := #[.int .i64 0]) (k:=.i64) hs (of_decide_eq_true (by kernel_rfl)) (by kernel_rfl) rfl (by kernel_rfl) (by kernel_rfl) (by kernel_rfl)
 refine ⟨m,.iface 313 (.pointer (some a4)),.iface 313 (.pointer (some a5)),⟨313,_,rfl⟩,⟨313,_,rfl⟩,?_⟩
 intro g c hc
 match g with
 | 0 => simp only [Gz] at hc; injection hc with hc; subst hc; exact gr_one (vs:=[Value.int .i64 m]) (by simp [leafV]) b0
 | 1 => simp [Gz] at hc
 | 2 => simp [Gz] at hc
 | 5 =>
  simp only [Gz] at hc; injection hc with hc; subst hc
  have:=gr_one (leaf_ints .u64 Lib.pow10Tab) b3
  rwa [List.map_map] at this
 | 3 => simp only [Gz] at hc; injection hc with hc; subst hc; exact gr_one (vs:=[Value.iface 313 (.pointer (some a4))]) (by simp [leafV]) b4
 | 4 => simp only [Gz] at hc; injection hc with hc; subst hc; exact gr_one (vs:=[Value.iface 313 (.pointer (some a5))]) (by simp [leafV]) b5
 | n + 6 => simp [Gz] at hc
theorem returns_laid {H:Type} {enc:TypeId × Value→H} {a:Assume} {C:Checked} {os:Os} {f:FuncId} {fn:Func} {s:ChangeSpec} {conds:List PathCond} {apart fresh handsOn again:Bool} {X:World→Array Value→Prop}
 (hX : ∀ (w w':World) (args:Array Value),w.heap=w'.heap→X w args→X w' args)
 (own:ownKnob C.prog.godebug=none) (started:os.Started) (noInit:C.prog.inits.idxOf? f=none) (hfn:C.prog.funcs[f]? = some fn)
 (witness : ∃ (w:World) (tape:Tape) (i:Input),w.os=os∧(w.forCall tape i).Shaped C.prog∧i.vars=[]∧Input.okWide C.prog (w.forCall tape i) .any w.heap.size f i ∧
   ((s.pre enc C.prog fn conds apart (w.forCall tape i).memory i.args∧X (w.forCall tape i).memory i.args)∧sizedMet enc C.prog fn (OpenSpec.ofChange s) apart (w.forCall tape i).memory i.args)∧a.holds C.prog (lone (Frame.enter C.prog f i.args .normal) [] (w.forCall tape i)))
 (contract : ∀ (W:World) (base:Nat) (args:Array Value) (ds gs:List (DataW H)) (before:List MemPlace),
   (∀ (j:Nat) t v,fn.params[j]? = some t→args[j]? = some v→Value.okWide C.prog W .any base t v) →
   DataW.Whole enc C.prog fn.params.toList s.vars apart W args.toList ds gs before →
   (DataW.weightsEach C.prog (fn.params.toList ++ s.plain.varTypes C.prog) (ds ++ gs)).all (·≤reachBytes)=true→X W args→W.ShapedOpen C.prog →
   Calls C.prog f args W fun e W' => ∃ v,e=.returned v∧s.post enc C.prog fn apart fresh handsOn again W args v W') :
 ReturnsInHanded a C os f .any (fun w args => (s.pre enc C.prog fn conds apart w args∧X w args)∧sizedMet enc C.prog fn (OpenSpec.ofChange s) apart w args) (s.post enc C.prog fn apart fresh handsOn again):=by
 refine returnsInHanded_of_calls own started noInit witness ?_
 intro w tape i _ hsh _ hok hpre hholds
 obtain ⟨_,_,_,fn',hfn',_,_,_,_,hval⟩:=hok
 have e:fn'=fn:=Option.some.inj (hfn'.symm.trans hfn)
 subst e
 obtain ⟨⟨⟨ds,gs,before,hw,hc⟩,hx⟩,hz⟩:=hpre
 have hw':=DataW.Whole.of_heap (w':=w.forCall tape i) (by rfl) hw
 refine (contract (w.forCall tape i) w.heap.size i.args ds gs before hval hw' (hz.weights hw) (hX _ _ _ (by rfl) hx) hsh).mono fun e W' ⟨v,he,hp⟩ => ?_
 subst he
 exact ChangeSpec.post_blind hp
end Go.Vai
namespace Go.Vai
open Go.RowKit Go.ChangeShapes Go.WideShapes Go.Deep Go.Proofs Go.Proofs.YtljbbcpahapmnaaGreatDoor
noncomputable def setCells (cs:Array Value):Obj→Obj
 | .cells _ t z => .cells cs t z
 | o => o
noncomputable def flatD:Nat→DataW Unit→List Value
 | 0,_ => []
 | _ + 1,.lit (.int k n) => [.int k n]
 | n + 1,.agg l => l.flatMap (flatD n)
 | _,_ => []
noncomputable def cellsD (d:DataW Unit):Array Value:=(flatD 4 d).toArray
noncomputable def five (x:Nat × Nat × Int × Int × Int):List Value:=[.int .u32 x.1,.int .u32 x.2.1,.int .i32 x.2.2.1,.int .i32 x.2.2.2.1,.int .i32 x.2.2.2.2]
noncomputable def caseA:Array Value:=(Pinned.caseRows.flatMap five).toArray
noncomputable def laidW (os:Os):World :=
 let w0:=World.holding Tryz.prog os ⟨#[.cells #[.string ⟨#[118,97,108,117,101,32,111,117,116,32,111,102,32,114,97,110,103,101]⟩] 315,.cells #[.string ⟨#[105,110,118,97,108,105,100,32,115,121,110,116,97,120]⟩] 315,.cells caseA 331],#[],[]⟩
 { w0 with heap:=(((((((w0.heap.modify 1 (setCells (cellsD Rows.laid_unicode_utf8_first))).modify 2 (setCells (cellsD Rows.laid_unicode_utf8_acceptRanges))).modify 5 (setCells (cellsD Rows.laid_internal_strconv_uint64pow10))).modify 3 (setCells #[.iface 313 (.pointer (some ⟨15,0,none⟩))])).modify 4 (setCells #[.iface 313 (.pointer (some ⟨14,0,none⟩))])).modify 6 (setCells #[.slice (some ⟨16,0,none⟩) 336 336])).modify 7 (setCells (cellsD Rows.laid_math_bits_deBruijn32tab))).modify 8 (setCells (cellsD Rows.laid_math_bits_deBruijn64tab)) }
theorem Tryz_own:ownKnob Tryz.prog.godebug=none:=by kernel_rfl
theorem Tryz_laidOut:laidOutB Tryz.prog=true:=by kernel_rfl
def isBlk (w:World) (b:Nat) (cs:Array Value):Prop := ∃ t,w.heap[b]? = some (.cells cs t (0,0))
theorem blk_cell {w:World} {b:Nat} {cs:Array Value} (h:isBlk w b cs) (i:Nat):w.cell? ⟨b,i,none⟩=cs[i]? := by
 obtain ⟨t,h⟩:=h
 simp [World.cell?,h]
theorem blk_var {P:Program} {w:World} {n:String} {g:Nat} {cs:Array Value} (hg:P.globalNamed n=some g) (h:isBlk w g cs):w.var? P n=some cs:=by
 obtain ⟨t,h⟩:=h
 simp [World.var?,hg,h]
noncomputable abbrev rdD (w:World) (t:TypeId) (cs:List Value):=DataW.trod (fun _ => ()) Tryz.prog w 0 (fun _ => true) false 8 t cs
theorem lv_cons {P:Program} {w:World} {n:String} {d:DataW Unit} {r:List (String × DataW Unit)} {g:Nat} {t:TypeId} {cs:Array Value} {p q:List MemPlace} (fuel:Nat)
 (h1:P.globalNamed n=some g) (h2:(P.globals[g]?).map (·.type)=some t) (h3:isBlk w g cs) (h4:DataW.trod (fun _ => ()) P w 0 (fun _ => true) false fuel t cs.toList=some (d,p)) (h5:DataW.LaidVars P w r q) :
 DataW.LaidVars P w ((n,d) :: r) (MemPlace.row ⟨g,0,none⟩ cs.size ++ p ++ q) :=
 ⟨g,t,cs,fuel,p,q,h1,h2,blk_var h1 h3,h4,h5,rfl⟩
theorem flat5 : ∀ (l:List (Nat × Nat × Int × Int × Int)) (i j:Nat) (x:Nat × Nat × Int × Int × Int),l[i]? = some x→j < 5→(l.flatMap five)[i * 5 + j]? = (five x)[j]?
 | [],i,j,x,h,_ => by simp at h
 | y :: r,0,j,x,h,hj => by
  simp at h; subst h
  rw [List.flatMap_cons,List.getElem?_append_left (by simp [five]; omega),Nat.zero_mul,Nat.zero_add]
 | y :: r,i + 1,j,x,h,hj => by
  rw [List.flatMap_cons,List.getElem?_append_right (by simp [five]; omega)]
  have:=flat5 r i j x (by simpa using h) hj
  rw [← this]
  congr 1
  simp [five]; omega
theorem case_cells {w:World} (h:isBlk w 16 caseA) (i:Nat) (x:Nat × Nat × Int × Int × Int) (hx:Pinned.caseRows[i]? = some x):w.cells? 0 ((⟨16,0,none⟩:Addr).add (i * 5)) 5=some (five x):=by
 have hc : ∀ j,j < 5→w.cell? (((⟨16,0,none⟩:Addr).add (i * 5)).add j)=(five x)[j]? := by
  intro j hj
  have:=blk_cell h (i * 5 + j)
  have e:(((⟨16,0,none⟩:Addr).add (i * 5)).add j)=⟨16,i * 5 + j,none⟩:=by rw [add_add,add_at,Nat.zero_add]
  rw [e,this]
  show (Pinned.caseRows.flatMap five).toArray[i * 5 + j]? = _
  rw [List.getElem?_toArray]
  exact flat5 _ i j x hx hj
 unfold World.cells?
 rw [if_pos (by simp [Addr.add])]
 have r5:List.range 5=[0,1,2,3,4]:=rfl
 rw [r5]
 simp only [List.mapM_cons,List.mapM_nil,hc 0 (by omega),hc 1 (by omega),hc 2 (by omega),hc 3 (by omega),hc 4 (by omega)]
 rfl
theorem case_rows (w:World):Pinned.caseRows.map (fun x => DataW.trod (fun _ => ()) Tryz.prog w 0 (fun _ => true) false 7 331 (five x))=Pinned.caseRows.map (fun x => some (Pinned.caseRange x,[])):=by kernel_rfl
theorem case_read {w:World} (h:isBlk w 16 caseA) : ∃ n,DataW.trod (fun _ => ()) Tryz.prog w 0 (fun _ => true) false n 319 [.slice (some ⟨16,0,none⟩) 336 336]=some (Rows.laid_unicode_CaseRanges,MemPlace.row ⟨16,0,none⟩ 1680):=by
 have hl:Pinned.caseRows.length=336:=by kernel_rfl
 have hc:Tryz.prog.cellsOf 331=5:=by kernel_rfl
 obtain ⟨n,hn⟩:=shut_slice_whole_cells (H:=Unit) (enc:=fun _ => ()) (P:=Tryz.prog) (w:=w) (base:=0) (spare:=fun _ => true) (held:=false) (t:=319) (e:=331) (a:=⟨16,0,none⟩) (len:=336) (cap:=336) (by kernel_rfl) (Nat.zero_le _) (Nat.le_refl _) (by decide) rfl
  (fun i => Pinned.caseRange (Pinned.caseRows.getD i (0,0,0,0,0))) (fun _ => []) (fun i hi => by
    have hi2:i < Pinned.caseRows.length:=by omega
    obtain ⟨x,hx⟩ : ∃ x,Pinned.caseRows[i]? = some x:=⟨_,List.getElem?_eq_getElem hi2⟩
    refine ⟨five x,7,by rw [hc]; exact case_cells h i x hx,?_⟩
    have h1:=congrArg (fun l => l[i]?) (case_rows w)
    simp only [List.getElem?_map,hx,Option.map_some] at h1
    rw [List.getD_eq_getElem?_getD,hx]
    exact Option.some.inj h1)
 refine ⟨n,?_⟩
 rw [hn,hc]
 have e1:(List.range 336).map (fun i => Pinned.caseRange (Pinned.caseRows.getD i (0,0,0,0,0)))=Pinned.caseRows.map Pinned.caseRange:=by
  rw [map_by_index Pinned.caseRows (0,0,0,0,0) Pinned.caseRange,hl]
 have e2:(List.range 336).flatMap (fun _ => ([]:List MemPlace))=[]:=by simp
 rw [e1,e2]
 simp
 rfl
def rowsOf (L:List (Nat × Nat)):List MemPlace:=L.flatMap fun p => MemPlace.row ⟨p.1,0,none⟩ p.2
theorem mem_row {b n:Nat} {x:MemPlace} (h:x∈MemPlace.row ⟨b,0,none⟩ n) : ∃ i,i < n∧x=.cell b i:=by
 unfold MemPlace.row at h
 obtain ⟨i,hi,rfl⟩:=List.mem_map.1 h
 exact ⟨i,by simpa using hi,by simp⟩
theorem row_nodup (b n:Nat):(MemPlace.row ⟨b,0,none⟩ n).Nodup:=by
 unfold MemPlace.row
 refine List.pairwise_map.2 ((List.nodup_range (n:=n)).imp fun {i j} hij h => ?_)
 injection h with _ h
 simp at h
 exact hij h
theorem rows_nodup : ∀ (L:List (Nat × Nat)),(L.map (·.1)).Nodup→(rowsOf L).Nodup
 | [],_ => List.nodup_nil
 | p :: r,h => by
  simp only [List.map_cons,List.nodup_cons] at h
  unfold rowsOf
  rw [List.flatMap_cons]
  refine List.nodup_append.2 ⟨row_nodup _ _,rows_nodup r h.2,fun a ha b hb e => ?_⟩
  obtain ⟨i,_,rfl⟩:=mem_row ha
  obtain ⟨q,hq,hb⟩:=List.mem_flatMap.1 hb
  obtain ⟨j,_,rfl⟩:=mem_row hb
  injection e with e _
  exact h.1 (e ▸ List.mem_map.2 ⟨q,hq,rfl⟩)
def noIf (cs:Array Value):Bool:=cs.toList.all fun
 | .iface _ _ => false
 | _ => true
theorem noIf_cell {w:World} {b:Nat} {cs:Array Value} (h:isBlk w b cs) (hn:noIf cs=true) {i:Nat} {u:TypeId} {v:Value} (hc:w.cell? ⟨b,i,none⟩=some (.iface u v)):False:=by
 rw [blk_cell h,← Array.getElem?_toList] at hc
 have:=List.all_eq_true.1 hn _ (List.mem_of_getElem? hc)
 simp at this
theorem ints_ok {P:Program} {w:World} {b:Nat} {cs:Array Value} (hb:isBlk w b cs) (hn:noIf cs=true) (off:Nat):(∃ c t,w.heap[b]? = some (.cells c t (0,0)))∧∀ u v,w.cell? ⟨b,off,none⟩=some (.iface u v)→Value.okWide P w .any 0 u v:=by
 refine ⟨?_,fun u v hc => (noIf_cell hb hn hc).elim⟩
 obtain ⟨t,h⟩:=hb
 exact ⟨cs,t,h⟩
theorem one_if {P:Program} {w:World} {b off:Nat} {u0:TypeId} {v0:Value} (hb:isBlk w b #[.iface u0 v0]) (hi:off < 1) (hk:Value.okWideB P w u0 v0=true):(∃ c t,w.heap[b]? = some (.cells c t (0,0)))∧∀ u v,w.cell? ⟨b,off,none⟩=some (.iface u v)→Value.okWide P w .any 0 u v:=by
 refine ⟨?_,fun u v hc => ?_⟩
 ·obtain ⟨t,h⟩:=hb
  exact ⟨_,t,h⟩
 ·obtain rfl:off=0:=by omega
  rw [blk_cell hb] at hc
  simp at hc
  obtain ⟨rfl,rfl⟩:=hc
  exact Value.okWide_of_okWideB hk
theorem ok4 (os:Os):Value.okWideB Tryz.prog (laidW os) 313 (.pointer (some ⟨15,0,none⟩))=true:=by kernel_rfl
theorem ok5 (os:Os):Value.okWideB Tryz.prog (laidW os) 313 (.pointer (some ⟨14,0,none⟩))=true:=by kernel_rfl
theorem b1 (os:Os):isBlk (laidW os) 1 (cellsD Rows.laid_unicode_utf8_first):=⟨283,by kernel_rfl⟩
theorem b2 (os:Os):isBlk (laidW os) 2 (cellsD Rows.laid_unicode_utf8_acceptRanges):=⟨286,by kernel_rfl⟩
theorem b3 (os:Os):isBlk (laidW os) 5 (cellsD Rows.laid_internal_strconv_uint64pow10):=⟨299,by kernel_rfl⟩
theorem b4 (os:Os):isBlk (laidW os) 3 #[.iface 313 (.pointer (some ⟨15,0,none⟩))]:=⟨163,by kernel_rfl⟩
theorem b5 (os:Os):isBlk (laidW os) 4 #[.iface 313 (.pointer (some ⟨14,0,none⟩))]:=⟨163,by kernel_rfl⟩
theorem b6 (os:Os):isBlk (laidW os) 6 #[.slice (some ⟨16,0,none⟩) 336 336]:=⟨319,by kernel_rfl⟩
theorem b7 (os:Os):isBlk (laidW os) 7 (cellsD Rows.laid_math_bits_deBruijn32tab):=⟨323,by kernel_rfl⟩
theorem b8 (os:Os):isBlk (laidW os) 8 (cellsD Rows.laid_math_bits_deBruijn64tab):=⟨324,by kernel_rfl⟩
theorem b14 (os:Os):isBlk (laidW os) 14 #[.string ⟨#[118,97,108,117,101,32,111,117,116,32,111,102,32,114,97,110,103,101]⟩]:=⟨315,by kernel_rfl⟩
theorem b15 (os:Os):isBlk (laidW os) 15 #[.string ⟨#[105,110,118,97,108,105,100,32,115,121,110,116,97,120]⟩]:=⟨315,by kernel_rfl⟩
theorem b16 (os:Os):isBlk (laidW os) 16 caseA:=⟨331,by kernel_rfl⟩
theorem d1 (w:World):rdD w 283 (cellsD Rows.laid_unicode_utf8_first).toList=some (Rows.laid_unicode_utf8_first,[]):=by kernel_rfl
theorem d2 (w:World):rdD w 286 (cellsD Rows.laid_unicode_utf8_acceptRanges).toList=some (Rows.laid_unicode_utf8_acceptRanges,[]):=by kernel_rfl
theorem d3 (w:World):rdD w 299 (cellsD Rows.laid_internal_strconv_uint64pow10).toList=some (Rows.laid_internal_strconv_uint64pow10,[]):=by kernel_rfl
theorem d7 (w:World):rdD w 323 (cellsD Rows.laid_math_bits_deBruijn32tab).toList=some (Rows.laid_math_bits_deBruijn32tab,[]):=by kernel_rfl
theorem d8 (w:World):rdD w 324 (cellsD Rows.laid_math_bits_deBruijn64tab).toList=some (Rows.laid_math_bits_deBruijn64tab,[]):=by kernel_rfl
theorem d4 (os:Os):rdD (laidW os) 163 [.iface 313 (.pointer (some ⟨15,0,none⟩))]=some (Rows.laid_strconv_ErrSyntax,MemPlace.row ⟨15,0,none⟩ 1):=by kernel_rfl
theorem d5 (os:Os):rdD (laidW os) 163 [.iface 313 (.pointer (some ⟨14,0,none⟩))]=some (Rows.laid_strconv_ErrRange,MemPlace.row ⟨14,0,none⟩ 1):=by kernel_rfl
set_option maxRecDepth 100000 in
theorem laidW_met0 (os:Os):laidMet Tryz.prog laidL (laidW os):=by
 obtain ⟨n6,d6⟩:=case_read (b16 os)
 have hv := lv_cons (n := "math/bits.deBruijn32tab") 8 (by kernel_rfl) (by kernel_rfl) (b7 os) (d7 _) (lv_cons (n := "math/bits.deBruijn64tab") 8 (by kernel_rfl) (by kernel_rfl) (b8 os) (d8 _) (lv_cons (n := "internal/strconv.uint64pow10") 8 (by kernel_rfl) (by kernel_rfl) (b3 os) (d3 _) (lv_cons (n := "unicode/utf8.acceptRanges") 8 (by kernel_rfl) (by kernel_rfl) (b2 os) (d2 _)
  (lv_cons (n := "strconv.ErrRange") 8 (by kernel_rfl) (by kernel_rfl) (b5 os) (d5 os) (lv_cons (n := "strconv.ErrSyntax") 8 (by kernel_rfl) (by kernel_rfl) (b4 os) (d4 os) (lv_cons (n := "unicode.CaseRanges") n6 (by kernel_rfl) (by kernel_rfl) (b6 os) d6 (lv_cons (n := "unicode/utf8.first") 8 (by kernel_rfl) (by kernel_rfl) (b1 os) (d1 _) (r := []) (q := []) rfl)))))))
 refine ⟨rowsOf [(7,32),(8,64),(5,20),(2,32),(4,1),(14,1),(3,1),(15,1),(6,1),(16,1680),(1,256)],?_,rows_nodup _ (by decide),fun b off h => ?_⟩
 ·have z1:(cellsD Rows.laid_math_bits_deBruijn32tab).size=32:=by kernel_rfl
  have z2:(cellsD Rows.laid_math_bits_deBruijn64tab).size=64:=by kernel_rfl
  have z3:(cellsD Rows.laid_internal_strconv_uint64pow10).size=20:=by kernel_rfl
  have z4:(cellsD Rows.laid_unicode_utf8_acceptRanges).size=32:=by kernel_rfl
  have z5:(cellsD Rows.laid_unicode_utf8_first).size=256:=by kernel_rfl
  rw [z1,z2,z3,z4,z5] at hv
  simp only [rowsOf,List.flatMap_cons,List.flatMap_nil,List.append_nil,List.append_assoc,List.nil_append] at hv ⊢
  exact hv
 ·obtain ⟨p,hp,h⟩:=List.mem_flatMap.1 h
  obtain ⟨i,hi,e⟩:=mem_row h
  injection e with e1 e2
  subst e1; subst e2
  simp only [List.mem_cons,List.mem_nil_iff,or_false] at hp
  rcases hp with rfl | rfl | rfl | rfl | rfl | rfl | rfl | rfl | rfl | rfl | rfl
  ·exact ints_ok (b7 os) (by kernel_rfl) _
  ·exact ints_ok (b8 os) (by kernel_rfl) _
  ·exact ints_ok (b3 os) (by kernel_rfl) _
  ·exact ints_ok (b2 os) (by kernel_rfl) _
  ·exact one_if (b5 os) hi (ok5 os)
  ·exact ints_ok (b14 os) (by kernel_rfl) _
  ·exact one_if (b4 os) hi (ok4 os)
  ·exact ints_ok (b15 os) (by kernel_rfl) _
  ·exact ints_ok (b6 os) (by kernel_rfl) _
  ·exact ints_ok (b16 os) (by kernel_rfl) _
  ·exact ints_ok (b1 os) (by kernel_rfl) _
theorem laidW_met (os:Os) (args:Array Value):laidMetH Tryz.prog laidL ((laidW os).forCall (fun _ _ => 0) ⟨#[],args,[]⟩).memory :=
 (laidMet.of_heap (by simp [World.forCall,World.memory,Input.heap_fresh]) (laidW_met0 os):laidMet Tryz.prog laidL ((laidW os).forCall (fun _ _ => 0) ⟨#[],args,[]⟩).memory)
theorem witness_ref {H:Type} {enc:TypeId × Value→H} {C:Checked} {os:Os} {f:FuncId} {fn:Func} {s:ChangeSpec} {conds:List PathCond} {apart:Bool} {X:World→Array Value→Prop} (modest:Bool) (w0:World) (args:Array Value) (fuel:Nat) (hos:w0.os=os)
 (hv:(w0.forCall (fun _ _ => 0) ⟨#[],args,[]⟩).variablesRefB C.prog=true)
 (hr:((w0.forCall (fun _ _ => 0) ⟨#[],args,[]⟩).heap.toList.drop C.prog.globals.size).take ((begin C.prog (fun _ _ => 0) default).world.heap.size - C.prog.globals.size) =
   (begin C.prog (fun _ _ => 0) default).world.heap.toList.drop C.prog.globals.size)
 (hok:Input.okWideB C.prog (w0.forCall (fun _ _ => 0) ⟨#[],args,[]⟩) f ⟨#[],args,[]⟩=true)
 (hpre:s.preB enc C.prog fn conds apart (w0.forCall (fun _ _ => 0) ⟨#[],args,[]⟩).memory args fuel=true)
 (hsz:s.sizedB enc C.prog fn apart (w0.forCall (fun _ _ => 0) ⟨#[],args,[]⟩).memory args fuel=true)
 (hx:X (w0.forCall (fun _ _ => 0) ⟨#[],args,[]⟩).memory args) :
 ∃ (w:World) (tape:Tape) (i:Input),w.os=os∧(w.forCall tape i).Shaped C.prog∧i.vars=[]∧Input.okWide C.prog (w.forCall tape i) .any w.heap.size f i ∧
  ((s.pre enc C.prog fn conds apart (w.forCall tape i).memory i.args∧X (w.forCall tape i).memory i.args)∧sizedMet enc C.prog fn (OpenSpec.ofChange s) apart (w.forCall tape i).memory i.args)∧({ modest:=modest }:Assume).holds C.prog (lone (Frame.enter C.prog f i.args .normal) [] (w.forCall tape i)) :=
 ⟨w0,fun _ _ => 0,⟨#[],args,[]⟩,hos,World.shaped_of_RefB hv hr,(Input.okWide_of_okWideB (base:=0) hok).1,(Input.okWide_of_okWideB hok).2,⟨⟨ChangeSpec.pre_of_preB hpre,hx⟩,sizedMet_of_sizedB hsz⟩,by
   simp only [Assume.holds]
   exact ⟨by simp,by simp,fun _ => Modest.zero,by simp,by simp⟩⟩
end Go.Vai
namespace Go.Vai
open Go.RowKit Go.ChangeShapes Go.WideShapes Go.Deep Go.Proofs Go.Proofs.YtljbbcpahapmnaaGreatDoor
def plF:List (Nat × Tx):=[(1,.i .i64),(1,.i .i64)]
def celF:List (Nat × Tx):=[(2,.st plF),(1,.s)]
def shF:List (Nat × Tx):=[(1,.sl (.st celF) 3),(1,.sl (.i .i64) 1),(1,.sl .s 1)]
def Gx:TG:=[]
theorem ok_pl:TxOk Tryz.prog Gx (.st plF) 54:=by
 refine .st plF 54 _ Tryz.underlying54 (by kernel_rfl) (by kernel_rfl) ?_ ?_
 ·intro i f g h1 h2
  match i with
  | 0 => simp [plF] at h1 h2; subst h1; subst h2; exact ⟨rfl,by kernel_rfl⟩
  | 1 => simp [plF] at h1 h2; subst h1; subst h2; exact ⟨rfl,by kernel_rfl⟩
  | n + 2 => simp [plF] at h1
 ·intro i f g h1 h2
  match i with
  | 0 => simp [plF] at h1 h2; subst h1; subst h2; exact .i _ _ (by kernel_rfl)
  | 1 => simp [plF] at h1 h2; subst h1; subst h2; exact .i _ _ (by kernel_rfl)
  | n + 2 => simp [plF] at h1
theorem ok_cel:TxOk Tryz.prog Gx (.st celF) 56:=by
 refine .st celF 56 _ Tryz.underlying56 (by kernel_rfl) (by kernel_rfl) ?_ ?_
 ·intro i f g h1 h2
  match i with
  | 0 => simp [celF] at h1 h2; subst h1; subst h2; exact ⟨rfl,by kernel_rfl⟩
  | 1 => simp [celF] at h1 h2; subst h1; subst h2; exact ⟨rfl,by kernel_rfl⟩
  | n + 2 => simp [celF] at h1
 ·intro i f g h1 h2
  match i with
  | 0 => simp [celF] at h1 h2; subst h1; subst h2; exact ok_pl
  | 1 => simp [celF] at h1 h2; subst h1; subst h2; exact .s _ (by kernel_rfl)
  | n + 2 => simp [celF] at h1
theorem ok_sheet:TxOk Tryz.prog Gx (.st shF) 26:=by
 refine .st shF 26 _ Tryz.underlying26 (by kernel_rfl) (by kernel_rfl) ?_ ?_
 ·intro i f g h1 h2
  match i with
  | 0 => simp [shF] at h1 h2; subst h1; subst h2; exact ⟨rfl,by kernel_rfl⟩
  | 1 => simp [shF] at h1 h2; subst h1; subst h2; exact ⟨rfl,by kernel_rfl⟩
  | 2 => simp [shF] at h1 h2; subst h1; subst h2; exact ⟨rfl,by kernel_rfl⟩
  | n + 3 => simp [shF] at h1
 ·intro i f g h1 h2
  match i with
  | 0 => simp [shF] at h1 h2; subst h1; subst h2; exact .sl _ _ _ 56 (by kernel_rfl) (by kernel_rfl) (by decide) (of_decide_eq_true (by kernel_rfl)) ok_cel
  | 1 => simp [shF] at h1 h2; subst h1; subst h2; exact .sl _ _ _ 3 (by kernel_rfl) (by kernel_rfl) (by decide) (of_decide_eq_true (by kernel_rfl)) (.i _ _ (by kernel_rfl))
  | 2 => simp [shF] at h1 h2; subst h1; subst h2; exact .sl _ _ _ 9 (by kernel_rfl) (by kernel_rfl) (by decide) (of_decide_eq_true (by kernel_rfl)) (.s _ (by kernel_rfl))
  | n + 3 => simp [shF] at h1
theorem Gx_ok : ∀ (j:Nat) (T:Tx) (t:TypeId),Gx[j]? = some (T,t)→TxOk Tryz.prog Gx T t∧∃ fs,T=.st fs:=by
 intro j T t h
 simp [Gx] at h
theorem hasX_str {Γ:TG} {xs:List FV} (h:HasX Γ .s xs) : ∃ l:List UInt8,xs=[.sc (.string (mkB l))]∧l.length≤140737488351232:=by
 cases h with
 | s q h => exact ⟨q.data.toList,by rw [mkB_data],by rw [Array.length_toList]; exact h⟩
theorem hasX_int {Γ:TG} {xs:List FV} (h:HasX Γ (.i .i64) xs) : ∃ n:Int,xs=[.sc (.int .i64 n)]∧inI n:=by
 cases h with
 | i k n h =>
  refine ⟨n,rfl,?_⟩
  have h:(decide ((-9223372036854775808:Int)≤n) && decide (n≤9223372036854775807))=true:=h
  simp at h
  exact h
theorem hasX_pl {Γ:TG} {xs:List FV} (h:HasX Γ (.st plF) xs) : ∃ a b:Int,xs=[.sc (.int .i64 a),.sc (.int .i64 b)]∧inI a∧inI b:=by
 cases h with
 | st _ az hl _ hf =>
  match az,hl with
  | [x,y],_ =>
   obtain ⟨a,rfl,ha⟩:=hasX_int (hf 0 _ x rfl rfl)
   obtain ⟨b,rfl,hb⟩:=hasX_int (hf 1 _ y rfl rfl)
   exact ⟨a,b,rfl,ha,hb⟩
theorem hasX_cel {Γ:TG} {xs:List FV} (h:HasX Γ (.st celF) xs) : ∃ c:Cel,xs=eCel c∧inI c.1∧inI c.2.1∧c.2.2.length≤140737488351232:=by
 cases h with
 | st _ az hl _ hf =>
  match az,hl with
  | [x,y],_ =>
   obtain ⟨a,b,rfl,ha,hb⟩:=hasX_pl (hf 0 _ x rfl rfl)
   obtain ⟨t,rfl,ht⟩:=hasX_str (hf 1 _ y rfl rfl)
   exact ⟨(a,b,t),rfl,ha,hb,ht⟩
theorem rows_of {α:Type} (f:α→List FV) (p:α→Prop) : ∀ (es:List (List FV)),(∀ c∈es,∃ n,c=f n∧p n)→∃ l:List α,es=l.map f∧es.length=l.length∧∀ x∈l,p x
 | [],_ => ⟨[],rfl,rfl,by simp⟩
 | c :: r,h => by
  obtain ⟨n,rfl,hn⟩:=h c (by simp)
  obtain ⟨l,rfl,h1,hl⟩:=rows_of f p r fun c hc => h c (by simp [hc])
  refine ⟨n :: l,rfl,by simp,fun x hx => ?_⟩
  rcases List.mem_cons.1 hx with rfl | hx
  ·exact hn
  ·exact hl x hx
theorem hasX_row {Γ:TG} {α:Type} (f:α→List FV) (p:α→Prop) {T:Tx} {sz:Nat} (hT : ∀ xs,HasX Γ T xs→∃ n,xs=f n∧p n) {xs:List FV} (h:HasX Γ (.sl T sz) xs) : ∃ l:List α,xs=[.sl (l.map f)]∧l.length≤140737488351232∧∀ x∈l,p x:=by
 cases h with
 | sl _ _ es h1 h2 h3 =>
  obtain ⟨l,rfl,g1,g2⟩:=rows_of f p es fun c hc => by
   obtain ⟨i,hi⟩:=List.mem_iff_getElem?.1 hc
   exact hT c (h1 i c hi)
  exact ⟨l,rfl,by omega,g2⟩
def tySh (s:Sh):Prop:=s.cells.length≤140737488351232∧s.wid.length≤140737488351232∧s.mac.length≤140737488351232∧(∀ c∈s.cells,inI c.1∧inI c.2.1∧c.2.2.length≤140737488351232)∧(∀ w∈s.wid,inI w)∧∀ t∈s.mac,t.length≤140737488351232
def eSh (s:Sh):List FV:=[.sl (s.cells.map eCel),.sl (s.wid.map eIn),.sl (s.mac.map eTx)]
theorem hasX_sheet {Γ:TG} {xs:List FV} (h:HasX Γ (.st shF) xs) : ∃ s:Sh,xs=eSh s∧tySh s:=by
 cases h with
 | st _ az hl _ hf =>
  match az,hl with
  | [x,y,z],_ =>
   obtain ⟨c,rfl,hc,hc2⟩:=hasX_row eCel _ (fun xs h => hasX_cel h) (hf 0 _ x rfl rfl)
   obtain ⟨w,rfl,hw,hw2⟩:=hasX_row eIn _ (fun xs h => hasX_int h) (hf 1 _ y rfl rfl)
   obtain ⟨t,rfl,ht,ht2⟩:=hasX_row eTx _ (fun xs h => hasX_str h) (hf 2 _ z rfl rfl)
   exact ⟨⟨c,w,t⟩,rfl,hc,hw,ht,hc2,hw2,ht2⟩
end Go.Vai
