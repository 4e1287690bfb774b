/- The closed fact on the layout of all types; no function starts a goroutine. -/
import Derived.Test.YtbgiemgoafjohaaGreatDoorRows
import GoSem.ClaimSeven
import Derived.OpenShut
import Derived.JoinedOf
import Derived.KernelRfl
import Derived.Test.YtbgiemgoafjohaaGreatDoorT12Lo
set_option linter.unusedVariables false
set_option linter.unusedSimpArgs false
set_option linter.unusedSectionVars false
namespace AE.Tryz
open Go Go.Proofs Go.Proofs.YtbgiemgoafjohaaGreatDoor
set_option maxRecDepth 100000
theorem p7:Tryz.prog.globals.all (fun g=>decide (g.type<798))=true:=by kernel_rfl
theorem p8:Tryz.prog.funcs.all (fun f=>f.params.all fun t=>decide (t<798))=true:=by kernel_rfl
theorem chunk {p:Nat->Bool}{c k:Nat}(h:((List.range c).map (· +k)).all p=true) {i:Nat}(h1:k<=i) (h2:i<k+c):p i=true:=by
 rw[List.all_eq_true]at h
 exact h i (List.mem_map.2 ⟨i - k,List.mem_range.2 (by omega),by omega⟩)
theorem laidOutP:laidOutB Tryz.prog=true:=by
 unfold laidOutB
 rw[cj]
 rw[p7,Bool.and_true]
 have e:(List.range 798).all (rowFine Tryz.prog)=true:=by
  rw[List.all_eq_true]
  intro i hi
  have hi:=List.mem_range.1 hi
  rcases(show i<160\/(160<=i/\i<320)\/(320<=i/\i<480)\/(480<=i/\i<640)\/640<=i by omega)with h|h|h|h|h
  ·exact chunk uy (by omega) (by omega)
  ·exact chunk lo1 h.1 (by omega)
  ·exact chunk lo2 h.1 (by omega)
  ·exact chunk lo3 h.1 (by omega)
  ·exact chunk uw h (by omega)
 rw[e,Bool.true_and]
 exact p8
theorem bR:(Tryz.prog.funcs.toList.all fun f=>!f.goes)=true:=by kernel_rfl
theorem Xm (f:FuncId):Tryz.prog.goes f=false:=by
 have h:∀fn,fn∈Tryz.prog.funcs.toList->Func.goes fn=false:=fun fn hm=>by
  have:=List.all_eq_true.1 bR fn hm
  simpa using this
 unfold Program.goes
 have h1:((Tryz.prog.closure f).any fun g=>(Tryz.prog.funcs[g]?).any Func.goes)=false:=by
  rw[List.any_eq_false]
  intro g _
  cases hg:Tryz.prog.funcs[g]? with
  |none=>simp
  |some fn=>simp[h fn (Array.mem_toList_iff.2 (Array.mem_of_getElem? hg))]
 have h2:Tryz.prog.funcs.any Func.goes=false:=by
  rw[Array.any_eq_false]
  intro i hi
  simp[h _ (Array.mem_toList_iff.2 (Array.getElem_mem hi))]
 rw[h1,h2,Bool.and_false]
 rfl
theorem SE {c:OpenClaim}(hs:c.start= .entering):false=c.goesBy Tryz.prog:=by
 unfold OpenClaim.goesBy Program.goesAt Program.goesFrom
 rw[hs]
 cases h:Tryz.prog.funcNamed c.func with
 |none=>rfl
 |some f=>simp[Xm f]
end AE.Tryz
