/- Which functions name global variables, by their code: a table, in parts. -/
import Derived.Test.YtbgiemgoafjohaaGreatDoorRows
import Derived.OpenShut
import Derived.JoinedOf
import Derived.KernelRfl
set_option linter.unusedVariables false
set_option linter.unusedSimpArgs false
set_option linter.unusedSectionVars false
namespace AE.Tryz
open Go Go.Proofs Go.Proofs.YtbgiemgoafjohaaGreatDoor
set_option maxRecDepth 100000
noncomputable def QH (g:FuncId):List Nat:=((Tryz.prog.funcs[g]?).bind (·.body)).elim [] Code.globalsNamed
noncomputable def QV (g:FuncId):Option String:=(Tryz.prog.funcs[g]?).bind fun fn=>if fn.body.isNone then entryReads.lookup fn.name else none
def HZ (g:Nat):List Nat:=bif g.beq 376 then[0]else bif g.beq 466 then[1,1,1]else bif g.beq 547 then[2,3]else bif g.beq 553 then[4]else bif g.beq 554 then[5]else bif g.beq 635 then[4,5,0,3]else[]
def H8 (g:Nat):Option String:=bif g.beq 549 then some "internal/bytealg.MaxLen" else none
theorem uZ:((List.range 160).map (· +0)).all (fun g=>QH g==HZ g)=true:=by kernel_rfl
theorem en0:((List.range 160).map (· +0)).all (fun g=>QV g==H8 g)=true:=by kernel_rfl
theorem uY:((List.range 160).map (· +160)).all (fun g=>QH g==HZ g)=true:=by kernel_rfl
theorem vf:((List.range 160).map (· +160)).all (fun g=>QV g==H8 g)=true:=by kernel_rfl
theorem uX:((List.range 160).map (· +320)).all (fun g=>QH g==HZ g)=true:=by kernel_rfl
theorem ve:((List.range 160).map (· +320)).all (fun g=>QV g==H8 g)=true:=by kernel_rfl
theorem uW:((List.range 156).map (· +480)).all (fun g=>QH g==HZ g)=true:=by kernel_rfl
theorem u9:((List.range 156).map (· +480)).all (fun g=>QV g==H8 g)=true:=by kernel_rfl
theorem I3 {p:Nat->Bool}{c k:Nat}(h:((List.range c).map (· +k)).all p=true) {i:Nat}(h1:k<=i) (h2:i<k+c):p i=true:=by
 rw[List.all_eq_true]at h
 exact h i (List.mem_map.2 ⟨i - k,List.mem_range.2 (by omega),by omega⟩)
theorem lI {g:Nat}(hg:g<636):QH g=HZ g:=by
 refine eq_of_beq ?_
 rcases(show g<160\/(160<=g/\g<320)\/(320<=g/\g<480)\/480<=g by omega)with h|h|h|h
 ·exact I3 (p:=fun g=>QH g==HZ g) uZ (by omega) (by omega)
 ·exact I3 (p:=fun g=>QH g==HZ g) uY (by omega) (by omega)
 ·exact I3 (p:=fun g=>QH g==HZ g) uX (by omega) (by omega)
 ·exact I3 (p:=fun g=>QH g==HZ g) uW (by omega) (by omega)
theorem mw {g:Nat}(hg:g<636):QV g=H8 g:=by
 refine eq_of_beq ?_
 rcases(show g<160\/(160<=g/\g<320)\/(320<=g/\g<480)\/480<=g by omega)with h|h|h|h
 ·exact I3 (p:=fun g=>QV g==H8 g) en0 (by omega) (by omega)
 ·exact I3 (p:=fun g=>QV g==H8 g) vf (by omega) (by omega)
 ·exact I3 (p:=fun g=>QV g==H8 g) ve (by omega) (by omega)
 ·exact I3 (p:=fun g=>QV g==H8 g) u9 (by omega) (by omega)
end AE.Tryz
