/- The closed fact on the layout of all types, in parts: in one it passes the memory that a Lean process may take. -/
import Derived.Test.YtbgiemgoafjohaaGreatDoorRows
import GoSem.ClaimSeven
import Derived.OpenShut
import Derived.JoinedOf
import Derived.KernelRfl
set_option linter.unusedVariables false
set_option linter.unusedSimpArgs false
set_option linter.unusedSectionVars false
namespace AE.Tryz
open Go Go.Proofs Go.Proofs.YtbgiemgoafjohaaGreatDoor
set_option maxRecDepth 100000
theorem cj:Tryz.prog.types.size=798:=by kernel_rfl
theorem uy:((List.range 160).map (· +0)).all (rowFine Tryz.prog)=true:=by kernel_rfl
theorem lo1:((List.range 160).map (· +160)).all (rowFine Tryz.prog)=true:=by kernel_rfl
theorem lo2:((List.range 160).map (· +320)).all (rowFine Tryz.prog)=true:=by kernel_rfl
theorem lo3:((List.range 160).map (· +480)).all (rowFine Tryz.prog)=true:=by kernel_rfl
theorem uw:((List.range 158).map (· +640)).all (rowFine Tryz.prog)=true:=by kernel_rfl
end AE.Tryz
