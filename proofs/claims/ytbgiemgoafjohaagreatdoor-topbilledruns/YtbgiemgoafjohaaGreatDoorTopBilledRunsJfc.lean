/- The closed facts of the program, for all rows. -/
import Derived.Test.YtbgiemgoafjohaaGreatDoorRows
import Derived.OpenShut
import Derived.JoinedOf
import Derived.KernelRfl
import Derived.Test.YtbgiemgoafjohaaGreatDoorT12Go
set_option linter.unusedVariables false
set_option linter.unusedSimpArgs false
set_option linter.unusedSectionVars false
namespace Go.Proofs.YtbgiemgoafjohaaGreatDoor.jfc
open Go Go.Proofs Go.Proofs.YtbgiemgoafjohaaGreatDoor
set_option maxRecDepth 100000
theorem j5:(mapsRowed Tryz.prog)=true:=by kernel_rfl
theorem j6:(Tryz.prog.stopsHeard)=true:=by kernel_rfl
theorem j7:(Tryz.prog.mayEnter)=true:=by kernel_rfl
theorem j8:(Rows.topBilledRunsRow.plainKeys==Tryz.prog.plainKeys)=true:=by kernel_rfl
theorem j9:(Rows.topBilledRunsRow.lifted==Tryz.prog.liftsFinal)=true:=by kernel_rfl
theorem j10:(laidOutB Tryz.prog)=true:=AE.Tryz.laidOutP
end Go.Proofs.YtbgiemgoafjohaaGreatDoor.jfc
