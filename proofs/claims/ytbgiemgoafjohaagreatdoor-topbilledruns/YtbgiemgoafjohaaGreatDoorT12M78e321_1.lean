/- Calls that are kept, evaluated. -/
import Derived.Test.YtbgiemgoafjohaaGreatDoorT12M78r
set_option linter.unusedVariables false
set_option linter.unusedSimpArgs false
set_option linter.unusedSectionVars false
namespace AE.Tryz
open Go AE Go.Proofs
set_option maxRecDepth 1000000
theorem Ra:((EA.drop 2).take 2).all (fun m=>m.run Tryz.prog kt Ow Jk L9 1000000 1000000 321)=true:=by kernel_rfl
end AE.Tryz
