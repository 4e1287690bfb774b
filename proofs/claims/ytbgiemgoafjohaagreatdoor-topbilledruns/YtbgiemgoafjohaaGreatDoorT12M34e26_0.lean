/- Calls that are kept, evaluated. -/
import Derived.Test.YtbgiemgoafjohaaGreatDoorT12M34r
set_option linter.unusedVariables false
set_option linter.unusedSimpArgs false
set_option linter.unusedSectionVars false
namespace AE.Tryz
open Go AE Go.Proofs
set_option maxRecDepth 1000000
theorem Ti:((Hq.drop 0).take 1).all (fun m=>m.run Tryz.prog kt Ow Jk L9 1000000 1000000 26)=true:=by kernel_rfl
end AE.Tryz
