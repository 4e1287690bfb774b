/- Works of a layer, by evaluation. -/
import Derived.Test.YtbgiemgoafjohaaGreatDoorJoin87
set_option linter.unusedVariables false
set_option linter.unusedSimpArgs false
set_option linter.unusedSectionVars false
namespace AE.Tryz
open Go AE Go.Proofs
set_option maxRecDepth 1000000
theorem kH:AE.KerD.CG Tryz.prog kt Ow Jk L9 1000000 1000000 280=true:=by kernel_rfl
end AE.Tryz
