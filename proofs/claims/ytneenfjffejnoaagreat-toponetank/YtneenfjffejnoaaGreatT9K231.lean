/- Works of a layer, by evaluation. -/
import Derived.Test.YtneenfjffejnoaaGreatJoin7
set_option linter.unusedVariables false
set_option linter.unusedSimpArgs false
set_option linter.unusedSectionVars false
namespace AE.Tryz
open Go AE Go.Proofs
set_option maxRecDepth 1000000
theorem Ad0:AE.KerD.ER Tryz.prog kt UY M9 SC 1000000 1000000 231=true:=by kernel_rfl
end AE.Tryz
