/- Calls that are kept, evaluated. -/
import Derived.Test.YtneenfjffejnoaaGreatT9M33r
set_option linter.unusedVariables false
set_option linter.unusedSimpArgs false
set_option linter.unusedSectionVars false
namespace AE.Tryz
open Go AE Go.Proofs
set_option maxRecDepth 1000000
theorem ZA:((HF.drop 7).take 7).all (fun m=>m.run Tryz.prog kt UY M9 SC 1000000 1000000 172)=true:=by kernel_rfl
end AE.Tryz
