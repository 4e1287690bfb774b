/- Clerk, walked: Read by the definitions. -/
import Derived.Test.YtcminnjimlopbaaGreatDoorClkRi
import Derived.Test.YtcminnjimlopbaaGreatDoorClkRe
set_option linter.unusedVariables false
set_option linter.unusedSimpArgs false
set_option linter.unusedSectionVars false
namespace AE.Tryz
open Go AE Go.Proofs AE.Clerk
set_option maxRecDepth 100000
set_option linter.unusedVariables false

end AE.Tryz
