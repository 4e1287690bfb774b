/- Walks and plain laws: ClkM, ClkN. -/
import Derived.Test.YtcminnjimlopbaaGreatDoorClkL
set_option linter.unusedVariables false
set_option linter.unusedSimpArgs false
set_option linter.unusedSectionVars false

/- Clerk, walked: Receipt by the definitions. -/
namespace AE.Tryz
open Go AE Go.Proofs AE.Clerk
set_option maxRecDepth 100000
set_option linter.unusedVariables false

end AE.Tryz

/- Clerk, walked: Receipt by the definitions, whole. -/
namespace AE.Tryz
open Go AE Go.Proofs AE.Clerk
set_option maxRecDepth 100000
set_option linter.unusedVariables false

end AE.Tryz
