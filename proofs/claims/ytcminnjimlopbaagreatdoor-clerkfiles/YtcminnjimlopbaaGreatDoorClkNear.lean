/- Clerk: a file with one byte changed is no file; in plain words. -/
import Derived.Test.YtcminnjimlopbaaGreatDoorJoin24
set_option linter.unusedVariables false
set_option linter.unusedSimpArgs false
set_option linter.unusedSectionVars false
namespace AE.Tryz
open Go AE Go.Proofs AE.Clerk
set_option maxRecDepth 100000
set_option linter.unusedVariables false

end AE.Tryz
