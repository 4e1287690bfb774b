/- Clerk, walked: the line that the words of a row could be (printed by gen_rline.py). -/
import Derived.Test.YtcminnjimlopbaaGreatDoorJoin30
set_option linter.unusedVariables false
set_option linter.unusedSimpArgs false
set_option linter.unusedSectionVars false
namespace AE.Tryz
open Go AE Go.Proofs AE.Clerk
set_option maxRecDepth 100000
set_option linter.unusedVariables false

end AE.Tryz
