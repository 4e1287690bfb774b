/- Walks and plain laws: ClkRg, ClkRh. -/
import Derived.Test.YtcminnjimlopbaaGreatDoorJoin25
import Derived.Test.YtcminnjimlopbaaGreatDoorAEthree
set_option linter.unusedVariables false
set_option linter.unusedSimpArgs false
set_option linter.unusedSectionVars false

/- Clerk, walked: the definitions' split. -/
namespace AE.Tryz
open Go AE Go.Proofs AE.Clerk
set_option maxRecDepth 100000
set_option linter.unusedVariables false

end AE.Tryz

/- Clerk: the line that the words of a row could be, in plain words. -/
namespace AE.Tryz
open Go AE Go.Proofs AE.Clerk
set_option maxRecDepth 100000
set_option linter.unusedVariables false

end AE.Tryz
