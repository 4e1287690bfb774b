/- Clerk: bills by the definitions, step by step; one more line by the definitions. -/
import Derived.Test.YtcminnjimlopbaaGreatDoorClkDe
set_option linter.unusedVariables false
set_option linter.unusedSimpArgs false
set_option linter.unusedSectionVars false
namespace AE.Clerk
end AE.Clerk
