/- Walks of the definitions of charts: More. -/
import Derived.Test.YtbfhhncmmllblaaChartRf
set_option linter.unusedVariables false
set_option linter.unusedSimpArgs false
set_option linter.unusedSectionVars false
namespace AE.Try
open Go AE Go.Proofs
set_option maxRecDepth 100000
set_option linter.unusedVariables false

end AE.Try
