/- By how much a point pulls more than another one, in a true chart. Plain laws. -/
import Derived.Test.YtbfhhncmmllblaaChartZe
import Derived.Test.YtbfhhncmmllblaaChartRg
set_option linter.unusedVariables false
set_option linter.unusedSimpArgs false
set_option linter.unusedSectionVars false
namespace AE.Try
open Go AE Go.Proofs
set_option maxRecDepth 100000
set_option linter.unusedVariables false

section
variable {T : Tbl} {p q : Pt}
end
end AE.Try
