/- Walks of span's definitions: fractions compared; the least value. -/
import Derived.Test.YtkkndecbijgolaaSpanZa
import Derived.Test.YtkkndecbijgolaaSpanZb
set_option linter.unusedVariables false
set_option linter.unusedSimpArgs false
set_option linter.unusedSectionVars false
namespace AE.Try
open Go AE Go.Proofs AE.Sp
set_option maxRecDepth 100000
set_option linter.unusedVariables false

end AE.Try
