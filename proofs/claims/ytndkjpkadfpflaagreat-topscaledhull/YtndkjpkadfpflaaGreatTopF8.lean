/- Walks of fair: Fairest, and Check of a line within the spots. -/
import Derived.Test.YtndkjpkadfpflaaGreatTopF7
set_option linter.unusedVariables false
set_option linter.unusedSimpArgs false
set_option linter.unusedSectionVars false
namespace AE.Tryz
open Go AE Go.Proofs AE.Fair
set_option maxRecDepth 100000
set_option linter.unusedVariables false

end AE.Tryz
