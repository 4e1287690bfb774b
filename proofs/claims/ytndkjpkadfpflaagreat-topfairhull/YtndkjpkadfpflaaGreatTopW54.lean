/- Works of a layer, by evaluation. -/
import Derived.Test.YtndkjpkadfpflaaGreatTopTab
set_option linter.unusedVariables false
set_option linter.unusedSimpArgs false
set_option linter.unusedSectionVars false
namespace AE.Tryz
open Go AE Go.Proofs
set_option maxRecDepth 1000000
end AE.Tryz
