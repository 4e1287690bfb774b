/- Works of a layer, by evaluation. -/
import Derived.Test.YtndkjpkadfpflaaGreatTopTab
set_option linter.unusedVariables false
set_option linter.unusedSimpArgs false
set_option linter.unusedSectionVars false
namespace AE.Tryz
open Go AE Go.Proofs
set_option maxRecDepth 1000000
theorem kw35 : AE.KerD.kclosed Tryz.prog tab tabD nds [88] 1000000 1000000 35 = true := by kernel_rfl
end AE.Tryz
