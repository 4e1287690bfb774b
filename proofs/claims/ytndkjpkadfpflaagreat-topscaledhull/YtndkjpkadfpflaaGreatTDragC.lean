/- Walks of drag and its reference: the friction of a line. -/
import Derived.Test.YtndkjpkadfpflaaGreatTDragB
set_option linter.unusedVariables false
set_option linter.unusedSimpArgs false
set_option linter.unusedSectionVars false
namespace AE.Tryz
open Go AE AE.Drag Go.Proofs
set_option maxRecDepth 100000

end AE.Tryz
