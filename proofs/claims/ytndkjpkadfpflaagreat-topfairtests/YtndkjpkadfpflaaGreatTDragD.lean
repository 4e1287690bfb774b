/- Walks of drag and its reference: Friction. -/
import Derived.Test.YtndkjpkadfpflaaGreatTDragC
set_option linter.unusedVariables false
set_option linter.unusedSimpArgs false
set_option linter.unusedSectionVars false
namespace AE.Tryz
open Go AE AE.Drag Go.Proofs
set_option maxRecDepth 100000

theorem kTDragD0 {G : Prop} (g : G := by ((apply AW.arg1; (focus (apply refFric_w; rotate_left; (focus (apply Line.Ok.same; (focus assumption); (focus exact bySame); (focus exact Nat.le_refl _))); (focus assumption); (focus exact byOm))); (focus exact Is.rfl)))) : G := g
end AE.Tryz
