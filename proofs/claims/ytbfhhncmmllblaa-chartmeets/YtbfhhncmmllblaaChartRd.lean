/- Walks of the definitions of charts: values. -/
import Derived.Test.YtbfhhncmmllblaaChartRc
set_option linter.unusedVariables false
set_option linter.unusedSimpArgs false
set_option linter.unusedSectionVars false
namespace AE.Try
open Go AE Go.Proofs
set_option maxRecDepth 100000
set_option linter.unusedVariables false

theorem kChartRd0 {G : Prop} (g : G := by ((apply fraction_r; (focus omega); (focus omega)))) : G := g
theorem kChartRd1 {G : Prop} (g : G := by ((apply true_r; rotate_left; (focus (apply Tbl.Ok.same; (focus assumption); (focus exact bySame); (focus exact Nat.le_refl _))); (focus (apply Pul.Ok.same; (focus assumption); (focus exact bySame); (focus exact Nat.le_refl _))); (focus exact byOm)))) : G := g
end AE.Try
