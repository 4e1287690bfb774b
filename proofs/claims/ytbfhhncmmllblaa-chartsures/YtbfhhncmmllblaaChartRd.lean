/- Walks of the definitions of charts: values. -/
import Derived.Test.YtbfhhncmmllblaaChartRc
set_option linter.unusedVariables false
set_option linter.unusedSimpArgs false
set_option linter.unusedSectionVars false
namespace AE.Try
open Go AE Go.Proofs
set_option maxRecDepth 100000
set_option linter.unusedVariables false

theorem kChartRd0 {G : Prop} (g : G := by ((apply fraction_r; (focus omega); (focus omega)))) : G := g
theorem kChartRd2 {G : Prop} (g : G := by ((apply On_r; rotate_left; (focus (apply Tbl.Ok.same; (focus assumption); (focus exact bySame); (focus exact Nat.le_refl _))); (focus assumption); (focus exact byOm)))) : G := g

theorem wm_le {T : Tbl} {p : Pt} (ar : Around T p) (i k : Nat) : T.wm p i k ≤ 4000000 := by
  rcases add1_at T p 1 4 (Nat.le_refl _) i k with ⟨j, hj, -, e⟩ | ⟨-, e⟩
  · unfold Tbl.wm; rw [e, Int.mul_one]; exact (ar.w j).2
  · unfold Tbl.wm; rw [e]; omega

end AE.Try
