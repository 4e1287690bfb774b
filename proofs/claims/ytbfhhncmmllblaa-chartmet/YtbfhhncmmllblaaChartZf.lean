/- By how much a point pulls more than another one, in a true chart. Plain laws. -/
import Derived.Test.YtbfhhncmmllblaaChartZe
import Derived.Test.YtbfhhncmmllblaaChartRg
set_option linter.unusedVariables false
set_option linter.unusedSimpArgs false
set_option linter.unusedSectionVars false
namespace AE.Try
open Go AE Go.Proofs
set_option maxRecDepth 100000
set_option linter.unusedVariables false

theorem less_fr {a b : Fr} {n d n' d' : Int} (k : FrOf a n d) (k' : FrOf b n' d') : fr (a.n * b.d - b.n * a.d) (a.d * b.d) = fr (n * d' - n' * d) (d * d') := by
  obtain ⟨h, g, hg, rfl, rfl⟩ := k
  obtain ⟨h', g', hg', rfl, rfl⟩ := k'
  have e1 : a.n * g * (b.d * g') - b.n * g' * (a.d * g) = (a.n * b.d - b.n * a.d) * (g * g') := by
    rw [Int.sub_mul]
    have x1 : a.n * g * (b.d * g') = a.n * b.d * (g * g') := by ac_rfl
    have x2 : b.n * g' * (a.d * g) = b.n * a.d * (g * g') := by ac_rfl
    omega
  have e2 : a.d * g * (b.d * g') = a.d * b.d * (g * g') := by ac_rfl
  rw [e1, e2, fr_scale (Int.mul_pos h h') (Int.mul_pos hg hg')]

section
variable {T : Tbl} {p q : Pt}
end
end AE.Try
