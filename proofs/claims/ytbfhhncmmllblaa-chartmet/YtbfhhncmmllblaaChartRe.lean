/- Walks of the definitions of charts: all ends. -/
import Derived.Test.YtbfhhncmmllblaaChartRd
set_option linter.unusedVariables false
set_option linter.unusedSimpArgs false
set_option linter.unusedSectionVars false
namespace AE.Try
open Go AE Go.Proofs
set_option maxRecDepth 100000
set_option linter.unusedVariables false

theorem IG.touch {r n N : Nat} {h : H} {f : Nat → Int} {v : Option Addr} (k : IG r h n f v) (hr : 0 < n → N ≤ r) : ∀ j ∈ touchV (.slice v n 0), N ≤ j := by
  rcases k with ⟨-, rfl⟩ | ⟨h0, G⟩
  · intro j hj
    simp [touchV] at hj
  · obtain ⟨a, rfl, ha, -⟩ := G.load
    intro j hj
    simp [touchV] at hj
    have := hr h0
    omega
def noMat : Mat := ⟨0, fun _ => 0, none, ⟨0, 0, none⟩, 0, fun _ => none, fun _ => ⟨0, 0, none⟩, fun _ => 0⟩

end AE.Try
