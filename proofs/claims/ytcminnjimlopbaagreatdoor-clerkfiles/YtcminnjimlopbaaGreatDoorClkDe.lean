/- Clerk, walked: the definitions' drawn. -/
import Derived.Test.YtcminnjimlopbaaGreatDoorClkDd
set_option linter.unusedVariables false
set_option linter.unusedSimpArgs false
set_option linter.unusedSectionVars false
namespace AE.Clerk
end AE.Clerk
namespace AE.Tryz
open Go AE Go.Proofs AE.Clerk
set_option maxRecDepth 100000
set_option linter.unusedVariables false

theorem GE.touch {a r sz n c N : Nat} {h : H} {e : TypeId} {cs : List Value} {b : Option Addr} (g : GE a r h e sz n cs b) (ha : N ≤ a) (hr : N ≤ r) : ∀ q ∈ touchV (.slice b n c), N ≤ q := by
 intro q hq
 rcases g with ⟨-, rfl, -⟩ | ⟨-, g⟩
 ·simp [touchV] at hq
  omega
 ·obtain ⟨g', lens, valid, rfl, -⟩ := g.is
  simp [touchV] at hq
  omega
end AE.Tryz
