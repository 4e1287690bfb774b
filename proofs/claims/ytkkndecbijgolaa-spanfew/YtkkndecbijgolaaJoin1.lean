/- Walks and plain laws: SpanYruns, SpanZu. -/
import Derived.Test.YtkkndecbijgolaaSpanZt
set_option linter.unusedVariables false
set_option linter.unusedSimpArgs false
set_option linter.unusedSectionVars false

/- Walks of the laws of spans: SpanRuns, SpanProofs. -/
namespace AE.Try
open Go AE Go.Proofs AE.Sp
set_option maxRecDepth 100000
set_option linter.unusedVariables false

end AE.Try

/- Walks of the laws of spans: what is known of least values. -/
namespace AE.Try
open Go AE Go.Proofs AE.Sp
set_option maxRecDepth 100000
set_option linter.unusedVariables false

theorem kSpanZu0 {G G' : Prop} (g : G') (t : G' → G := by ((apply q_call); (focus exact byNext); (focus exact byLo); (focus ((apply works_l))))) : G := t g
theorem kSpanZu2 {G G' : Prop} (g : G') (t : G' → G := by ((apply q_call); (focus exact byNext); (focus exact byLo); (focus ((apply fine_l; rotate_left; (focus (apply Runs.Ok.same; (focus assumption); (focus exact bySame); (focus exact Nat.le_refl _))); (focus exact byOm)))))) : G := t g

/-- What is known of a least value that there is. -/
structure LvOk (L : Runs) (p q N D : Int) : Prop where
  k : Lst L p q N D
  e : L.lval p q = fr N D
  d : 0 < D ∧ D ≤ 800
  n : -160000000 ≤ N ∧ N ≤ 160000000
theorem LvOk.rng {L : Runs} {p q N D : Int} (k : LvOk L p q N D) : (0 < (L.lval p q).d ∧ (L.lval p q).d ≤ 800) ∧ -160000000 ≤ (L.lval p q).n ∧ (L.lval p q).n ≤ 160000000 := by
  rw [k.e]
  exact fr_rng k.d k.n
end AE.Try
