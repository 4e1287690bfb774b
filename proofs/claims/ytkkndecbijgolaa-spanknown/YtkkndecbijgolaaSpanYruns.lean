/- Walks of the laws of spans: SpanRuns, SpanProofs. -/
import Derived.Test.YtkkndecbijgolaaSpanZt
set_option linter.unusedVariables false
set_option linter.unusedSimpArgs false
set_option linter.unusedSectionVars false
namespace AE.Try
open Go AE Go.Proofs AE.Sp
set_option maxRecDepth 100000
set_option linter.unusedVariables false

theorem same_fr (x : Fr) : pureRun Try.prog (Op.equalIn Op.maxDepth 38 (.agg ⟨x.cells⟩) (.agg ⟨x.cells⟩)) = some Bool.true := (eql_fr x x).trans (congrArg some (decide_eq_true rfl))
end AE.Try
