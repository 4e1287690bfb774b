/- What comes in, for the statements about charts: pairs of numbers for draws. -/
import Derived.Test.YtbfhhncmmllblaaChartFit2
import Derived.Test.YtbfhhncmmllblaaChartZh
set_option linter.unusedVariables false
set_option linter.unusedSimpArgs false
set_option linter.unusedSectionVars false
namespace AE.ChartIn
open Go Go.Proofs Go.Proofs.Ytbfhhncmmllblaa AE AE.Try
set_option maxRecDepth 100000

instance : Inhabited Tw := ⟨⟨0, 0⟩⟩
end AE.ChartIn
