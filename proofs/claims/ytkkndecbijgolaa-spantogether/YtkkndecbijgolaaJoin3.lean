/- Walks and plain laws: SpanZb, SpanZc. -/
import Derived.Test.YtkkndecbijgolaaJoin2
import Derived.Test.YtkkndecbijgolaaSpanZa
set_option linter.unusedVariables false
set_option linter.unusedSimpArgs false
set_option linter.unusedSectionVars false

/- Plain laws of span: fractions compared by whole parts, what is left turned over. -/
namespace AE.Try
open Go AE Go.Proofs AE.Sp
set_option maxRecDepth 100000
set_option linter.unusedVariables false

def flt (x y : Fr) : Prop := x.n * y.d < y.n * x.d
instance (x y : Fr) : Decidable (flt x y) := inferInstanceAs (Decidable (_ < _))
theorem flt_fr {n d n' d' : Int} (hd : 0 < d) (hd' : 0 < d') : flt (fr n d) (fr n' d') ↔ n * d' < n' * d := (fr_of hd).lt_iff (fr_of hd')
end AE.Try

/- Walks of span's definitions: fractions compared; the least value. -/
namespace AE.Try
open Go AE Go.Proofs AE.Sp
set_option maxRecDepth 100000
set_option linter.unusedVariables false

end AE.Try
