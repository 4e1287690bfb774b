/- Comparisons of fractions and spans. -/
import Derived.Test.YtbfhhncmmllblaaChartG
import Derived.Test.YtbfhhncmmllblaaAEthree
set_option linter.unusedVariables false
set_option linter.unusedSimpArgs false
set_option linter.unusedSectionVars false
namespace AE.Try
open Go AE Go.Proofs
set_option maxRecDepth 100000
set_option linter.unusedVariables false

theorem PartOf.one {P : Program} {e : TypeId} {cs : List Value} {off : Nat} {v : Value} (h1 : isAggT P e = some false) (h2 : cs[off]? = some v) : PartOf P e false cs off [v] := ⟨h1, by rw [if_neg (by simp)]; exact ⟨v, h2, rfl⟩⟩
theorem PartOf.agg {P : Program} {e : TypeId} {s : Nat} {cs x : List Value} {off : Nat} (h1 : isAggT P e = some true) (h2 : sizeT P e = some s) (h3 : cut cs off s = some x) : PartOf P e true cs off x := ⟨h1, by rw [if_pos rfl]; exact ⟨s, h2, h3⟩⟩
end AE.Try
