/- Walks of the definitions of charts: weights. -/
import Derived.Test.YtbfhhncmmllblaaChartRb
set_option linter.unusedVariables false
set_option linter.unusedSimpArgs false
set_option linter.unusedSectionVars false
namespace AE.Try
open Go AE Go.Proofs
set_option maxRecDepth 100000
set_option linter.unusedVariables false

theorem OM.lower {O : Nat → Prop} {p : Pul} {b b' m m' : Nat} {h : H} (o : OM O p b m h) (hb : b' ≤ b) (hm : m ≤ m') : OM O p b' m' h :=
  ⟨o.e, o.i, fun h0 => by have := o.r h0; exact ⟨by omega, this.2⟩, o.l, o.re, o.ri, fun i hi h0 => by have := o.rng i hi h0; exact ⟨by omega, this.2⟩, o.inj, o.rl, o.rf⟩
end AE.Try
