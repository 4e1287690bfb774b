/- Walks of the laws of charts: what two points share. -/
import Derived.Test.YtbfhhncmmllblaaChartZf
import Derived.Test.YtbfhhncmmllblaaChartZd
import Derived.Test.YtbfhhncmmllblaaChartEq
set_option linter.unusedVariables false
set_option linter.unusedSimpArgs false
set_option linter.unusedSectionVars false
namespace AE.Try
open Go AE Go.Proofs
set_option maxRecDepth 100000
set_option linter.unusedVariables false

theorem more_ok {h : H} {T : Tbl} {p q : Pt} {m : Nat} (hm : m ≤ h.next) (hT : T.Ok m h) (g : T.Good) (o : T.On p) (o' : T.On q) : AW Try.prog 39 h.next h [.agg ⟨T.cells⟩, .agg ⟨p.cells⟩, .agg ⟨q.cells⟩] (fun v _ => v = .tuple #[.agg ⟨(T.far p q Bool.false).cells ++ (T.far p q Bool.true).cells⟩, .int .i64 0]) := by
  have e1 : T.nerr (T.On p ∧ T.On q) = 0 := g.nerr ⟨o, o'⟩
  have e2 : T.mspan p q = (T.far p q Bool.false, T.far p q Bool.true) := by unfold Tbl.mspan; rw [if_pos e1]
  have := More_w (p := p) (q := q) hm hT
  rw [e1, e2] at this
  exact this
end AE.Try
