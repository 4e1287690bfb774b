/- Walks of the laws of charts: what two points share. -/
import Derived.Test.YtbfhhncmmllblaaChartZf
import Derived.Test.YtbfhhncmmllblaaJoin5
import Derived.Test.YtbfhhncmmllblaaJoin2
set_option linter.unusedVariables false
set_option linter.unusedSimpArgs false
set_option linter.unusedSectionVars false
namespace AE.Try
open Go AE Go.Proofs
set_option maxRecDepth 100000
set_option linter.unusedVariables false

theorem valuer_ok {h : H} {T : Tbl} {p : Pul} {at_ : Pt} {m : Nat} (hm : m ≤ h.next) (hT : T.Ok m h) (hp : p.Ok m h) (g : T.Good) (t : T.True p) (o : T.On at_) : AW Try.prog 16 h.next h [.agg ⟨T.cells⟩, .slice p.M.b p.M.n p.M.c, .agg ⟨at_.cells⟩] (fun v _ => v = .tuple #[.agg ⟨(T.val at_ p.f).cells⟩, .int .i64 0]) := by
  have e1 : T.verr p at_ = 0 := by unfold Tbl.verr; rw [if_neg (fun k => k (t.err g)), if_neg (fun k => k o)]
  have e2 : T.vres p at_ = T.val at_ p.f := by unfold Tbl.vres; rw [if_pos e1]
  have := Value_r (at_ := at_) hm hT hp
  rw [e1, e2] at this
  exact this
end AE.Try
