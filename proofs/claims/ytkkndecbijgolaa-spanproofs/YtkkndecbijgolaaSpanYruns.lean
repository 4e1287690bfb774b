/- Walks of the laws of spans: SpanRuns, SpanProofs. -/
import Derived.Test.YtkkndecbijgolaaSpanZt
set_option linter.unusedVariables false
set_option linter.unusedSimpArgs false
set_option linter.unusedSectionVars false
namespace AE.Try
open Go AE Go.Proofs AE.Sp
set_option maxRecDepth 100000
set_option linter.unusedVariables false

theorem same_fr (x : Fr) : pureRun Try.prog (Op.equalIn Op.maxDepth 38 (.agg ⟨x.cells⟩) (.agg ⟨x.cells⟩)) = some Bool.true := (eql_fr x x).trans (congrArg some (decide_eq_true rfl))
open Classical in
set_option maxHeartbeats 8000000 in
theorem proofs_law {h : H} {L : Runs} {P : PSs} {m : Nat} {p q tm : Int} (hm : m ≤ h.next) (hL : L.Ok m h) (hP : P.Ok m h) : AW Try.prog 5 h.next h [.slice L.b L.n L.c, .int .i64 p, .int .i64 q, .agg ⟨[.slice P.b P.n P.c, .int .i64 tm]⟩] (fun v _ => v = .bool true) := by
  have ll := hL.l
  have pl := hP.l
  refine fun5.call rfl (Nat.le_refl _) ?_
  unfold a5
  (focus ((try with_reducible apply wpC.to); (repeat' ((conv => whnf); first | refine byEv ?_ | ((apply Fork.mk) <;> (intro _; try (exfalso; omega; done))) | refine xSpanC0 ?_ | refine xSpanB1 ?_ | refine xSpanB0 ?_ | fail)); all_goals (conv => whnf); all_goals (try with_reducible apply At.mk)))
  · apply q_callv
    focus (exact byNext)
    focus (exact byLo)
    focus exact works_l
    intro h2 q2 n2
    (focus ((try with_reducible apply wpC.to); (repeat' ((conv => whnf); first | refine byEv ?_ | ((apply Fork.mk) <;> (intro _; try (exfalso; omega; done))) | refine xSpanC0 ?_ | refine xSpanB1 ?_ | refine xSpanB0 ?_ | fail)); all_goals (conv => whnf); all_goals (try with_reducible apply At.mk)))
    (refine byFin ?_)
    rfl
  · apply q_callv
    focus (exact byNext)
    focus (exact byLo)
    focus exact works_l
    intro h2 q2 n2
    (focus ((try with_reducible apply wpC.to); (repeat' ((conv => whnf); first | refine byEv ?_ | ((apply Fork.mk) <;> (intro _; try (exfalso; omega; done))) | refine xSpanC0 ?_ | refine xSpanB1 ?_ | refine xSpanB0 ?_ | fail)); all_goals (conv => whnf); all_goals (try with_reducible apply At.mk)))
    (refine byFin ?_)
    rfl
  apply q_callv
  focus (exact byNext)
  focus (exact byLo)
  focus exact checkProof_w (L := L) (P := P) (m := m) byOm (hL.same bySame (Nat.le_refl _)) (hP.same bySame (Nat.le_refl _))
  intro h2 q2 n2
  unfold Fr.cells
  (focus ((try with_reducible apply wpC.to); (repeat' ((conv => whnf); first | refine byEv ?_ | ((apply Fork.mk) <;> (intro _; try (exfalso; omega; done))) | refine xSpanC0 ?_ | refine xSpanB1 ?_ | refine xSpanB0 ?_ | fail)); all_goals (conv => whnf); all_goals (try with_reducible apply At.mk)))
  apply q_callv
  focus (exact byNext)
  focus (exact byLo)
  focus exact checkProof_r (L := L) (P := P) (m := m) byOm (hL.same bySame (Nat.le_refl _)) (hP.same bySame (Nat.le_refl _))
  intro h3 q3 n3
  unfold Fr.cells
  (focus ((try with_reducible apply wpC.to); (repeat' ((conv => whnf); first | refine byEv ?_ | ((apply Fork.mk) <;> (intro _; try (exfalso; omega; done))) | refine xSpanC0 ?_ | refine xSpanB1 ?_ | refine xSpanB0 ?_ | fail)); all_goals (conv => whnf); all_goals (try with_reducible apply At.mk)))
  refine OpE.pure (.bool true) (xPure_eql (A := ⟨(L.cval p q P tm).cells⟩) (B := ⟨(L.cval p q P tm).cells⟩) rfl rfl rfl rfl rfl (by kernel_rfl) (same_fr _)) ?_
  (focus ((try with_reducible apply wpC.to); (repeat' ((conv => whnf); first | refine byEv ?_ | ((apply Fork.mk) <;> (intro _; try (exfalso; omega; done))) | refine xSpanC0 ?_ | refine xSpanB1 ?_ | refine xSpanB0 ?_ | fail)); all_goals (conv => whnf); all_goals (try with_reducible apply At.mk)))
  apply q_callv
  focus (exact byNext)
  focus (exact byLo)
  focus exact works_l
  intro h4 q4 n4
  (focus ((try with_reducible apply wpC.to); (repeat' ((conv => whnf); first | refine byEv ?_ | ((apply Fork.mk) <;> (intro _; try (exfalso; omega; done))) | refine xSpanC0 ?_ | refine xSpanB1 ?_ | refine xSpanB0 ?_ | fail)); all_goals (conv => whnf); all_goals (try with_reducible apply At.mk)))
  (refine byFin ?_)
  rfl
end AE.Try
