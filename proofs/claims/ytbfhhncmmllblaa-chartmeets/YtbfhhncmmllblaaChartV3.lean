/- Walks of the laws of charts: where a need is met. -/
import Derived.Test.YtbfhhncmmllblaaChartV1
import Derived.Test.YtbfhhncmmllblaaChartRi
set_option linter.unusedVariables false
set_option linter.unusedSimpArgs false
set_option linter.unusedSectionVars false
namespace AE.Try
open Go AE Go.Proofs
set_option maxRecDepth 100000
set_option linter.unusedVariables false

theorem kChartV30 {G : Prop} (g : G := by ((apply Meet_w; rotate_left; (focus (apply Tbl.Ok.same; (focus assumption); (focus exact bySame); (focus exact Nat.le_refl _))); (focus (apply Pul.Ok.same; (focus assumption); (focus exact bySame); (focus exact Nat.le_refl _))); (focus assumption); (focus exact byOm)))) : G := g
theorem kChartV31 {G : Prop} (g : G := by ((apply Meet_r; rotate_left; (focus (apply Tbl.Ok.same; (focus assumption); (focus exact bySame); (focus exact Nat.le_refl _))); (focus (apply Pul.Ok.same; (focus assumption); (focus exact bySame); (focus exact Nat.le_refl _))); (focus exact byOm)))) : G := g
theorem kChartV32 {G : Prop} (g : G := by ((apply Meets_w; rotate_left; (focus (apply Tbl.Ok.same; (focus assumption); (focus exact bySame); (focus exact Nat.le_refl _))); (focus assumption); (focus exact byOm)))) : G := g
theorem kChartV33 {G : Prop} (g : G := by ((apply Meets_r; rotate_left; (focus (apply Tbl.Ok.same; (focus assumption); (focus exact bySame); (focus exact Nat.le_refl _))); (focus exact byOm)))) : G := g

set_option maxHeartbeats 4000000 in
theorem meets_law {h : H} {T : Tbl} {p : Pul} {x : Int} {n : Nd} {m : Nat} (hm : m ≤ h.next) (hT : T.Ok m h) (hp : p.Ok m h) (hs : -9223372036854775808 ≤ n.s ∧ n.s < 9223372036854775808) : AW Try.prog 4 h.next h [.agg ⟨T.cells⟩, .slice p.M.b p.M.n p.M.c, .int .i64 x, .agg ⟨n.cells⟩] (fun v _ => v = .bool true) := by
  refine fun4.call rfl (Nat.le_refl _) ?_
  unfold a4 Tbl.cells Nd.cells
  (focus ((try with_reducible apply wpC.to); (repeat' ((conv => whnf); first | refine byEv ?_ | ((apply Fork.mk) <;> (intro _; try (exfalso; omega; done))) | ((apply q_call); (focus exact byNext); (focus exact byLo); (focus (first | exact kChartV33 | exact kChartV32 | exact kChartV31 | exact kChartV30 | exact kChartY2)); first | ((apply q_allB) <;> (intro z_b _ _ _; first | exact Bool.noConfusion z_b | replace z_b := of_decide_eq_true z_b | replace z_b := of_decide_eq_false z_b | skip) <;> (first | contradiction | (revert z_b; intros))) | ((apply q_alli) <;> (intro _ _ _ _; try contradiction)) | ((apply q_allv); intro _ _ _)) | fail)); all_goals (conv => whnf); all_goals (try with_reducible apply At.mk)))
  apply q_call
  focus (exact byNext)
  focus (exact byLo)
  focus exact great_w (T := T) (p := p) (m := m) (by (exact byOm)) (hT.same (by (exact bySame)) (Nat.le_refl _)) (hp.same (by (exact bySame)) (Nat.le_refl _))
  rintro _ h2 ⟨b, rfl, -⟩ q2 n2
  cases b
  · (focus ((try with_reducible apply wpC.to); (repeat' ((conv => whnf); first | refine byEv ?_ | ((apply Fork.mk) <;> (intro _; try (exfalso; omega; done))) | ((apply q_call); (focus exact byNext); (focus exact byLo); (focus (first | exact kChartV33 | exact kChartV32 | exact kChartV31 | exact kChartV30 | exact kChartY2)); first | ((apply q_allB) <;> (intro z_b _ _ _; first | exact Bool.noConfusion z_b | replace z_b := of_decide_eq_true z_b | replace z_b := of_decide_eq_false z_b | skip) <;> (first | contradiction | (revert z_b; intros))) | ((apply q_alli) <;> (intro _ _ _ _; try contradiction)) | ((apply q_allv); intro _ _ _)) | fail)); all_goals (conv => whnf); all_goals (try with_reducible apply At.mk)))
    refine OpE.pure (.bool true) (xPure_eql (A := ⟨(T.mval p x n).cells⟩) (B := ⟨(T.mval p x n).cells⟩) rfl rfl rfl rfl rfl (by kernel_rfl) (eql_fr _)) ?_
    (focus ((try with_reducible apply wpC.to); (repeat' ((conv => whnf); first | refine byEv ?_ | ((apply Fork.mk) <;> (intro _; try (exfalso; omega; done))) | ((apply q_call); (focus exact byNext); (focus exact byLo); (focus (first | exact kChartV33 | exact kChartV32 | exact kChartV31 | exact kChartV30 | exact kChartY2)); first | ((apply q_allB) <;> (intro z_b _ _ _; first | exact Bool.noConfusion z_b | replace z_b := of_decide_eq_true z_b | replace z_b := of_decide_eq_false z_b | skip) <;> (first | contradiction | (revert z_b; intros))) | ((apply q_alli) <;> (intro _ _ _ _; try contradiction)) | ((apply q_allv); intro _ _ _)) | fail)); all_goals (conv => whnf); all_goals (try with_reducible apply At.mk)))
    refine OpE.pure (.bool true) (xPure_eql (A := ⟨(T.msval x n).1.cells ++ (T.msval x n).2.cells⟩) (B := ⟨(T.msval x n).1.cells ++ (T.msval x n).2.cells⟩) rfl rfl rfl rfl rfl (by kernel_rfl) (eql_span _ _)) ?_
    (focus ((try with_reducible apply wpC.to); (repeat' ((conv => whnf); first | refine byEv ?_ | ((apply Fork.mk) <;> (intro _; try (exfalso; omega; done))) | ((apply q_call); (focus exact byNext); (focus exact byLo); (focus (first | exact kChartV33 | exact kChartV32 | exact kChartV31 | exact kChartV30 | exact kChartY2)); first | ((apply q_allB) <;> (intro z_b _ _ _; first | exact Bool.noConfusion z_b | replace z_b := of_decide_eq_true z_b | replace z_b := of_decide_eq_false z_b | skip) <;> (first | contradiction | (revert z_b; intros))) | ((apply q_alli) <;> (intro _ _ _ _; try contradiction)) | ((apply q_allv); intro _ _ _)) | fail)); all_goals (conv => whnf); all_goals (try with_reducible apply At.mk)))
    (refine byFin ?_)
    rfl
  · (focus ((try with_reducible apply wpC.to); (repeat' ((conv => whnf); first | refine byEv ?_ | ((apply Fork.mk) <;> (intro _; try (exfalso; omega; done))) | ((apply q_call); (focus exact byNext); (focus exact byLo); (focus (first | exact kChartV33 | exact kChartV32 | exact kChartV31 | exact kChartV30 | exact kChartY2)); first | ((apply q_allB) <;> (intro z_b _ _ _; first | exact Bool.noConfusion z_b | replace z_b := of_decide_eq_true z_b | replace z_b := of_decide_eq_false z_b | skip) <;> (first | contradiction | (revert z_b; intros))) | ((apply q_alli) <;> (intro _ _ _ _; try contradiction)) | ((apply q_allv); intro _ _ _)) | fail)); all_goals (conv => whnf); all_goals (try with_reducible apply At.mk)))
    (refine byFin ?_)
    rfl
end AE.Try
