/- Walks of the definitions of charts: spans, differences. -/
import Derived.Test.YtbfhhncmmllblaaChartRe
set_option linter.unusedVariables false
set_option linter.unusedSimpArgs false
set_option linter.unusedSectionVars false
namespace AE.Try
open Go AE Go.Proofs
set_option maxRecDepth 100000
set_option linter.unusedVariables false

set_option maxHeartbeats 1000000 in
theorem Span_r {h : H} {T : Tbl} {p : Pt} {m : Nat} (hm : m ≤ h.next) (hT : T.Ok m h) : AW Try.prog 18 h.next h [.agg ⟨T.cells⟩, .agg ⟨p.cells⟩] (fun v _ => v = .tuple #[.agg ⟨(T.span p).1.cells ++ (T.span p).2.cells⟩, .int .i64 (T.nerr (T.On p))]) := by
  refine fun18.call rfl (Nat.le_refl _) ?_
  unfold a18 Tbl.cells Pt.cells
  (focus ((try with_reducible apply wpC.to); (repeat' ((conv => whnf); first | refine byEv ?_ | ((apply Fork.mk) <;> (intro _; try (exfalso; omega; done))) | ((apply q_call); (focus exact byNext); (focus exact byLo); (focus (first | exact kChartRd3 | exact kChartRd2 | exact kChartRb0)); first | ((apply q_allB) <;> (intro z_b _ _ _; first | exact Bool.noConfusion z_b | replace z_b := of_decide_eq_true z_b | replace z_b := of_decide_eq_false z_b | skip) <;> (first | contradiction | (revert z_b; intros))) | ((apply q_alli) <;> (intro _ _ _ _; try contradiction)) | ((apply q_allv); intro _ _ _)) | fail)); all_goals (conv => whnf); all_goals (try with_reducible apply At.mk)))
  · have he : T.nerr (T.On p) = T.err := by unfold Tbl.nerr; rw [if_pos (by assumption)]
    have e1 : T.span p = (⟨0, 0⟩, ⟨0, 0⟩) := by unfold Tbl.span; rw [if_neg (by rw [he]; assumption)]
    (refine byFin ?_)
    rw [e1, he]
    rfl
  have hz : T.err = 0 := by assumption
  have g := Tbl.good hz
  have lb := (lo_pull (T := T) (h := h) hT g).rng
  have hb := (hi_pull (T := T) (h := h) hT g).rng
  (focus ((try with_reducible apply wpC.to); (repeat' ((conv => whnf); first | refine byEv ?_ | ((apply Fork.mk) <;> (intro _; try (exfalso; omega; done))) | ((apply q_call); (focus exact byNext); (focus exact byLo); (focus (first | exact kChartRd3 | exact kChartRd2 | exact kChartRb0)); first | ((apply q_allB) <;> (intro z_b _ _ _; first | exact Bool.noConfusion z_b | replace z_b := of_decide_eq_true z_b | replace z_b := of_decide_eq_false z_b | skip) <;> (first | contradiction | (revert z_b; intros))) | ((apply q_alli) <;> (intro _ _ _ _; try contradiction)) | ((apply q_allv); intro _ _ _)) | fail)); all_goals (conv => whnf); all_goals (try with_reducible apply At.mk)))
  · have o : T.On p := by assumption
    have he : T.nerr (T.On p) = 0 := g.nerr o
    have e1 : T.span p = (T.val p T.lo, T.val p T.hi) := by unfold Tbl.span; rw [if_pos he]
    apply q_call
    focus (exact byNext)
    focus (exact byLo)
    focus exact ends_r (T := T) (m := m) (by (exact byOm)) (hT.same (by (exact bySame)) (Nat.le_refl _)) g
    rintro _ h3 ⟨A, B, rfl, ⟨O1, O2, hO, oA, oB⟩, ⟨an, aw⟩, ⟨bn, bw⟩, af, bf⟩ q3 n3
    have kA := oA.ok
    have kB := oB.ok
    (focus ((try with_reducible apply wpC.to); (repeat' ((conv => whnf); first | refine byEv ?_ | ((apply Fork.mk) <;> (intro _; try (exfalso; omega; done))) | ((apply q_call); (focus exact byNext); (focus exact byLo); (focus (first | exact kChartRd3 | exact kChartRd2 | exact kChartRb0)); first | ((apply q_allB) <;> (intro z_b _ _ _; first | exact Bool.noConfusion z_b | replace z_b := of_decide_eq_true z_b | replace z_b := of_decide_eq_false z_b | skip) <;> (first | contradiction | (revert z_b; intros))) | ((apply q_alli) <;> (intro _ _ _ _; try contradiction)) | ((apply q_allv); intro _ _ _)) | fail)); all_goals (conv => whnf); all_goals (try with_reducible apply At.mk)))
    apply q_callv
    focus (exact byNext)
    focus (exact byLo)
    focus exact value_r (T := T) (at_ := p) (p := A) (m := h3.next) (by (exact byOm)) (hT.same (by (exact bySame)) (by (exact byOm))) g o (kA.same (by (exact bySame)) (Nat.le_refl _)) an aw (by rw [af]; exact lb)
    intro h4 q4 n4
    (focus ((try with_reducible apply wpC.to); (repeat' ((conv => whnf); first | refine byEv ?_ | ((apply Fork.mk) <;> (intro _; try (exfalso; omega; done))) | ((apply q_call); (focus exact byNext); (focus exact byLo); (focus (first | exact kChartRd3 | exact kChartRd2 | exact kChartRb0)); first | ((apply q_allB) <;> (intro z_b _ _ _; first | exact Bool.noConfusion z_b | replace z_b := of_decide_eq_true z_b | replace z_b := of_decide_eq_false z_b | skip) <;> (first | contradiction | (revert z_b; intros))) | ((apply q_alli) <;> (intro _ _ _ _; try contradiction)) | ((apply q_allv); intro _ _ _)) | fail)); all_goals (conv => whnf); all_goals (try with_reducible apply At.mk)))
    apply q_callv
    focus (exact byNext)
    focus (exact byLo)
    focus exact value_r (T := T) (at_ := p) (p := B) (m := h3.next) (by (exact byOm)) (hT.same (by (exact bySame)) (by (exact byOm))) g o (kB.same (by (exact bySame)) (Nat.le_refl _)) bn bw (by rw [bf]; exact hb)
    intro h5 q5 n5
    (focus ((try with_reducible apply wpC.to); (repeat' ((conv => whnf); first | refine byEv ?_ | ((apply Fork.mk) <;> (intro _; try (exfalso; omega; done))) | ((apply q_call); (focus exact byNext); (focus exact byLo); (focus (first | exact kChartRd3 | exact kChartRd2 | exact kChartRb0)); first | ((apply q_allB) <;> (intro z_b _ _ _; first | exact Bool.noConfusion z_b | replace z_b := of_decide_eq_true z_b | replace z_b := of_decide_eq_false z_b | skip) <;> (first | contradiction | (revert z_b; intros))) | ((apply q_alli) <;> (intro _ _ _ _; try contradiction)) | ((apply q_allv); intro _ _ _)) | fail)); all_goals (conv => whnf); all_goals (try with_reducible apply At.mk)))
    (refine byFin ?_)
    rw [e1, he, af, bf]
    rfl
  · have he : T.nerr (T.On p) = 19 := by unfold Tbl.nerr; rw [if_neg (fun k => k hz), if_pos (by assumption)]
    have e1 : T.span p = (⟨0, 0⟩, ⟨0, 0⟩) := by unfold Tbl.span; rw [he, if_neg (by decide)]
    (refine byFin ?_)
    rw [e1, he]
    rfl
end AE.Try
