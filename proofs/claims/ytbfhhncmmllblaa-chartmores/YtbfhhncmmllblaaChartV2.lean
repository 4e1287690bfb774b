/- Walks of the laws of charts: more. -/
import Derived.Test.YtbfhhncmmllblaaChartV1
import Derived.Test.YtbfhhncmmllblaaChartRh
set_option linter.unusedVariables false
set_option linter.unusedSimpArgs false
set_option linter.unusedSectionVars false
namespace AE.Try
open Go AE Go.Proofs
set_option maxRecDepth 100000
set_option linter.unusedVariables false

theorem kChartV20 {G : Prop} (g : G := by ((apply More_w; rotate_left; (focus (apply Tbl.Ok.same; (focus assumption); (focus exact bySame); (focus exact Nat.le_refl _))); (focus exact byOm)))) : G := g
theorem kChartV21 {G : Prop} (g : G := by ((apply More_r; rotate_left; (focus (apply Tbl.Ok.same; (focus assumption); (focus exact bySame); (focus exact Nat.le_refl _))); (focus exact byOm)))) : G := g

theorem Pul.same_of {T : Tbl} {x y : Pul} {F : Nat → Nat → Int} (hx : x.M.n = T.P.n ∧ (∀ i, i < T.P.n → x.M.w i = T.A.n) ∧ ∀ i k, i < T.P.n → k < T.A.n → x.f i k = F i k) (hy : y.M.n = T.P.n ∧ (∀ i, i < T.P.n → y.M.w i = T.A.n) ∧ ∀ i k, i < T.P.n → k < T.A.n → y.f i k = F i k) : x.Same y := by
  obtain ⟨x1, x2, x3⟩ := hx
  obtain ⟨y1, y2, y3⟩ := hy
  refine ⟨x1.trans y1.symm, fun i hi => ⟨(x2 i (by omega)).trans (y2 i (by omega)).symm, fun k hk => ?_⟩⟩
  rw [x2 i (by omega)] at hk
  exact (x3 i k (by omega) hk).trans (y3 i k (by omega) hk).symm

set_option maxHeartbeats 4000000 in
theorem mores_w {h : H} {T : Tbl} {p q : Pt} {b : Bool} {m : Nat} (hm : m ≤ h.next) (hT : T.Ok m h) : AW Try.prog 10 h.next h [.agg ⟨T.cells⟩, .agg ⟨p.cells⟩, .agg ⟨q.cells⟩, .bool b] (fun v _ => v = .bool true) := by
  refine fun10.call rfl (Nat.le_refl _) ?_
  unfold a10 Tbl.cells Pt.cells
  (focus ((try with_reducible apply wpC.to); (repeat' ((conv => whnf); first | refine byEv ?_ | ((apply Fork.mk) <;> (intro _; try (exfalso; omega; done))) | ((apply q_call); (focus exact byNext); (focus exact byLo); (focus (first | exact kChartV21 | exact kChartV20 | exact kChartY2)); first | ((apply q_allB) <;> (intro z_b _ _ _; first | exact Bool.noConfusion z_b | replace z_b := of_decide_eq_true z_b | replace z_b := of_decide_eq_false z_b | skip) <;> (first | contradiction | (revert z_b; intros))) | ((apply q_alli) <;> (intro _ _ _ _; try contradiction)) | ((apply q_allv); intro _ _ _)) | fail)); all_goals (conv => whnf); all_goals (try with_reducible apply At.mk)))
  apply q_call
  focus (exact byNext)
  focus (exact byLo)
  focus exact great_w (T := T) (p := noPul) (m := m) (by (exact byOm)) (hT.same (by (exact bySame)) (Nat.le_refl _)) (noPul_ok _ _)
  rintro _ h2 ⟨c, rfl, -⟩ q2 n2
  cases c
  · (focus ((try with_reducible apply wpC.to); (repeat' ((conv => whnf); first | refine byEv ?_ | ((apply Fork.mk) <;> (intro _; try (exfalso; omega; done))) | ((apply q_call); (focus exact byNext); (focus exact byLo); (focus (first | exact kChartV21 | exact kChartV20 | exact kChartY2)); first | ((apply q_allB) <;> (intro z_b _ _ _; first | exact Bool.noConfusion z_b | replace z_b := of_decide_eq_true z_b | replace z_b := of_decide_eq_false z_b | skip) <;> (first | contradiction | (revert z_b; intros))) | ((apply q_alli) <;> (intro _ _ _ _; try contradiction)) | ((apply q_allv); intro _ _ _)) | fail)); all_goals (conv => whnf); all_goals (try with_reducible apply At.mk)))
    apply q_call
    focus (exact byNext)
    focus (exact byLo)
    focus exact End_w (T := T) (p := p) (q := q) (high := b) (m := m) (by (exact byOm)) (hT.same (by (exact bySame)) (Nat.le_refl _))
    rintro _ h3 ⟨x, rfl, ox, x0, x1⟩ q3 n3
    (focus ((try with_reducible apply wpC.to); (repeat' ((conv => whnf); first | refine byEv ?_ | ((apply Fork.mk) <;> (intro _; try (exfalso; omega; done))) | ((apply q_call); (focus exact byNext); (focus exact byLo); (focus (first | exact kChartV21 | exact kChartV20 | exact kChartY2)); first | ((apply q_allB) <;> (intro z_b _ _ _; first | exact Bool.noConfusion z_b | replace z_b := of_decide_eq_true z_b | replace z_b := of_decide_eq_false z_b | skip) <;> (first | contradiction | (revert z_b; intros))) | ((apply q_alli) <;> (intro _ _ _ _; try contradiction)) | ((apply q_allv); intro _ _ _)) | fail)); all_goals (conv => whnf); all_goals (try with_reducible apply At.mk)))
    apply q_call
    focus (exact byNext)
    focus (exact byLo)
    focus exact End_r (T := T) (p := p) (q := q) (high := b) (m := m) (by (exact byOm)) (hT.same (by (exact bySame)) (Nat.le_refl _))
    rintro _ h4 ⟨y, rfl, oy, y0, y1⟩ q4 n4
    have hs : x.Same y := by
      by_cases he : T.nerr (T.On p ∧ T.On q) = 0
      · exact Pul.same_of (x1 he) (y1 he)
      · exact ⟨(x0 he).trans (y0 he).symm, fun i hi => by rw [x0 he] at hi; exact absurd hi (Nat.not_lt_zero i)⟩
    (focus ((try with_reducible apply wpC.to); (repeat' ((conv => whnf); first | refine byEv ?_ | ((apply Fork.mk) <;> (intro _; try (exfalso; omega; done))) | ((apply q_call); (focus exact byNext); (focus exact byLo); (focus (first | exact kChartV21 | exact kChartV20 | exact kChartY2)); first | ((apply q_allB) <;> (intro z_b _ _ _; first | exact Bool.noConfusion z_b | replace z_b := of_decide_eq_true z_b | replace z_b := of_decide_eq_false z_b | skip) <;> (first | contradiction | (revert z_b; intros))) | ((apply q_alli) <;> (intro _ _ _ _; try contradiction)) | ((apply q_allv); intro _ _ _)) | fail)); all_goals (conv => whnf); all_goals (try with_reducible apply At.mk)))
    refine OpE.pure (.bool true) (xPure_eql (A := ⟨(T.mspan p q).1.cells ++ (T.mspan p q).2.cells⟩) (B := ⟨(T.mspan p q).1.cells ++ (T.mspan p q).2.cells⟩) rfl rfl rfl rfl rfl (by kernel_rfl) (eql_span _ _)) ?_
    (focus ((try with_reducible apply wpC.to); (repeat' ((conv => whnf); first | refine byEv ?_ | ((apply Fork.mk) <;> (intro _; try (exfalso; omega; done))) | ((apply q_call); (focus exact byNext); (focus exact byLo); (focus (first | exact kChartV21 | exact kChartV20 | exact kChartY2)); first | ((apply q_allB) <;> (intro z_b _ _ _; first | exact Bool.noConfusion z_b | replace z_b := of_decide_eq_true z_b | replace z_b := of_decide_eq_false z_b | skip) <;> (first | contradiction | (revert z_b; intros))) | ((apply q_alli) <;> (intro _ _ _ _; try contradiction)) | ((apply q_allv); intro _ _ _)) | fail)); all_goals (conv => whnf); all_goals (try with_reducible apply At.mk)))
    apply q_call
    focus (exact byNext)
    focus (exact byLo)
    focus exact same_w (x := x) (y := y) (m := h4.next) (by (exact byOm)) (ox.same (by (exact bySame)) (by (exact byOm))) (oy.same (by (exact bySame)) (by (exact byOm)))
    rintro _ h5 rfl q5 n5
    rw [decide_eq_true hs]
    (focus ((try with_reducible apply wpC.to); (repeat' ((conv => whnf); first | refine byEv ?_ | ((apply Fork.mk) <;> (intro _; try (exfalso; omega; done))) | ((apply q_call); (focus exact byNext); (focus exact byLo); (focus (first | exact kChartV21 | exact kChartV20 | exact kChartY2)); first | ((apply q_allB) <;> (intro z_b _ _ _; first | exact Bool.noConfusion z_b | replace z_b := of_decide_eq_true z_b | replace z_b := of_decide_eq_false z_b | skip) <;> (first | contradiction | (revert z_b; intros))) | ((apply q_alli) <;> (intro _ _ _ _; try contradiction)) | ((apply q_allv); intro _ _ _)) | fail)); all_goals (conv => whnf); all_goals (try with_reducible apply At.mk)))
    (refine byFin ?_)
    rfl
  · (focus ((try with_reducible apply wpC.to); (repeat' ((conv => whnf); first | refine byEv ?_ | ((apply Fork.mk) <;> (intro _; try (exfalso; omega; done))) | ((apply q_call); (focus exact byNext); (focus exact byLo); (focus (first | exact kChartV21 | exact kChartV20 | exact kChartY2)); first | ((apply q_allB) <;> (intro z_b _ _ _; first | exact Bool.noConfusion z_b | replace z_b := of_decide_eq_true z_b | replace z_b := of_decide_eq_false z_b | skip) <;> (first | contradiction | (revert z_b; intros))) | ((apply q_alli) <;> (intro _ _ _ _; try contradiction)) | ((apply q_allv); intro _ _ _)) | fail)); all_goals (conv => whnf); all_goals (try with_reducible apply At.mk)))
    (refine byFin ?_)
    rfl
end AE.Try
