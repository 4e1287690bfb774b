/- Walks of drag and its reference: Friction. -/
import Derived.Test.YtndkjpkadfpflaaGreatTDragC
set_option linter.unusedVariables false
set_option linter.unusedSimpArgs false
set_option linter.unusedSectionVars false
namespace AE.Tryz
open Go AE AE.Drag Go.Proofs
set_option maxRecDepth 100000

theorem kTDragD0 {G : Prop} (g : G := by ((apply AW.arg1; (focus (apply refFric_w; rotate_left; (focus (apply Line.Ok.same; (focus assumption); (focus exact bySame); (focus exact Nat.le_refl _))); (focus assumption); (focus exact byOm))); (focus exact Is.rfl)))) : G := g
theorem friction_api {h : H} {L : Line} {m : Nat} {x : Int} (hm : m ≤ h.next) (hL : L.Ok m h) : AW Tryz.prog 22 h.next h [.agg ⟨L.cells⟩, .int .i64 x] (fun w _ => w = .tuple #[.int .i64 (frictionR L x).1, .int .i64 (frictionR L x).2]) := by
  refine fun22.call rfl (Nat.le_refl _) ?_
  unfold a22 frictionR
  by_cases he : lineErr L ≠ 0
  · rw [if_pos he]
    (focus ((try with_reducible apply wpC.to); (repeat' ((conv => whnf); first | refine byEv ?_ | (apply Fork.mk <;> (intro _; try (exfalso; omega))) | ((apply q_call); (focus exact byNext); (focus exact byLo); (focus (first | exact kTDragD0 | exact kTDragC7 | exact kTDragC5 | exact kTDragB1)); first | ((apply q_allB) <;> (intro z_b _ _ _; first | exact Bool.noConfusion z_b | replace z_b := of_decide_eq_true z_b | replace z_b := of_decide_eq_false z_b | skip) <;> ((try simp only [AllOk, Bd.ok, and_true] at z_b); first | contradiction | (revert z_b; intros))) | ((apply q_alli) <;> intro _ _ _ _ <;> try contradiction) | (apply q_allv; intro _ _ _)) | fail)); all_goals ((conv => whnf); try with_reducible apply At.mk)))
    all_goals ((refine byFin ?_); rfl)
  · have v := lineErr_valid.1 (by omega : lineErr L = 0)
    have := v.lo
    rw [if_neg he]
    by_cases hin : inside L x
    · have hin' := hin
      unfold inside at hin'
      rw [if_pos hin]
      (focus ((try with_reducible apply wpC.to); (repeat' ((conv => whnf); first | refine byEv ?_ | (apply Fork.mk <;> (intro _; try (exfalso; omega))) | ((apply q_call); (focus exact byNext); (focus exact byLo); (focus (first | exact kTDragD0 | exact kTDragC7 | exact kTDragC5 | exact kTDragB1)); first | ((apply q_allB) <;> (intro z_b _ _ _; first | exact Bool.noConfusion z_b | replace z_b := of_decide_eq_true z_b | replace z_b := of_decide_eq_false z_b | skip) <;> ((try simp only [AllOk, Bd.ok, and_true] at z_b); first | contradiction | (revert z_b; intros))) | ((apply q_alli) <;> intro _ _ _ _ <;> try contradiction) | (apply q_allv; intro _ _ _)) | fail)); all_goals ((conv => whnf); try with_reducible apply At.mk)))
      all_goals first
        | omega
        | ((refine byFin ?_); rfl)
    · have hin' := hin
      unfold inside at hin'
      rw [if_neg hin]
      (focus ((try with_reducible apply wpC.to); (repeat' ((conv => whnf); first | refine byEv ?_ | (apply Fork.mk <;> (intro _; try (exfalso; omega))) | ((apply q_call); (focus exact byNext); (focus exact byLo); (focus (first | exact kTDragD0 | exact kTDragC7 | exact kTDragC5 | exact kTDragB1)); first | ((apply q_allB) <;> (intro z_b _ _ _; first | exact Bool.noConfusion z_b | replace z_b := of_decide_eq_true z_b | replace z_b := of_decide_eq_false z_b | skip) <;> ((try simp only [AllOk, Bd.ok, and_true] at z_b); first | contradiction | (revert z_b; intros))) | ((apply q_alli) <;> intro _ _ _ _ <;> try contradiction) | (apply q_allv; intro _ _ _)) | fail)); all_goals ((conv => whnf); try with_reducible apply At.mk)))
      all_goals first
        | omega
        | ((refine byFin ?_); rfl)
end AE.Tryz
