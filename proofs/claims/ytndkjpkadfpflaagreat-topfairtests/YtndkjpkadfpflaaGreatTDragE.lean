/- Walks of drag and its reference: tests. -/
import Derived.Test.YtndkjpkadfpflaaGreatTDragD
import Derived.Test.YtndkjpkadfpflaaGreatDragSpec2
set_option linter.unusedVariables false
set_option linter.unusedSimpArgs false
set_option linter.unusedSectionVars false
namespace AE.Tryz
open Go AE AE.Drag Go.Proofs
set_option maxRecDepth 100000

set_option maxHeartbeats 1000000 in
theorem checkTest_w {h : H} {t : T} (_ : Known t) : AW Tryz.prog 67 h.next h [.agg ⟨t.cells⟩] (fun w _ => w = .int .i64 (testErr t)) := by
  refine fun67.call rfl (Nat.le_refl _) ?_
  unfold a67
  (focus ((try with_reducible apply wpC.to); (repeat' ((conv => whnf); first | refine byEv ?_ | ((apply q_call); (focus exact byNext); (focus exact byLo); (focus (first | exact kTDragD0 | exact kTDragB0 | exact kTDragA2)); first | ((apply q_allB) <;> (intro z_b _ _ _; first | exact Bool.noConfusion z_b | replace z_b := of_decide_eq_true z_b | replace z_b := of_decide_eq_false z_b | skip) <;> ((try simp only [AllOk, Bd.ok, and_true] at z_b); first | contradiction | (revert z_b; intros))) | ((apply q_alli) <;> intro _ _ _ _ <;> try contradiction) | (apply q_allv; intro _ _ _)) | (apply q_call; (focus exact byNext); (focus omega); (focus exact bounds_w); rintro _ z_h1 ⟨z_r, z_e, z_hr1, z_hr2, z_hg⟩ z_q z_hn; subst z_e; (try simp only [put_next, bump_next] at z_hr1); revert z_hn z_q z_hg z_hr2 z_hr1 z_r z_h1; intros) | fail)); all_goals ((conv => whnf); try with_reducible apply At.mk)))
  · (refine byFin ?_)
    refine int_of rfl (testErr_0 ⟨?_, ?_, ?_, ?_, ?_, ?_, ?_, ?_, ?_, ?_, ?_, ?_, ?_, ?_, ?_, ?_, ?_, ?_, ?_, ?_, ?_, ?_, ?_, ?_, ?_, ?_⟩).symm <;> omega
  · (refine byFin ?_)
    refine int_of rfl (testErr_2 fun k => ?_).symm
    have := k.s1; have := k.s2; have := k.l1; have := k.l2; have := k.w1; have := k.w2; have := k.a1; have := k.a2; have := k.f1; have := k.f2; have := k.f3; have := k.t1; have := k.t2; have := k.t3
    have := k.e1; have := k.e2; have := k.e3; have := k.m1; have := k.m2; have := k.m3; have := k.b1; have := k.b2; have := k.b3; have := k.r1; have := k.r2; have := k.r3
    omega
theorem kTDragE0 {G : Prop} (g : G := by ((apply AW.arg1; (focus (apply checkTest_w; (focus assumption))); (focus exact Is.rfl)))) : G := g
set_option maxHeartbeats 1000000 in
theorem refCheckTest_w {h : H} {t : T} (_ : Known t) : AW Tryz.prog 25 h.next h [.agg ⟨t.cells⟩] (fun w _ => w = .int .i64 (testErr t)) := by
  refine fun25.call rfl (Nat.le_refl _) ?_
  unfold a25
  (focus ((try with_reducible apply wpC.to); (repeat' ((conv => whnf); first | refine byEv ?_ | ((apply q_call); (focus exact byNext); (focus exact byLo); (focus (first | exact kTDragD0 | exact kTDragA1 | exact kTDragA0)); first | ((apply q_allB) <;> (intro z_b _ _ _; first | exact Bool.noConfusion z_b | replace z_b := of_decide_eq_true z_b | replace z_b := of_decide_eq_false z_b | skip) <;> ((try simp only [AllOk, Bd.ok, and_true] at z_b); first | contradiction | (revert z_b; intros))) | ((apply q_alli) <;> intro _ _ _ _ <;> try contradiction) | (apply q_allv; intro _ _ _)) | fail)); all_goals ((conv => whnf); try with_reducible apply At.mk)))
  all_goals (refine byFin ?_)
  all_goals first
    | (refine int_of rfl (testErr_2 fun k => ?_).symm
       have := k.s1; have := k.s2; have := k.l1; have := k.l2; have := k.w1; have := k.w2; have := k.a1; have := k.a2; have := k.f1; have := k.f2; have := k.f3; have := k.t1; have := k.t2; have := k.t3
       have := k.e1; have := k.e2; have := k.e3; have := k.m1; have := k.m2; have := k.m3; have := k.b1; have := k.b2; have := k.b3; have := k.r1; have := k.r2; have := k.r3
       omega)
    | (refine int_of rfl (testErr_0 ⟨?_, ?_, ?_, ?_, ?_, ?_, ?_, ?_, ?_, ?_, ?_, ?_, ?_, ?_, ?_, ?_, ?_, ?_, ?_, ?_, ?_, ?_, ?_, ?_, ?_, ?_⟩).symm <;> omega)
theorem kTDragE1 {G : Prop} (g : G := by ((apply AW.arg1; (focus (apply refCheckTest_w; (focus assumption))); (focus exact Is.rfl)))) : G := g
end AE.Tryz
