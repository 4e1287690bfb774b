/- Walks of the laws of spans: SpanRuns, SpanProofs. -/
import Derived.Test.YtkkndecbijgolaaSpanZt
set_option linter.unusedVariables false
set_option linter.unusedSimpArgs false
set_option linter.unusedSectionVars false
namespace AE.Try
open Go AE Go.Proofs AE.Sp
set_option maxRecDepth 100000
set_option linter.unusedVariables false

theorem same_tru (x : Tru) : pureRun Try.prog (Op.equalIn Op.maxDepth 24 (.agg ⟨x.cells⟩) (.agg ⟨x.cells⟩)) = some Bool.true := (eql_tru x x).trans (congrArg some (decide_eq_true ⟨rfl, rfl, rfl⟩))

open Classical in
set_option maxHeartbeats 8000000 in
theorem runs_law {h : H} {L : Runs} {t : Tru} {m : Nat} (hm : m ≤ h.next) (hL : L.Ok m h) : AW Try.prog 3 h.next h [.slice L.b L.n L.c, .agg ⟨t.cells⟩] (fun v _ => v = .bool true) := by
  have ll := hL.l
  refine fun3.call rfl (Nat.le_refl _) ?_
  unfold a3 Tru.cells
  (focus ((try with_reducible apply wpC.to); (repeat' ((conv => whnf); first | refine byEv ?_ | ((apply Fork.mk) <;> (intro _; try (exfalso; omega; done))) | ((first | refine kSpanC2 ?_ | refine kSpanC0 ?_ | refine kSpanB7 ?_ | refine kSpanB4 ?_); first | ((first | apply q_allD | apply q_alli | apply q_allB) <;> (intro _ _ _ _; try contradiction)) | ((apply q_allv); intro _ _ _)) | refine xSpanC0 ?_ | refine xSpanB1 ?_ | refine xSpanB0 ?_ | fail)); all_goals (conv => whnf); all_goals (try with_reducible apply At.mk)))
  · apply q_callv
    focus (exact byNext)
    focus (exact byLo)
    focus exact works_l
    intro h2 q2 n2
    (focus ((try with_reducible apply wpC.to); (repeat' ((conv => whnf); first | refine byEv ?_ | ((apply Fork.mk) <;> (intro _; try (exfalso; omega; done))) | ((first | refine kSpanC2 ?_ | refine kSpanC0 ?_ | refine kSpanB7 ?_ | refine kSpanB4 ?_); first | ((first | apply q_allD | apply q_alli | apply q_allB) <;> (intro _ _ _ _; try contradiction)) | ((apply q_allv); intro _ _ _)) | refine xSpanC0 ?_ | refine xSpanB1 ?_ | refine xSpanB0 ?_ | fail)); all_goals (conv => whnf); all_goals (try with_reducible apply At.mk)))
    (refine byFin ?_)
    rfl
  apply q_call
  focus (exact byNext)
  focus (exact byLo)
  focus exact truth_w (L := L) (m := m) byOm (hL.same bySame (Nat.le_refl _))
  rintro _ h4 ⟨x, rfl, x1, x2⟩ q4 n4
  unfold Tru.cells
  (focus ((try with_reducible apply wpC.to); (repeat' ((conv => whnf); first | refine byEv ?_ | ((apply Fork.mk) <;> (intro _; try (exfalso; omega; done))) | ((first | refine kSpanC2 ?_ | refine kSpanC0 ?_ | refine kSpanB7 ?_ | refine kSpanB4 ?_); first | ((first | apply q_allD | apply q_alli | apply q_allB) <;> (intro _ _ _ _; try contradiction)) | ((apply q_allv); intro _ _ _)) | refine xSpanC0 ?_ | refine xSpanB1 ?_ | refine xSpanB0 ?_ | fail)); all_goals (conv => whnf); all_goals (try with_reducible apply At.mk)))
  apply q_call
  focus (exact byNext)
  focus (exact byLo)
  focus exact doubtP_w (L := L) (m := m) byOm (hL.same bySame (Nat.le_refl _))
  rintro _ h5 ⟨P, tm, rfl, pok, ⟨pc, pb⟩, p1, p2⟩ q5 n5
  simp only [put_next, bump_next] at pb
  by_cases he : L.err ≠ 0
  · have e1 : L.lerr 0 0 = L.err := by unfold Runs.lerr Runs.err2; rw [if_pos he, if_pos he]
    have e2 : L.derr = L.err := by unfold Runs.derr; rw [if_pos he]
    obtain rfl := x1 (by rw [e1]; exact he)
    obtain ⟨pn, rfl⟩ := p1 (by rw [e2]; exact he)
    rw [e1, e2]
    (focus ((try with_reducible apply wpC.to); (repeat' ((conv => whnf); first | refine byEv ?_ | ((apply Fork.mk) <;> (intro _; try (exfalso; omega; done))) | ((first | refine kSpanC2 ?_ | refine kSpanC0 ?_ | refine kSpanB7 ?_ | refine kSpanB4 ?_); first | ((first | apply q_allD | apply q_alli | apply q_allB) <;> (intro _ _ _ _; try contradiction)) | ((apply q_allv); intro _ _ _)) | refine xSpanC0 ?_ | refine xSpanB1 ?_ | refine xSpanB0 ?_ | fail)); all_goals (conv => whnf); all_goals (try with_reducible apply At.mk)))
    refine OpE.pure (.bool true) (xPure_eql (A := ⟨(⟨0, 0, 0⟩ : Tru).cells⟩) (B := ⟨(⟨0, 0, 0⟩ : Tru).cells⟩) rfl rfl rfl rfl rfl (by kernel_rfl) (same_tru _)) ?_
    (focus ((try with_reducible apply wpC.to); (repeat' ((conv => whnf); first | refine byEv ?_ | ((apply Fork.mk) <;> (intro _; try (exfalso; omega; done))) | ((first | refine kSpanC2 ?_ | refine kSpanC0 ?_ | refine kSpanB7 ?_ | refine kSpanB4 ?_); first | ((first | apply q_allD | apply q_alli | apply q_allB) <;> (intro _ _ _ _; try contradiction)) | ((apply q_allv); intro _ _ _)) | refine xSpanC0 ?_ | refine xSpanB1 ?_ | refine xSpanB0 ?_ | fail)); all_goals (conv => whnf); all_goals (try with_reducible apply At.mk)))
    apply q_callv
    focus (exact byNext)
    focus (exact byLo)
    focus exact works_l
    intro h6 q6 n6
    (focus ((try with_reducible apply wpC.to); (repeat' ((conv => whnf); first | refine byEv ?_ | ((apply Fork.mk) <;> (intro _; try (exfalso; omega; done))) | ((first | refine kSpanC2 ?_ | refine kSpanC0 ?_ | refine kSpanB7 ?_ | refine kSpanB4 ?_); first | ((first | apply q_allD | apply q_alli | apply q_allB) <;> (intro _ _ _ _; try contradiction)) | ((apply q_allv); intro _ _ _)) | refine xSpanC0 ?_ | refine xSpanB1 ?_ | refine xSpanB0 ?_ | fail)); all_goals (conv => whnf); all_goals (try with_reducible apply At.mk)))
    (refine byFin ?_)
    rfl
  have he : L.err = 0 := by omega
  obtain ⟨ln, lv⟩ := L.err_0 he
  have f0 : Fac 0 0 := ⟨by decide, by decide⟩
  have b0 : L.Bnd 0 0 := .inl ⟨rfl, rfl⟩
  by_cases hc : L.Cl
  · have e1 : L.lerr 0 0 = 0 := Runs.lerr_ok (Runs.err2_of he f0) hc b0
    have e2 : L.derr = 5 := by unfold Runs.derr; rw [if_neg (by omega), if_pos hc]
    have fx := (x2 e1).f
    obtain ⟨pn, rfl⟩ := p1 (by rw [e2]; decide)
    rw [e1, e2]
    (focus ((try with_reducible apply wpC.to); (repeat' ((conv => whnf); first | refine byEv ?_ | ((apply Fork.mk) <;> (intro _; try (exfalso; omega; done))) | ((first | refine kSpanC2 ?_ | refine kSpanC0 ?_ | refine kSpanB7 ?_ | refine kSpanB4 ?_); first | ((first | apply q_allD | apply q_alli | apply q_allB) <;> (intro _ _ _ _; try contradiction)) | ((apply q_allv); intro _ _ _)) | refine xSpanC0 ?_ | refine xSpanB1 ?_ | refine xSpanB0 ?_ | fail)); all_goals (conv => whnf); all_goals (try with_reducible apply At.mk)))
    apply q_callB
    focus (exact byNext)
    focus (exact byLo)
    focus exact doubted_r (L := L) (m := m) byOm (hL.same bySame (Nat.le_refl _)) (by omega) lv
    · intro hb; exact absurd hc (of_decide_eq_true hb)
    intro hb h6 q6 n6
    (focus ((try with_reducible apply wpC.to); (repeat' ((conv => whnf); first | refine byEv ?_ | ((apply Fork.mk) <;> (intro _; try (exfalso; omega; done))) | ((first | refine kSpanC2 ?_ | refine kSpanC0 ?_ | refine kSpanB7 ?_ | refine kSpanB4 ?_); first | ((first | apply q_allD | apply q_alli | apply q_allB) <;> (intro _ _ _ _; try contradiction)) | ((apply q_allv); intro _ _ _)) | refine xSpanC0 ?_ | refine xSpanB1 ?_ | refine xSpanB0 ?_ | fail)); all_goals (conv => whnf); all_goals (try with_reducible apply At.mk)))
    apply q_callv
    focus (exact byNext)
    focus (exact byLo)
    focus exact works_l
    intro h7 q7 n7
    (focus ((try with_reducible apply wpC.to); (repeat' ((conv => whnf); first | refine byEv ?_ | ((apply Fork.mk) <;> (intro _; try (exfalso; omega; done))) | ((first | refine kSpanC2 ?_ | refine kSpanC0 ?_ | refine kSpanB7 ?_ | refine kSpanB4 ?_); first | ((first | apply q_allD | apply q_alli | apply q_allB) <;> (intro _ _ _ _; try contradiction)) | ((apply q_allv); intro _ _ _)) | refine xSpanC0 ?_ | refine xSpanB1 ?_ | refine xSpanB0 ?_ | fail)); all_goals (conv => whnf); all_goals (try with_reducible apply At.mk)))
    (refine byFin ?_)
    rfl
  · have e1 : L.lerr 0 0 = 20 := Runs.lerr_20 (Runs.err2_of he f0) hc
    have e2 : L.derr = 0 := by unfold Runs.derr; rw [if_neg (by omega), if_neg hc]
    obtain rfl := x1 (by rw [e1]; decide)
    obtain ⟨W, pr, ⟨wu, wv⟩, wp, rfl⟩ := p2 e2
    obtain ⟨rt, rw'⟩ := right_of (Runs.err2_of he f0) pr (tm := 1) (by omega) (by omega) (by decide)
    have ec := Runs.cerr_0.2 rt
    have ev : L.cval 0 0 P 1 = ⟨W.w, 1⟩ := by rw [rt.val, rw']; exact fr_one _
    have wn : 0 < (⟨W.w, 1⟩ : Fr).n := wp
    rw [e1, e2]
    (focus ((try with_reducible apply wpC.to); (repeat' ((conv => whnf); first | refine byEv ?_ | ((apply Fork.mk) <;> (intro _; try (exfalso; omega; done))) | ((first | refine kSpanC2 ?_ | refine kSpanC0 ?_ | refine kSpanB7 ?_ | refine kSpanB4 ?_); first | ((first | apply q_allD | apply q_alli | apply q_allB) <;> (intro _ _ _ _; try contradiction)) | ((apply q_allv); intro _ _ _)) | refine xSpanC0 ?_ | refine xSpanB1 ?_ | refine xSpanB0 ?_ | fail)); all_goals (conv => whnf); all_goals (try with_reducible apply At.mk)))
    apply q_callB
    focus (exact byNext)
    focus (exact byLo)
    focus exact doubted_r (L := L) (m := m) byOm (hL.same bySame (Nat.le_refl _)) (by omega) lv
    rotate_left
    · intro hb; exact absurd hc (of_decide_eq_false hb)
    intro hb h6 q6 n6
    (focus ((try with_reducible apply wpC.to); (repeat' ((conv => whnf); first | refine byEv ?_ | ((apply Fork.mk) <;> (intro _; try (exfalso; omega; done))) | ((first | refine kSpanC2 ?_ | refine kSpanC0 ?_ | refine kSpanB7 ?_ | refine kSpanB4 ?_); first | ((first | apply q_allD | apply q_alli | apply q_allB) <;> (intro _ _ _ _; try contradiction)) | ((apply q_allv); intro _ _ _)) | refine xSpanC0 ?_ | refine xSpanB1 ?_ | refine xSpanB0 ?_ | fail)); all_goals (conv => whnf); all_goals (try with_reducible apply At.mk)))
    apply q_callv
    focus (exact byNext)
    focus (exact byLo)
    focus exact checkProof_r (L := L) (P := P) (m := h5.next) byOm (hL.same bySame byOm) (pok.keep fun r h1 h2 => get_of fun y hy => by have := pb h2; have := pok.r h2; (exact byGet))
    intro h7 q7 n7
    rw [ec, ev]
    unfold Fr.cells
    (focus ((try with_reducible apply wpC.to); (repeat' ((conv => whnf); first | refine byEv ?_ | ((apply Fork.mk) <;> (intro _; try (exfalso; omega; done))) | ((first | refine kSpanC2 ?_ | refine kSpanC0 ?_ | refine kSpanB7 ?_ | refine kSpanB4 ?_); first | ((first | apply q_allD | apply q_alli | apply q_allB) <;> (intro _ _ _ _; try contradiction)) | ((apply q_allv); intro _ _ _)) | refine xSpanC0 ?_ | refine xSpanB1 ?_ | refine xSpanB0 ?_ | fail)); all_goals (conv => whnf); all_goals (try with_reducible apply At.mk)))
    refine OpE.pure (.bool true) (xPure_eql (A := ⟨(⟨0, 0, 0⟩ : Tru).cells⟩) (B := ⟨(⟨0, 0, 0⟩ : Tru).cells⟩) rfl rfl rfl rfl rfl (by kernel_rfl) (same_tru _)) ?_
    (focus ((try with_reducible apply wpC.to); (repeat' ((conv => whnf); first | refine byEv ?_ | ((apply Fork.mk) <;> (intro _; try (exfalso; omega; done))) | ((first | refine kSpanC2 ?_ | refine kSpanC0 ?_ | refine kSpanB7 ?_ | refine kSpanB4 ?_); first | ((first | apply q_allD | apply q_alli | apply q_allB) <;> (intro _ _ _ _; try contradiction)) | ((apply q_allv); intro _ _ _)) | refine xSpanC0 ?_ | refine xSpanB1 ?_ | refine xSpanB0 ?_ | fail)); all_goals (conv => whnf); all_goals (try with_reducible apply At.mk)))
    apply q_callv
    focus (exact byNext)
    focus (exact byLo)
    focus exact works_l
    intro h8 q8 n8
    (focus ((try with_reducible apply wpC.to); (repeat' ((conv => whnf); first | refine byEv ?_ | ((apply Fork.mk) <;> (intro _; try (exfalso; omega; done))) | ((first | refine kSpanC2 ?_ | refine kSpanC0 ?_ | refine kSpanB7 ?_ | refine kSpanB4 ?_); first | ((first | apply q_allD | apply q_alli | apply q_allB) <;> (intro _ _ _ _; try contradiction)) | ((apply q_allv); intro _ _ _)) | refine xSpanC0 ?_ | refine xSpanB1 ?_ | refine xSpanB0 ?_ | fail)); all_goals (conv => whnf); all_goals (try with_reducible apply At.mk)))
    (refine byFin ?_)
    rfl

end AE.Try
