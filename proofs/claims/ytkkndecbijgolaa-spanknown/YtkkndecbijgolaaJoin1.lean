/- Walks and plain laws: SpanZu, SpanYknown. -/
import Derived.Test.YtkkndecbijgolaaSpanYruns
set_option linter.unusedVariables false
set_option linter.unusedSimpArgs false
set_option linter.unusedSectionVars false

/- Walks of the laws of spans: what is known of least values. -/
namespace AE.Try
open Go AE Go.Proofs AE.Sp
set_option maxRecDepth 100000
set_option linter.unusedVariables false

theorem kSpanZu0 {G G' : Prop} (g : G') (t : G' → G := by ((apply q_call); (focus exact byNext); (focus exact byLo); (focus ((apply works_l))))) : G := t g
/-- What is known of a least value that there is. -/
structure LvOk (L : Runs) (p q N D : Int) : Prop where
  k : Lst L p q N D
  e : L.lval p q = fr N D
  d : 0 < D ∧ D ≤ 800
  n : -160000000 ≤ N ∧ N ≤ 160000000
theorem LvOk.rng {L : Runs} {p q N D : Int} (k : LvOk L p q N D) : (0 < (L.lval p q).d ∧ (L.lval p q).d ≤ 800) ∧ -160000000 ≤ (L.lval p q).n ∧ (L.lval p q).n ≤ 160000000 := by
  rw [k.e]
  exact fr_rng k.d k.n
end AE.Try

/- Walks of the laws of spans: SpanKnown. -/
namespace AE.Try
open Go AE Go.Proofs AE.Sp
set_option maxRecDepth 100000
set_option linter.unusedVariables false

open Classical in
set_option maxHeartbeats 16000000 in
theorem known_law {h : H} : AW Try.prog 11 h.next h [] (fun v _ => v = .bool true) := by
  refine fun11.call rfl (Nat.le_refl _) ?_
  unfold a11
  (focus ((try with_reducible apply wpC.to); (repeat' ((conv => whnf); first | refine byEv ?_ | ((apply Fork.mk) <;> (intro _; try (exfalso; omega; done))) | ((refine kSpanZu0 ?_); first | ((first | apply q_allD | apply q_alli | apply q_allB) <;> (intro _ _ _ _; try contradiction)) | ((apply q_allv); intro _ _ _)) | refine xSpanB1 ?_ | fail)); all_goals (conv => whnf); all_goals (try with_reducible apply At.mk)))
  apply q_call
  focus (exact byNext)
  focus (exact byLo)
  focus exact runs_l
  rintro _ h2 ⟨r, hr, rfl, hg⟩ q2 n2
  simp only [bump_next] at hr
  have l10 := ex_10 (L := exRuns r 2) rfl rfl
  have l11 := ex_11 (L := exRuns r 2) rfl rfl
  have l22 := ex1_22 (L := exRuns r 1) rfl rfl
  have e10 := ex_lerr (L := exRuns r 2) (p := 1) (q := 0) rfl rfl ⟨by decide, by decide⟩
  have e11 := ex_lerr (L := exRuns r 2) (p := 1) (q := 1) rfl rfl ⟨by decide, by decide⟩
  have md := ex2_derr (L := exRuns r 2) rfl rfl
  (focus ((try with_reducible apply wpC.to); (repeat' ((conv => whnf); first | refine byEv ?_ | ((apply Fork.mk) <;> (intro _; try (exfalso; omega; done))) | ((refine kSpanZu0 ?_); first | ((first | apply q_allD | apply q_alli | apply q_allB) <;> (intro _ _ _ _; try contradiction)) | ((apply q_allv); intro _ _ _)) | refine xSpanB1 ?_ | fail)); all_goals (conv => whnf); all_goals (try with_reducible apply At.mk)))
  apply q_callv
  focus (exact byNext)
  focus (exact byLo)
  focus exact least_w (L := exRuns r 2) (m := h2.next) (p := 1) (q := 0) byOm (exRuns_ok (by decide) byGet (by omega))
  intro h3 q3 n3
  rw [l10, e10]
  unfold Fr.cells
  (focus ((try with_reducible apply wpC.to); (repeat' ((conv => whnf); first | refine byEv ?_ | ((apply Fork.mk) <;> (intro _; try (exfalso; omega; done))) | ((refine kSpanZu0 ?_); first | ((first | apply q_allD | apply q_alli | apply q_allB) <;> (intro _ _ _ _; try contradiction)) | ((apply q_allv); intro _ _ _)) | refine xSpanB1 ?_ | fail)); all_goals (conv => whnf); all_goals (try with_reducible apply At.mk)))
  apply q_callv
  focus (exact byNext)
  focus (exact byLo)
  focus exact least_w (L := exRuns r 2) (m := h2.next) (p := 1) (q := 1) byOm (exRuns_ok (by decide) byGet (by omega))
  intro h4 q4 n4
  rw [l11, e11]
  unfold Fr.cells
  (focus ((try with_reducible apply wpC.to); (repeat' ((conv => whnf); first | refine byEv ?_ | ((apply Fork.mk) <;> (intro _; try (exfalso; omega; done))) | ((refine kSpanZu0 ?_); first | ((first | apply q_allD | apply q_alli | apply q_allB) <;> (intro _ _ _ _; try contradiction)) | ((apply q_allv); intro _ _ _)) | refine xSpanB1 ?_ | fail)); all_goals (conv => whnf); all_goals (try with_reducible apply At.mk)))
  apply q_callv
  focus (exact byNext)
  focus (exact byLo)
  focus exact least_w (L := exRuns r 1) (m := h2.next) (p := 2) (q := 2) byOm (exRuns_ok (by decide) byGet (by omega))
  intro h5 q5 n5
  rw [l22.1, l22.2]
  unfold Fr.cells
  (focus ((try with_reducible apply wpC.to); (repeat' ((conv => whnf); first | refine byEv ?_ | ((apply Fork.mk) <;> (intro _; try (exfalso; omega; done))) | ((refine kSpanZu0 ?_); first | ((first | apply q_allD | apply q_alli | apply q_allB) <;> (intro _ _ _ _; try contradiction)) | ((apply q_allv); intro _ _ _)) | refine xSpanB1 ?_ | fail)); all_goals (conv => whnf); all_goals (try with_reducible apply At.mk)))
  apply q_call
  focus (exact byNext)
  focus (exact byLo)
  focus exact choices_l
  rintro _ h6 ⟨rc, r0, r1, ⟨⟨c1, c2⟩, ⟨c3, c4⟩, c5, c6⟩, rfl, gc, gc0, gc1⟩ q6 n6
  simp only [put_next, bump_next] at c1 c3 c5
  have nx := ex_next1 (L := exRuns r 2) (C := exChs rc r0 r1 1) rfl rfl (exChs_ex (by decide)) rfl
  (focus ((try with_reducible apply wpC.to); (repeat' ((conv => whnf); first | refine byEv ?_ | ((apply Fork.mk) <;> (intro _; try (exfalso; omega; done))) | ((refine kSpanZu0 ?_); first | ((first | apply q_allD | apply q_alli | apply q_allB) <;> (intro _ _ _ _; try contradiction)) | ((apply q_allv); intro _ _ _)) | refine xSpanB1 ?_ | fail)); all_goals (conv => whnf); all_goals (try with_reducible apply At.mk)))
  apply q_callv
  focus (exact byNext)
  focus (exact byLo)
  focus exact next_w (L := exRuns r 2) (C := exChs rc r0 r1 1) (m := h6.next) (p := 0) (q := 1) byOm (exRuns_ok (Nat.le_refl _) byGet (by omega)) (exRuns_sl (by decide) (Nat.le_refl _) (by omega)) (exChs_ok (by decide) byGet byGet byGet (by omega) (by omega) (by omega))
  intro h7 q7 n7
  rw [nx.1, nx.2]
  have zero : Value.int .i64 (((0, (⟨1, 1⟩ : Fr)).1 : Nat) : Int) = .int .i64 0 := rfl
  rw [zero]
  unfold Fr.cells
  (focus ((try with_reducible apply wpC.to); (repeat' ((conv => whnf); first | refine byEv ?_ | ((apply Fork.mk) <;> (intro _; try (exfalso; omega; done))) | ((refine kSpanZu0 ?_); first | ((first | apply q_allD | apply q_alli | apply q_allB) <;> (intro _ _ _ _; try contradiction)) | ((apply q_allv); intro _ _ _)) | refine xSpanB1 ?_ | fail)); all_goals (conv => whnf); all_goals (try with_reducible apply At.mk)))
  apply q_call
  focus (exact byNext)
  focus (exact byLo)
  focus exact doubtP_w (L := exRuns r 2) (m := h2.next) byOm (exRuns_ok (Nat.le_refl _) byGet (by omega))
  rintro _ h8 ⟨D, dm, rfl, dok, ⟨dc, db⟩, -, -⟩ q8 n8
  rw [md]
  (focus ((try with_reducible apply wpC.to); (repeat' ((conv => whnf); first | refine byEv ?_ | ((apply Fork.mk) <;> (intro _; try (exfalso; omega; done))) | ((refine kSpanZu0 ?_); first | ((first | apply q_allD | apply q_alli | apply q_allB) <;> (intro _ _ _ _; try contradiction)) | ((apply q_allv); intro _ _ _)) | refine xSpanB1 ?_ | fail)); all_goals (conv => whnf); all_goals (try with_reducible apply At.mk)))
  have ec := ex_wrong (L := exRuns r 2) (P := exPs (h8.next + 2) 1) rfl rfl rfl rfl
  have ev := Runs.cval_err (L := exRuns r 2) (P := exPs (h8.next + 2) 1) (p := 0) (q := 1) (tm := 1) (by rw [ec]; decide)
  apply q_callv
  focus (exact byNext)
  focus (exact byLo)
  focus exact checkProof_w (L := exRuns r 2) (P := exPs (h8.next + 2) 1) (m := h8.next + 3) (p := 0) (q := 1) (tm := 1) byOm (exRuns_ok (Nat.le_refl _) byGet (by omega)) (exPs_ok1 byGet (by omega))
  intro h9 q9 n9
  rw [ec, ev]
  unfold Fr.cells
  (focus ((try with_reducible apply wpC.to); (repeat' ((conv => whnf); first | refine byEv ?_ | ((apply Fork.mk) <;> (intro _; try (exfalso; omega; done))) | ((refine kSpanZu0 ?_); first | ((first | apply q_allD | apply q_alli | apply q_allB) <;> (intro _ _ _ _; try contradiction)) | ((apply q_allv); intro _ _ _)) | refine xSpanB1 ?_ | fail)); all_goals (conv => whnf); all_goals (try with_reducible apply At.mk)))
  apply q_callv
  focus (exact byNext)
  focus (exact byLo)
  focus exact whole_l
  intro h10 q10 n10
  unfold Fr.cells
  (focus ((try with_reducible apply wpC.to); (repeat' ((conv => whnf); first | refine byEv ?_ | ((apply Fork.mk) <;> (intro _; try (exfalso; omega; done))) | ((refine kSpanZu0 ?_); first | ((first | apply q_allD | apply q_alli | apply q_allB) <;> (intro _ _ _ _; try contradiction)) | ((apply q_allv); intro _ _ _)) | refine xSpanB1 ?_ | fail)); all_goals (conv => whnf); all_goals (try with_reducible apply At.mk)))
  refine OpE.pure (.bool true) (xPure_eql (A := ⟨(⟨5, 1⟩ : Fr).cells⟩) (B := ⟨(⟨5, 1⟩ : Fr).cells⟩) rfl rfl rfl rfl rfl (by kernel_rfl) (same_fr _)) ?_
  (focus ((try with_reducible apply wpC.to); (repeat' ((conv => whnf); first | refine byEv ?_ | ((apply Fork.mk) <;> (intro _; try (exfalso; omega; done))) | ((refine kSpanZu0 ?_); first | ((first | apply q_allD | apply q_alli | apply q_allB) <;> (intro _ _ _ _; try contradiction)) | ((apply q_allv); intro _ _ _)) | refine xSpanB1 ?_ | fail)); all_goals (conv => whnf); all_goals (try with_reducible apply At.mk)))
  apply q_callv
  focus (exact byNext)
  focus (exact byLo)
  focus exact whole_l
  intro h11 q11 n11
  unfold Fr.cells
  (focus ((try with_reducible apply wpC.to); (repeat' ((conv => whnf); first | refine byEv ?_ | ((apply Fork.mk) <;> (intro _; try (exfalso; omega; done))) | ((refine kSpanZu0 ?_); first | ((first | apply q_allD | apply q_alli | apply q_allB) <;> (intro _ _ _ _; try contradiction)) | ((apply q_allv); intro _ _ _)) | refine xSpanB1 ?_ | fail)); all_goals (conv => whnf); all_goals (try with_reducible apply At.mk)))
  refine OpE.pure (.bool true) (xPure_eql (A := ⟨(⟨10, 1⟩ : Fr).cells⟩) (B := ⟨(⟨10, 1⟩ : Fr).cells⟩) rfl rfl rfl rfl rfl (by kernel_rfl) (same_fr _)) ?_
  (focus ((try with_reducible apply wpC.to); (repeat' ((conv => whnf); first | refine byEv ?_ | ((apply Fork.mk) <;> (intro _; try (exfalso; omega; done))) | ((refine kSpanZu0 ?_); first | ((first | apply q_allD | apply q_alli | apply q_allB) <;> (intro _ _ _ _; try contradiction)) | ((apply q_allv); intro _ _ _)) | refine xSpanB1 ?_ | fail)); all_goals (conv => whnf); all_goals (try with_reducible apply At.mk)))
  apply q_callv
  focus (exact byNext)
  focus (exact byLo)
  focus exact whole_l
  intro h12 q12 n12
  unfold Fr.cells
  (focus ((try with_reducible apply wpC.to); (repeat' ((conv => whnf); first | refine byEv ?_ | ((apply Fork.mk) <;> (intro _; try (exfalso; omega; done))) | ((refine kSpanZu0 ?_); first | ((first | apply q_allD | apply q_alli | apply q_allB) <;> (intro _ _ _ _; try contradiction)) | ((apply q_allv); intro _ _ _)) | refine xSpanB1 ?_ | fail)); all_goals (conv => whnf); all_goals (try with_reducible apply At.mk)))
  refine OpE.pure (.bool true) (xPure_eql (A := ⟨(⟨20, 1⟩ : Fr).cells⟩) (B := ⟨(⟨20, 1⟩ : Fr).cells⟩) rfl rfl rfl rfl rfl (by kernel_rfl) (same_fr _)) ?_
  (focus ((try with_reducible apply wpC.to); (repeat' ((conv => whnf); first | refine byEv ?_ | ((apply Fork.mk) <;> (intro _; try (exfalso; omega; done))) | ((refine kSpanZu0 ?_); first | ((first | apply q_allD | apply q_alli | apply q_allB) <;> (intro _ _ _ _; try contradiction)) | ((apply q_allv); intro _ _ _)) | refine xSpanB1 ?_ | fail)); all_goals (conv => whnf); all_goals (try with_reducible apply At.mk)))
  apply q_callv
  focus (exact byNext)
  focus (exact byLo)
  focus exact whole_l
  intro h13 q13 n13
  unfold Fr.cells
  (focus ((try with_reducible apply wpC.to); (repeat' ((conv => whnf); first | refine byEv ?_ | ((apply Fork.mk) <;> (intro _; try (exfalso; omega; done))) | ((refine kSpanZu0 ?_); first | ((first | apply q_allD | apply q_alli | apply q_allB) <;> (intro _ _ _ _; try contradiction)) | ((apply q_allv); intro _ _ _)) | refine xSpanB1 ?_ | fail)); all_goals (conv => whnf); all_goals (try with_reducible apply At.mk)))
  refine OpE.pure (.bool true) (xPure_eql (A := ⟨(⟨1, 1⟩ : Fr).cells⟩) (B := ⟨(⟨1, 1⟩ : Fr).cells⟩) rfl rfl rfl rfl rfl (by kernel_rfl) (same_fr _)) ?_
  (focus ((try with_reducible apply wpC.to); (repeat' ((conv => whnf); first | refine byEv ?_ | ((apply Fork.mk) <;> (intro _; try (exfalso; omega; done))) | ((refine kSpanZu0 ?_); first | ((first | apply q_allD | apply q_alli | apply q_allB) <;> (intro _ _ _ _; try contradiction)) | ((apply q_allv); intro _ _ _)) | refine xSpanB1 ?_ | fail)); all_goals (conv => whnf); all_goals (try with_reducible apply At.mk)))
  (refine byFin ?_)
  rfl
end AE.Try
