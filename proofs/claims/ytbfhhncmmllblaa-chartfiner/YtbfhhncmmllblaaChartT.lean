/- Walks of chart: More, End. -/
import Derived.Test.YtbfhhncmmllblaaChartS
set_option linter.unusedVariables false
set_option linter.unusedSimpArgs false
set_option linter.unusedSectionVars false
namespace AE.Try
open Go AE Go.Proofs
set_option maxRecDepth 100000
set_option linter.unusedVariables false

theorem kChartT0 {G : Prop} (g : G := by ((apply sheet2_w; rotate_left; (focus (apply Tbl.Ok.same; (focus assumption); (focus exact bySame); (focus exact Nat.le_refl _))); (focus exact byGet); (focus exact byOm); (focus exact byOm)))) : G := g
theorem kChartT1 {G : Prop} (g : G := by ((apply far_w; rotate_left; (focus (apply Tbl.Ok.same; (focus assumption); (focus exact bySame); (focus exact Nat.le_refl _))); (focus assumption); (focus assumption); (focus assumption); (focus exact byOm)))) : G := g

open Classical in
noncomputable def Tbl.mspan (T : Tbl) (p q : Pt) : Fr × Fr := if T.nerr (T.On p ∧ T.On q) = 0 then (T.far p q Bool.false, T.far p q Bool.true) else (⟨0, 0⟩, ⟨0, 0⟩)

set_option maxHeartbeats 1000000 in
theorem More_w {h : H} {T : Tbl} {p q : Pt} {m : Nat} (hm : m ≤ h.next) (hT : T.Ok m h) : AW Try.prog 39 h.next h [.agg ⟨T.cells⟩, .agg ⟨p.cells⟩, .agg ⟨q.cells⟩] (fun v _ => v = .tuple #[.agg ⟨(T.mspan p q).1.cells ++ (T.mspan p q).2.cells⟩, .int .i64 (T.nerr (T.On p ∧ T.On q))]) := by
  refine fun39.call rfl (Nat.le_refl _) ?_
  unfold a39 Tbl.cells Pt.cells
  (focus ((try with_reducible apply wpC.to); (repeat' ((conv => whnf); first | refine byEv ?_ | ((apply Fork.mk) <;> (intro _; try (exfalso; omega; done))) | ((apply q_call); (focus exact byNext); (focus exact byLo); (focus (first | exact kChartT1 | exact kChartT0 | exact kChartK2 | exact kChartK1)); first | ((apply q_allB) <;> (intro z_b _ _ _; first | exact Bool.noConfusion z_b | replace z_b := of_decide_eq_true z_b | replace z_b := of_decide_eq_false z_b | skip) <;> (first | contradiction | (revert z_b; intros))) | ((apply q_alli) <;> (intro _ _ _ _; try contradiction)) | ((apply q_allv); intro _ _ _)) | fail)); all_goals (conv => whnf); all_goals (try with_reducible apply At.mk)))
  · have e1 : T.mspan p q = (⟨0, 0⟩, ⟨0, 0⟩) := by unfold Tbl.mspan; rw [if_neg (by assumption)]
    (refine byFin ?_)
    rw [e1]
    rfl
  have he : T.nerr (T.On p ∧ T.On q) = 0 := by assumption
  obtain ⟨g, o, o'⟩ := Tbl.nerr_ok he
  have e1 : T.mspan p q = (T.far p q Bool.false, T.far p q Bool.true) := by unfold Tbl.mspan; rw [if_pos he]
  (focus ((try with_reducible apply wpC.to); (repeat' ((conv => whnf); first | refine byEv ?_ | ((apply Fork.mk) <;> (intro _; try (exfalso; omega; done))) | ((apply q_call); (focus exact byNext); (focus exact byLo); (focus (first | exact kChartT1 | exact kChartT0 | exact kChartK2 | exact kChartK1)); first | ((apply q_allB) <;> (intro z_b _ _ _; first | exact Bool.noConfusion z_b | replace z_b := of_decide_eq_true z_b | replace z_b := of_decide_eq_false z_b | skip) <;> (first | contradiction | (revert z_b; intros))) | ((apply q_alli) <;> (intro _ _ _ _; try contradiction)) | ((apply q_allv); intro _ _ _)) | fail)); all_goals (conv => whnf); all_goals (try with_reducible apply At.mk)))
  (refine byFin ?_)
  rw [e1, he]
  rfl

/-! ### End -/

def Tbl.ev (T : Tbl) (p q : Pt) (high : Bool) (i k : Nat) : Int := if T.more p q i k = 0 then T.lo i k else T.endv high (T.more p q i k) i k
def noPul : Pul := ⟨⟨0, fun _ => 0, none, ⟨0, 0, none⟩, 0, fun _ => none, fun _ => ⟨0, 0, none⟩, fun _ => 0⟩, fun _ _ => 0⟩
theorem noPul_ok (m : Nat) (h : H) : noPul.Ok m h :=
  ⟨fun h => absurd h (Nat.lt_irrefl 0), fun i hi => absurd hi (Nat.not_lt_zero i), fun h => absurd h (Nat.lt_irrefl 0), by decide, fun i hi => absurd hi (Nat.not_lt_zero i), fun i hi => absurd hi (Nat.not_lt_zero i), fun i hi => absurd hi (Nat.not_lt_zero i), fun i hi => absurd hi (Nat.not_lt_zero i), fun i hi => absurd hi (Nat.not_lt_zero i)⟩

end AE.Try
