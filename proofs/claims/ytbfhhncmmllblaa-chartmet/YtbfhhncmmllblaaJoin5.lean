/- Walks and plain laws: ChartZd, ChartZp. -/
import Derived.Test.YtbfhhncmmllblaaJoin7
import Derived.Test.YtbfhhncmmllblaaChartZo
import Derived.Test.YtbfhhncmmllblaaChartZe
set_option linter.unusedVariables false
set_option linter.unusedSimpArgs false
set_option linter.unusedSectionVars false

/- Walks of the laws of charts: the pull is within the span. -/
namespace AE.Try
open Go AE Go.Proofs
set_option maxRecDepth 100000
set_option linter.unusedVariables false

end AE.Try

/- Walks of the laws of charts: products and sums of fractions; pulls that fall. -/
namespace AE.Try
open Go AE Go.Proofs
set_option maxRecDepth 100000
set_option linter.unusedVariables false

theorem mul_fr {a b : Fr} {n d n' d' : Int} (k : FrOf a n d) (k' : FrOf b n' d') : fr (a.n * b.n) (a.d * b.d) = fr (n * n') (d * d') := by
  obtain ⟨h, g, hg, rfl, rfl⟩ := k
  obtain ⟨h', g', hg', rfl, rfl⟩ := k'
  have e1 : a.n * g * (b.n * g') = a.n * b.n * (g * g') := by ac_rfl
  have e2 : a.d * g * (b.d * g') = a.d * b.d * (g * g') := by ac_rfl
  rw [e1, e2, fr_scale (Int.mul_pos h h') (Int.mul_pos hg hg')]
theorem add_fr {a b : Fr} {n d n' d' : Int} (k : FrOf a n d) (k' : FrOf b n' d') : fr (a.n * b.d + b.n * a.d) (a.d * b.d) = fr (n * d' + n' * d) (d * d') := by
  obtain ⟨h, g, hg, rfl, rfl⟩ := k
  obtain ⟨h', g', hg', rfl, rfl⟩ := k'
  have e1 : a.n * g * (b.d * g') + b.n * g' * (a.d * g) = (a.n * b.d + b.n * a.d) * (g * g') := by
    rw [Int.add_mul]
    have x1 : a.n * g * (b.d * g') = a.n * b.d * (g * g') := by ac_rfl
    have x2 : b.n * g' * (a.d * g) = b.n * a.d * (g * g') := by ac_rfl
    omega
  have e2 : a.d * g * (b.d * g') = a.d * b.d * (g * g') := by ac_rfl
  rw [e1, e2, fr_scale (Int.mul_pos h h') (Int.mul_pos hg hg')]
theorem FrOf.bnd {z : Fr} {n d X : Int} (k : FrOf z n d) (h1 : -X ≤ n) (h2 : n ≤ X) : -X ≤ z.n ∧ z.n ≤ X := by
  obtain ⟨_, g, hg, rfl, rfl⟩ := k
  rcases Int.le_total 0 z.n with h | h
  · have := Int.mul_le_mul_of_nonneg_left (show 1 ≤ g by omega) h
    omega
  · have := Int.mul_le_mul_of_nonneg_left (show 1 ≤ g by omega) (show 0 ≤ -z.n by omega)
    rw [Int.neg_mul, Int.neg_mul] at this
    omega
theorem mul_bnd {a b A B : Int} (h1 : -A ≤ a) (h2 : a ≤ A) (h3 : -B ≤ b) (h4 : b ≤ B) : -(A * B) ≤ a * b ∧ a * b ≤ A * B := by
  have hA : 0 ≤ A := by omega
  have hB : 0 ≤ B := by omega
  have m := Int.mul_le_mul (show (a.natAbs : Int) ≤ A by omega) (show (b.natAbs : Int) ≤ B by omega) (by omega) hA
  rw [← Int.natCast_mul, ← Int.natAbs_mul] at m
  omega

theorem times_w {h : H} {a b : Fr} {X Y : Int} (ha : 0 < a.d) (hb : 0 < b.d) (a1 : -X ≤ a.n) (a2 : a.n ≤ X) (b1 : -Y ≤ b.n) (b2 : b.n ≤ Y) (hXY : X * Y < 4611686018427387904) (hX : X < 4611686018427387904) (hY : Y < 4611686018427387904) (hd : b.d * a.d < 4611686018427387904) (hda : a.d < 4611686018427387904) (hdb : b.d < 4611686018427387904) : AW Try.prog 80 h.next h [.agg ⟨a.cells⟩, .agg ⟨b.cells⟩] (fun v _ => v = .agg ⟨(fr (a.n * b.n) (b.d * a.d)).cells⟩) := by
  have f1 := fr_of (n := a.n) hb
  have f2 := fr_of (n := b.n) ha
  have e := mul_fr f1 f2
  have l1 := f1.le_d
  have l2 := f2.le_d
  have p1 := f1.d0
  have p2 := f2.d0
  have m := Int.mul_le_mul l1 l2 (by omega) (by omega)
  have m0 := Int.mul_pos p1 p2
  have n1 := f1.bnd a1 a2
  have n2 := f2.bnd b1 b2
  have mm := mul_bnd n1.1 n1.2 n2.1 n2.2
  refine fun80.call rfl (Nat.le_refl _) ?_
  unfold a80 Fr.cells
  (focus ((try with_reducible apply wpC.to); (repeat' ((conv => whnf); first | refine byEv ?_ | ((apply q_call); (focus exact byNext); (focus exact byLo); (focus (first | exact kChartZe0 | exact kChartRd0)); first | ((apply q_allB) <;> (intro z_b _ _ _; first | exact Bool.noConfusion z_b | replace z_b := of_decide_eq_true z_b | replace z_b := of_decide_eq_false z_b | skip) <;> (first | contradiction | (revert z_b; intros))) | ((apply q_alli) <;> (intro _ _ _ _; try contradiction)) | ((apply q_allv); intro _ _ _)) | ((apply Load1.mk); (focus ((repeat (first | (apply el_lo <;> first | assumption | omega) | (apply el_hi <;> first | assumption | omega) | apply bump_old | ((apply put_old); focus (dsimp only [aadd]; omega)) | ((apply quiet_old); (focus assumption); focus (dsimp only [aadd]; omega)) | ((apply same_old); (focus assumption); focus (dsimp only [aadd]; omega)))); done)); (focus exact byVal)) | fail)); all_goals (conv => whnf); all_goals (try with_reducible apply At.mk)))
  (refine byFin ?_)
  rw [e]
theorem sum_w {h : H} {a b : Fr} {X Y : Int} (ha : 0 < a.d) (hb : 0 < b.d) (m1 : -X ≤ a.n * b.d ∧ a.n * b.d ≤ X) (m2 : -Y ≤ b.n * a.d ∧ b.n * a.d ≤ Y) (hX : X < 2305843009213693952) (hY : Y < 2305843009213693952) (hd : a.d * b.d < 4611686018427387904) : AW Try.prog 79 h.next h [.agg ⟨a.cells⟩, .agg ⟨b.cells⟩] (fun v _ => v = .agg ⟨(fr (a.n * b.d + b.n * a.d) (a.d * b.d)).cells⟩) := by
  have m0 := Int.mul_pos ha hb
  refine fun79.call rfl (Nat.le_refl _) ?_
  unfold a79 Fr.cells
  (focus ((try with_reducible apply wpC.to); (repeat' ((conv => whnf); first | refine byEv ?_ | ((apply q_call); (focus exact byNext); (focus exact byLo); (focus (first | exact kChartZe0 | exact kChartRd0)); first | ((apply q_allB) <;> (intro z_b _ _ _; first | exact Bool.noConfusion z_b | replace z_b := of_decide_eq_true z_b | replace z_b := of_decide_eq_false z_b | skip) <;> (first | contradiction | (revert z_b; intros))) | ((apply q_alli) <;> (intro _ _ _ _; try contradiction)) | ((apply q_allv); intro _ _ _)) | ((apply Load1.mk); (focus ((repeat (first | (apply el_lo <;> first | assumption | omega) | (apply el_hi <;> first | assumption | omega) | apply bump_old | ((apply put_old); focus (dsimp only [aadd]; omega)) | ((apply quiet_old); (focus assumption); focus (dsimp only [aadd]; omega)) | ((apply same_old); (focus assumption); focus (dsimp only [aadd]; omega)))); done)); (focus exact byVal)) | fail)); all_goals (conv => whnf); all_goals (try with_reducible apply At.mk)))
  (refine byFin ?_)
  rfl
end AE.Try
