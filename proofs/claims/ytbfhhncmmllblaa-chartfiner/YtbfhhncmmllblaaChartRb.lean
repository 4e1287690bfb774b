/- Walks of the definitions of charts: what is true, on a chart, a need; great. -/
import Derived.Test.YtbfhhncmmllblaaChartRa
import Derived.Test.YtbfhhncmmllblaaChartX
set_option linter.unusedVariables false
set_option linter.unusedSimpArgs false
set_option linter.unusedSectionVars false
namespace AE.Try
open Go AE Go.Proofs
set_option maxRecDepth 100000
set_option linter.unusedVariables false

theorem kChartRb0 {G : Prop} (g : G := by ((apply check_r; rotate_left; (focus (apply Tbl.Ok.same; (focus assumption); (focus exact bySame); (focus exact Nat.le_refl _))); (focus exact byOm)))) : G := g
def Pul.Falls (p : Pul) : Prop := ∀ i, i < p.M.n → Desc (p.f i) (p.M.w i)
instance (p : Pul) : Decidable p.Falls := inferInstanceAs (Decidable (∀ i, i < p.M.n → Desc (p.f i) (p.M.w i)))

set_option maxHeartbeats 1000000 in
theorem great_w {h : H} {T : Tbl} {p : Pul} {m : Nat} (hm : m ≤ h.next) (hT : T.Ok m h) (hp : p.Ok m h) : AW Try.prog 13 h.next h [.agg ⟨T.cells⟩, .slice p.M.b p.M.n p.M.c] (fun v _ => ∃ b, v = .bool b ∧ (b = false → T.R.n ≤ 12 ∧ T.P.n ≤ 12 ∧ T.A.n ≤ 14)) := by
  obtain ⟨kP, kA, kR⟩ := hT
  obtain ⟨e1, i1, r1, l1, re, ri, rr, rl⟩ := kR
  obtain ⟨f1, j1, s1, m1, se, sj, ss, sl, -⟩ := hp
  have lP := kP.l
  have lA := kA.l
  refine fun13.call rfl (Nat.le_refl _) ?_
  unfold a13 Tbl.cells
  (focus ((try with_reducible apply wpC.to); (repeat' ((conv => whnf); first | refine byEv ?_ | ((apply Fork.mk) <;> (intro _; try (exfalso; omega; done))) | ((apply Load1.mk); (focus ((repeat (first | (apply el_lo <;> first | assumption | omega) | (apply el_hi <;> first | assumption | omega) | apply bump_old | ((apply put_old); focus (dsimp only [aadd]; omega)) | ((apply quiet_old); (focus assumption); focus (dsimp only [aadd]; omega)) | ((apply same_old); (focus assumption); focus (dsimp only [aadd]; omega)))); done)); (focus exact byVal)) | fail)); all_goals (conv => whnf); all_goals (try with_reducible apply At.mk)))
  iterate 4 (focus ((refine byFin ?_); exact ⟨_, rfl, fun h => by cases h⟩))
  refine wp_loop (fun s : Nat => [(1, .slice p.M.b p.M.n p.M.c), (2, .pointer (some ⟨h.next, 0, none⟩)), (5, .int .i64 s)]) (fun s h1 => h1.get h.next = some (.cells (exBox T) 25) ∧ Same m h h1 ∧ h.next + 1 ≤ h1.next ∧ s ≤ T.R.n) (fun s => T.R.n - s) 0 ⟨rfl, rfl, rfl, trivial⟩ ⟨by (exact byGet), by (exact bySame), by (exact byOm), by omega⟩ ?_
  rintro s g h1 ⟨g1, sm, n1, hs⟩ K hK
  have i5 := i1.same sm r1
  unfold exBox at g1
  by_cases hsn : s < T.R.n
  · have rl7 := rl s hsn
    (focus ((try with_reducible apply wpC.to); (repeat' ((conv => whnf); first | refine byEv ?_ | ((apply Fork.mk) <;> (intro _; try (exfalso; omega; done))) | ((apply Load1.mk); (focus ((repeat (first | (apply el_lo <;> first | assumption | omega) | (apply el_hi <;> first | assumption | omega) | apply bump_old | ((apply put_old); focus (dsimp only [aadd]; omega)) | ((apply quiet_old); (focus assumption); focus (dsimp only [aadd]; omega)) | ((apply same_old); (focus assumption); focus (dsimp only [aadd]; omega)))); done)); (focus exact byVal)) | fail)); all_goals (conv => whnf); all_goals (try with_reducible apply At.mk)))
    · (refine byFin ?_)
      exact ⟨_, rfl, fun h => by cases h⟩
    · refine hK (s + 1) _ _ ⟨rfl, rfl, int_of rfl (by omega), trivial⟩ ⟨by (exact byGet), by (exact bySame), by (exact byOm), by omega⟩ (by omega)
  obtain rfl : s = T.R.n := by omega
  (focus ((try with_reducible apply wpC.to); (repeat' ((conv => whnf); first | refine byEv ?_ | ((apply Fork.mk) <;> (intro _; try (exfalso; omega; done))) | ((apply Load1.mk); (focus ((repeat (first | (apply el_lo <;> first | assumption | omega) | (apply el_hi <;> first | assumption | omega) | apply bump_old | ((apply put_old); focus (dsimp only [aadd]; omega)) | ((apply quiet_old); (focus assumption); focus (dsimp only [aadd]; omega)) | ((apply same_old); (focus assumption); focus (dsimp only [aadd]; omega)))); done)); (focus exact byVal)) | fail)); all_goals (conv => whnf); all_goals (try with_reducible apply At.mk)))
  refine wp_loop (fun s : Nat => [(1, .slice p.M.b p.M.n p.M.c), (6, .int .i64 s)]) (fun s h1 => Same m h h1 ∧ h.next + 1 ≤ h1.next ∧ s ≤ p.M.n) (fun s => p.M.n - s) 0 ⟨rfl, rfl, trivial⟩ ⟨by (exact bySame), by (exact byOm), by omega⟩ ?_
  rintro s g h2 ⟨sm2, n2, hs2⟩ K hK
  have j5 := j1.same sm2 s1
  by_cases hsn : s < p.M.n
  · have sl7 := sl s hsn
    (focus ((try with_reducible apply wpC.to); (repeat' ((conv => whnf); first | refine byEv ?_ | ((apply Fork.mk) <;> (intro _; try (exfalso; omega; done))) | ((apply Load1.mk); (focus ((repeat (first | (apply el_lo <;> first | assumption | omega) | (apply el_hi <;> first | assumption | omega) | apply bump_old | ((apply put_old); focus (dsimp only [aadd]; omega)) | ((apply quiet_old); (focus assumption); focus (dsimp only [aadd]; omega)) | ((apply same_old); (focus assumption); focus (dsimp only [aadd]; omega)))); done)); (focus exact byVal)) | fail)); all_goals (conv => whnf); all_goals (try with_reducible apply At.mk)))
    · (refine byFin ?_)
      exact ⟨_, rfl, fun h => by cases h⟩
    · refine hK (s + 1) _ _ ⟨rfl, int_of rfl (by omega), trivial⟩ ⟨by (exact bySame), by (exact byOm), by omega⟩ (by omega)
  obtain rfl : s = p.M.n := by omega
  (focus ((try with_reducible apply wpC.to); (repeat' ((conv => whnf); first | refine byEv ?_ | ((apply Fork.mk) <;> (intro _; try (exfalso; omega; done))) | ((apply Load1.mk); (focus ((repeat (first | (apply el_lo <;> first | assumption | omega) | (apply el_hi <;> first | assumption | omega) | apply bump_old | ((apply put_old); focus (dsimp only [aadd]; omega)) | ((apply quiet_old); (focus assumption); focus (dsimp only [aadd]; omega)) | ((apply same_old); (focus assumption); focus (dsimp only [aadd]; omega)))); done)); (focus exact byVal)) | fail)); all_goals (conv => whnf); all_goals (try with_reducible apply At.mk)))
  (refine byFin ?_)
  exact ⟨_, rfl, fun _ => ⟨by omega, by omega, by omega⟩⟩

end AE.Try
