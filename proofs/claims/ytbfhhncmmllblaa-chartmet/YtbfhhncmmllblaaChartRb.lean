/- Walks of the definitions of charts: what is true, on a chart, a need; great. -/
import Derived.Test.YtbfhhncmmllblaaChartRa
import Derived.Test.YtbfhhncmmllblaaChartX
set_option linter.unusedVariables false
set_option linter.unusedSimpArgs false
set_option linter.unusedSectionVars false
namespace AE.Try
open Go AE Go.Proofs
set_option maxRecDepth 100000
set_option linter.unusedVariables false

theorem kChartRb0 {G : Prop} (g : G := by ((apply check_r; rotate_left; (focus (apply Tbl.Ok.same; (focus assumption); (focus exact bySame); (focus exact Nat.le_refl _))); (focus exact byOm)))) : G := g
theorem kChartRb1 {G : Prop} (g : G := by ((apply on_r; rotate_left; (focus (apply Arr.Ok.same; (focus assumption); (focus exact bySame); (focus exact Nat.le_refl _))); (focus omega); (focus exact byOm)))) : G := g

theorem On_r {h : H} {T : Tbl} {m : Nat} {p : Pt} (hm : m ≤ h.next) (hT : T.Ok m h) (g : T.Good) : AW Try.prog 52 h.next h [.agg ⟨T.cells⟩, .agg ⟨p.cells⟩] (fun v _ => v = .bool (decide (T.On p))) := by
  obtain ⟨kP, kA, kR⟩ := hT
  have gp2 := g.p2
  have ga2 := g.a2
  refine fun52.call rfl (Nat.le_refl _) ?_
  unfold a52 Tbl.cells Pt.cells
  (focus ((try with_reducible apply wpC.to); (repeat' ((conv => whnf); first | refine byEv ?_ | ((apply q_call); (focus exact byNext); (focus exact byLo); (focus (exact kChartRb1)); first | ((apply q_allB) <;> (intro z_b _ _ _; first | exact Bool.noConfusion z_b | replace z_b := of_decide_eq_true z_b | replace z_b := of_decide_eq_false z_b | skip) <;> (first | contradiction | (revert z_b; intros))) | ((apply q_alli) <;> (intro _ _ _ _; try contradiction)) | ((apply q_allv); intro _ _ _)) | ((apply Load1.mk); (focus ((repeat (first | (apply el_lo <;> first | assumption | omega) | (apply el_hi <;> first | assumption | omega) | apply bump_old | ((apply put_old); focus (dsimp only [aadd]; omega)) | ((apply quiet_old); (focus assumption); focus (dsimp only [aadd]; omega)) | ((apply same_old); (focus assumption); focus (dsimp only [aadd]; omega)))); done)); (focus exact byVal)) | fail)); all_goals (conv => whnf); all_goals (try with_reducible apply At.mk)))
  · (refine byFin ?_)
    exact bool_t rfl ⟨by assumption, by assumption⟩
  · (refine byFin ?_)
    exact bool_f rfl fun k => by have := k.2; contradiction
  · (refine byFin ?_)
    exact bool_f rfl fun k => by have := k.1; contradiction
def Pul.Falls (p : Pul) : Prop := ∀ i, i < p.M.n → Desc (p.f i) (p.M.w i)
instance (p : Pul) : Decidable p.Falls := inferInstanceAs (Decidable (∀ i, i < p.M.n → Desc (p.f i) (p.M.w i)))

set_option maxHeartbeats 1000000 in
theorem great_w {h : H} {T : Tbl} {p : Pul} {m : Nat} (hm : m ≤ h.next) (hT : T.Ok m h) (hp : p.Ok m h) : AW Try.prog 13 h.next h [.agg ⟨T.cells⟩, .slice p.M.b p.M.n p.M.c] (fun v _ => ∃ b, v = .bool b ∧ (b = false → T.R.n ≤ 12 ∧ T.P.n ≤ 12 ∧ T.A.n ≤ 14)) := by
  obtain ⟨kP, kA, kR⟩ := hT
  obtain ⟨e1, i1, r1, l1, re, ri, rr, rl⟩ := kR
  obtain ⟨f1, j1, s1, m1, se, sj, ss, sl, -⟩ := hp
  have lP := kP.l
  have lA := kA.l
  refine fun13.call rfl (Nat.le_refl _) ?_
  unfold a13 Tbl.cells
  (focus ((try with_reducible apply wpC.to); (repeat' ((conv => whnf); first | refine byEv ?_ | ((apply Fork.mk) <;> (intro _; try (exfalso; omega; done))) | ((apply Load1.mk); (focus ((repeat (first | (apply el_lo <;> first | assumption | omega) | (apply el_hi <;> first | assumption | omega) | apply bump_old | ((apply put_old); focus (dsimp only [aadd]; omega)) | ((apply quiet_old); (focus assumption); focus (dsimp only [aadd]; omega)) | ((apply same_old); (focus assumption); focus (dsimp only [aadd]; omega)))); done)); (focus exact byVal)) | fail)); all_goals (conv => whnf); all_goals (try with_reducible apply At.mk)))
  iterate 4 (focus ((refine byFin ?_); exact ⟨_, rfl, fun h => by cases h⟩))
  refine wp_loop (fun s : Nat => [(1, .slice p.M.b p.M.n p.M.c), (2, .pointer (some ⟨h.next, 0, none⟩)), (5, .int .i64 s)]) (fun s h1 => h1.get h.next = some (.cells (exBox T) 25) ∧ Same m h h1 ∧ h.next + 1 ≤ h1.next ∧ s ≤ T.R.n) (fun s => T.R.n - s) 0 ⟨rfl, rfl, rfl, trivial⟩ ⟨by (exact byGet), by (exact bySame), by (exact byOm), by omega⟩ ?_
  rintro s g h1 ⟨g1, sm, n1, hs⟩ K hK
  have i5 := i1.same sm r1
  unfold exBox at g1
  by_cases hsn : s < T.R.n
  · have rl7 := rl s hsn
    (focus ((try with_reducible apply wpC.to); (repeat' ((conv => whnf); first | refine byEv ?_ | ((apply Fork.mk) <;> (intro _; try (exfalso; omega; done))) | ((apply Load1.mk); (focus ((repeat (first | (apply el_lo <;> first | assumption | omega) | (apply el_hi <;> first | assumption | omega) | apply bump_old | ((apply put_old); focus (dsimp only [aadd]; omega)) | ((apply quiet_old); (focus assumption); focus (dsimp only [aadd]; omega)) | ((apply same_old); (focus assumption); focus (dsimp only [aadd]; omega)))); done)); (focus exact byVal)) | fail)); all_goals (conv => whnf); all_goals (try with_reducible apply At.mk)))
    · (refine byFin ?_)
      exact ⟨_, rfl, fun h => by cases h⟩
    · refine hK (s + 1) _ _ ⟨rfl, rfl, int_of rfl (by omega), trivial⟩ ⟨by (exact byGet), by (exact bySame), by (exact byOm), by omega⟩ (by omega)
  obtain rfl : s = T.R.n := by omega
  (focus ((try with_reducible apply wpC.to); (repeat' ((conv => whnf); first | refine byEv ?_ | ((apply Fork.mk) <;> (intro _; try (exfalso; omega; done))) | ((apply Load1.mk); (focus ((repeat (first | (apply el_lo <;> first | assumption | omega) | (apply el_hi <;> first | assumption | omega) | apply bump_old | ((apply put_old); focus (dsimp only [aadd]; omega)) | ((apply quiet_old); (focus assumption); focus (dsimp only [aadd]; omega)) | ((apply same_old); (focus assumption); focus (dsimp only [aadd]; omega)))); done)); (focus exact byVal)) | fail)); all_goals (conv => whnf); all_goals (try with_reducible apply At.mk)))
  refine wp_loop (fun s : Nat => [(1, .slice p.M.b p.M.n p.M.c), (6, .int .i64 s)]) (fun s h1 => Same m h h1 ∧ h.next + 1 ≤ h1.next ∧ s ≤ p.M.n) (fun s => p.M.n - s) 0 ⟨rfl, rfl, trivial⟩ ⟨by (exact bySame), by (exact byOm), by omega⟩ ?_
  rintro s g h2 ⟨sm2, n2, hs2⟩ K hK
  have j5 := j1.same sm2 s1
  by_cases hsn : s < p.M.n
  · have sl7 := sl s hsn
    (focus ((try with_reducible apply wpC.to); (repeat' ((conv => whnf); first | refine byEv ?_ | ((apply Fork.mk) <;> (intro _; try (exfalso; omega; done))) | ((apply Load1.mk); (focus ((repeat (first | (apply el_lo <;> first | assumption | omega) | (apply el_hi <;> first | assumption | omega) | apply bump_old | ((apply put_old); focus (dsimp only [aadd]; omega)) | ((apply quiet_old); (focus assumption); focus (dsimp only [aadd]; omega)) | ((apply same_old); (focus assumption); focus (dsimp only [aadd]; omega)))); done)); (focus exact byVal)) | fail)); all_goals (conv => whnf); all_goals (try with_reducible apply At.mk)))
    · (refine byFin ?_)
      exact ⟨_, rfl, fun h => by cases h⟩
    · refine hK (s + 1) _ _ ⟨rfl, int_of rfl (by omega), trivial⟩ ⟨by (exact bySame), by (exact byOm), by omega⟩ (by omega)
  obtain rfl : s = p.M.n := by omega
  (focus ((try with_reducible apply wpC.to); (repeat' ((conv => whnf); first | refine byEv ?_ | ((apply Fork.mk) <;> (intro _; try (exfalso; omega; done))) | ((apply Load1.mk); (focus ((repeat (first | (apply el_lo <;> first | assumption | omega) | (apply el_hi <;> first | assumption | omega) | apply bump_old | ((apply put_old); focus (dsimp only [aadd]; omega)) | ((apply quiet_old); (focus assumption); focus (dsimp only [aadd]; omega)) | ((apply same_old); (focus assumption); focus (dsimp only [aadd]; omega)))); done)); (focus exact byVal)) | fail)); all_goals (conv => whnf); all_goals (try with_reducible apply At.mk)))
  (refine byFin ?_)
  exact ⟨_, rfl, fun _ => ⟨by omega, by omega, by omega⟩⟩

set_option maxHeartbeats 2000000 in
theorem true_r {h : H} {T : Tbl} {p : Pul} {m : Nat} (hm : m ≤ h.next) (hT : T.Ok m h) (hp : p.Ok m h) : AW Try.prog 22 h.next h [.agg ⟨T.cells⟩, .slice p.M.b p.M.n p.M.c] (fun v _ => v = .int .i64 (T.terr p)) := by
  have hT0 := hT
  obtain ⟨kP, kA, kR⟩ := hT
  obtain ⟨e1, i1, r1, l1, re, ri, rr, rl⟩ := kR
  obtain ⟨f1, j1, s1, m1, se, sj, ss, sl, -⟩ := hp
  have lP := kP.l
  have lA := kA.l
  refine fun22.call rfl (Nat.le_refl _) ?_
  unfold a22 Tbl.cells
  (focus ((try with_reducible apply wpC.to); (repeat' ((conv => whnf); first | refine byEv ?_ | ((apply Fork.mk) <;> (intro _; try (exfalso; omega; done))) | ((apply q_call); (focus exact byNext); (focus exact byLo); (focus (exact kChartRb0)); first | ((apply q_allB) <;> (intro z_b _ _ _; first | exact Bool.noConfusion z_b | replace z_b := of_decide_eq_true z_b | replace z_b := of_decide_eq_false z_b | skip) <;> (first | contradiction | (revert z_b; intros))) | ((apply q_alli) <;> (intro _ _ _ _; try contradiction)) | ((apply q_allv); intro _ _ _)) | ((apply Load1.mk); (focus ((repeat (first | (apply el_lo <;> first | assumption | omega) | (apply el_hi <;> first | assumption | omega) | apply bump_old | ((apply put_old); focus (dsimp only [aadd]; omega)) | ((apply quiet_old); (focus assumption); focus (dsimp only [aadd]; omega)) | ((apply same_old); (focus assumption); focus (dsimp only [aadd]; omega)))); done)); (focus exact byVal)) | fail)); all_goals (conv => whnf); all_goals (try with_reducible apply At.mk)))
  · have he : T.err ≠ 0 := by assumption
    (refine byFin ?_)
    unfold Tbl.terr
    rw [if_pos he]
  · have he : T.err = 0 := by assumption
    (refine byFin ?_)
    unfold Tbl.terr
    rw [if_neg (fun k => k he), if_pos (by omega)]
  have he : T.err = 0 := by assumption
  have hn : p.M.n = T.R.n := by omega
  refine wp_loop (fun s : Nat => [(1, .slice p.M.b p.M.n p.M.c), (2, .pointer (some ⟨h.next, 0, none⟩)), (5, .int .i64 s)]) (fun s h1 => h1.get h.next = some (.cells (exBox T) 25) ∧ Same m h h1 ∧ h.next + 1 ≤ h1.next ∧ s ≤ p.M.n ∧ ∀ i, i < s → p.M.w i = T.R.w i) (fun s => p.M.n - s) 0 ⟨rfl, rfl, rfl, trivial⟩ ⟨by (exact byGet), by (exact bySame), by (exact byOm), by omega, fun i hi => by omega⟩ ?_
  rintro s g h1 ⟨g1, sm, n1, hs, hw⟩ K hK
  have i5 := i1.same sm r1
  have j5 := j1.same sm s1
  unfold exBox at g1
  by_cases hsn : s < p.M.n
  · have rl7 := rl s (by omega)
    have sl7 := sl s hsn
    (focus ((try with_reducible apply wpC.to); (repeat' ((conv => whnf); first | refine byEv ?_ | ((apply Fork.mk) <;> (intro _; try (exfalso; omega; done))) | ((apply q_call); (focus exact byNext); (focus exact byLo); (focus (exact kChartRb0)); first | ((apply q_allB) <;> (intro z_b _ _ _; first | exact Bool.noConfusion z_b | replace z_b := of_decide_eq_true z_b | replace z_b := of_decide_eq_false z_b | skip) <;> (first | contradiction | (revert z_b; intros))) | ((apply q_alli) <;> (intro _ _ _ _; try contradiction)) | ((apply q_allv); intro _ _ _)) | ((apply Load1.mk); (focus ((repeat (first | (apply el_lo <;> first | assumption | omega) | (apply el_hi <;> first | assumption | omega) | apply bump_old | ((apply put_old); focus (dsimp only [aadd]; omega)) | ((apply quiet_old); (focus assumption); focus (dsimp only [aadd]; omega)) | ((apply same_old); (focus assumption); focus (dsimp only [aadd]; omega)))); done)); (focus exact byVal)) | fail)); all_goals (conv => whnf); all_goals (try with_reducible apply At.mk)))
    · (refine byFin ?_)
      unfold Tbl.terr
      rw [if_neg (fun k => k he), if_neg (fun k => k hn), if_pos ⟨s, hsn, by omega⟩]
    · refine hK (s + 1) _ _ ⟨rfl, rfl, int_of rfl (by omega), trivial⟩ ⟨by (exact byGet), by (exact bySame), by (exact byOm), by omega, fun i hi => ?_⟩ (by omega)
      by_cases e : i = s
      · subst e; omega
      · exact hw i (by omega)
  obtain rfl : s = p.M.n := by omega
  have hw' : ¬ ∃ i, i < p.M.n ∧ p.M.w i ≠ T.R.w i := fun ⟨i, h1, h2⟩ => h2 (hw i h1)
  (focus ((try with_reducible apply wpC.to); (repeat' ((conv => whnf); first | refine byEv ?_ | ((apply Fork.mk) <;> (intro _; try (exfalso; omega; done))) | ((apply q_call); (focus exact byNext); (focus exact byLo); (focus (exact kChartRb0)); first | ((apply q_allB) <;> (intro z_b _ _ _; first | exact Bool.noConfusion z_b | replace z_b := of_decide_eq_true z_b | replace z_b := of_decide_eq_false z_b | skip) <;> (first | contradiction | (revert z_b; intros))) | ((apply q_alli) <;> (intro _ _ _ _; try contradiction)) | ((apply q_allv); intro _ _ _)) | ((apply Load1.mk); (focus ((repeat (first | (apply el_lo <;> first | assumption | omega) | (apply el_hi <;> first | assumption | omega) | apply bump_old | ((apply put_old); focus (dsimp only [aadd]; omega)) | ((apply quiet_old); (focus assumption); focus (dsimp only [aadd]; omega)) | ((apply same_old); (focus assumption); focus (dsimp only [aadd]; omega)))); done)); (focus exact byVal)) | fail)); all_goals (conv => whnf); all_goals (try with_reducible apply At.mk)))
  refine wp_loop (fun s : Nat => [(1, .slice p.M.b p.M.n p.M.c), (2, .pointer (some ⟨h.next, 0, none⟩)), (6, .int .i64 s)]) (fun s h1 => h1.get h.next = some (.cells (exBox T) 25) ∧ Same m h h1 ∧ h.next + 1 ≤ h1.next ∧ s ≤ p.M.n ∧ ∀ i, i < s → ∀ k, k < p.M.w i → ¬ T.Off p i k) (fun s => p.M.n - s) 0 ⟨rfl, rfl, rfl, trivial⟩ ⟨by (exact byGet), by (exact bySame), by (exact byOm), by omega, fun i hi => by omega⟩ ?_
  rintro s g h2 ⟨g2, sm2, n2, hs2, ho⟩ K hK
  have i6 := i1.same sm2 r1
  have j6 := j1.same sm2 s1
  unfold exBox at g2
  by_cases hsn : s < p.M.n
  · have sl7 := sl s hsn
    have hws := hw s hsn
    (focus ((try with_reducible apply wpC.to); (repeat' ((conv => whnf); first | refine byEv ?_ | ((apply Fork.mk) <;> (intro _; try (exfalso; omega; done))) | ((apply q_call); (focus exact byNext); (focus exact byLo); (focus (exact kChartRb0)); first | ((apply q_allB) <;> (intro z_b _ _ _; first | exact Bool.noConfusion z_b | replace z_b := of_decide_eq_true z_b | replace z_b := of_decide_eq_false z_b | skip) <;> (first | contradiction | (revert z_b; intros))) | ((apply q_alli) <;> (intro _ _ _ _; try contradiction)) | ((apply q_allv); intro _ _ _)) | ((apply Load1.mk); (focus ((repeat (first | (apply el_lo <;> first | assumption | omega) | (apply el_hi <;> first | assumption | omega) | apply bump_old | ((apply put_old); focus (dsimp only [aadd]; omega)) | ((apply quiet_old); (focus assumption); focus (dsimp only [aadd]; omega)) | ((apply same_old); (focus assumption); focus (dsimp only [aadd]; omega)))); done)); (focus exact byVal)) | fail)); all_goals (conv => whnf); all_goals (try with_reducible apply At.mk)))
    refine wp_loop (fun t : Nat => [(1, .slice p.M.b p.M.n p.M.c), (2, .pointer (some ⟨h.next, 0, none⟩)), (6, .int .i64 s), (7, .int .i64 t)]) (fun t h1 => h1.get h.next = some (.cells (exBox T) 25) ∧ Same m h h1 ∧ h.next + 1 ≤ h1.next ∧ t ≤ p.M.w s ∧ ∀ k, k < t → ¬ T.Off p s k) (fun t => p.M.w s - t) 0 ⟨rfl, rfl, rfl, rfl, trivial⟩ ⟨by (exact byGet), by (exact bySame), by (exact byOm), by omega, fun i hi => by omega⟩ ?_
    rintro t g' h3 ⟨g3, sm3, n3, ht, hp3⟩ K' hK'
    have i7 := i1.same sm3 r1
    have j7 := j1.same sm3 s1
    unfold exBox at g3
    have re7 := re s (by omega)
    have ri7 := (ri s (by omega)).same sm3 (rr s (by omega))
    have rl7 := rl s (by omega)
    have se7 := se s hsn
    have sj7 := (sj s hsn).same sm3 (ss s hsn)
    by_cases htw : t < p.M.w s
    · have rr7 := rr s (by omega) (by omega)
      have ss7 := ss s hsn (by omega)
      have bad : T.Off p s t → T.terr p = 3 := fun ho => by
        unfold Tbl.terr
        rw [if_neg (fun k => k he), if_neg (fun k => k hn), if_neg hw', if_pos ⟨s, hsn, t, htw, ho⟩]
      (focus ((try with_reducible apply wpC.to); (repeat' ((conv => whnf); first | refine byEv ?_ | ((apply Fork.mk) <;> (intro _; try (exfalso; omega; done))) | ((apply q_call); (focus exact byNext); (focus exact byLo); (focus (exact kChartRb0)); first | ((apply q_allB) <;> (intro z_b _ _ _; first | exact Bool.noConfusion z_b | replace z_b := of_decide_eq_true z_b | replace z_b := of_decide_eq_false z_b | skip) <;> (first | contradiction | (revert z_b; intros))) | ((apply q_alli) <;> (intro _ _ _ _; try contradiction)) | ((apply q_allv); intro _ _ _)) | ((apply Load1.mk); (focus ((repeat (first | (apply el_lo <;> first | assumption | omega) | (apply el_hi <;> first | assumption | omega) | apply bump_old | ((apply put_old); focus (dsimp only [aadd]; omega)) | ((apply quiet_old); (focus assumption); focus (dsimp only [aadd]; omega)) | ((apply same_old); (focus assumption); focus (dsimp only [aadd]; omega)))); done)); (focus exact byVal)) | fail)); all_goals (conv => whnf); all_goals (try with_reducible apply At.mk)))
      all_goals first
        | ((refine byFin ?_); exact congrArg (Value.int .i64) (bad (by unfold Tbl.Off; omega)).symm)
        | skip
      refine hK' (t + 1) _ _ ⟨rfl, rfl, rfl, int_of rfl (by omega), trivial⟩ ⟨by (exact byGet), by (exact bySame), by (exact byOm), by omega, fun i hi => ?_⟩ (by omega)
      by_cases e : i = t
      · subst e; unfold Tbl.Off; omega
      · exact hp3 i (by omega)
    · obtain rfl : t = p.M.w s := by omega
      (focus ((try with_reducible apply wpC.to); (repeat' ((conv => whnf); first | refine byEv ?_ | ((apply Fork.mk) <;> (intro _; try (exfalso; omega; done))) | ((apply q_call); (focus exact byNext); (focus exact byLo); (focus (exact kChartRb0)); first | ((apply q_allB) <;> (intro z_b _ _ _; first | exact Bool.noConfusion z_b | replace z_b := of_decide_eq_true z_b | replace z_b := of_decide_eq_false z_b | skip) <;> (first | contradiction | (revert z_b; intros))) | ((apply q_alli) <;> (intro _ _ _ _; try contradiction)) | ((apply q_allv); intro _ _ _)) | ((apply Load1.mk); (focus ((repeat (first | (apply el_lo <;> first | assumption | omega) | (apply el_hi <;> first | assumption | omega) | apply bump_old | ((apply put_old); focus (dsimp only [aadd]; omega)) | ((apply quiet_old); (focus assumption); focus (dsimp only [aadd]; omega)) | ((apply same_old); (focus assumption); focus (dsimp only [aadd]; omega)))); done)); (focus exact byVal)) | fail)); all_goals (conv => whnf); all_goals (try with_reducible apply At.mk)))
      refine hK (s + 1) _ _ ⟨rfl, rfl, int_of rfl (by omega), trivial⟩ ⟨by (exact byGet), by (exact bySame), by (exact byOm), by omega, fun i hi => ?_⟩ (by omega)
      by_cases e : i = s
      · subst e; exact hp3
      · exact ho i (by omega)
  obtain rfl : s = p.M.n := by omega
  (focus ((try with_reducible apply wpC.to); (repeat' ((conv => whnf); first | refine byEv ?_ | ((apply Fork.mk) <;> (intro _; try (exfalso; omega; done))) | ((apply q_call); (focus exact byNext); (focus exact byLo); (focus (exact kChartRb0)); first | ((apply q_allB) <;> (intro z_b _ _ _; first | exact Bool.noConfusion z_b | replace z_b := of_decide_eq_true z_b | replace z_b := of_decide_eq_false z_b | skip) <;> (first | contradiction | (revert z_b; intros))) | ((apply q_alli) <;> (intro _ _ _ _; try contradiction)) | ((apply q_allv); intro _ _ _)) | ((apply Load1.mk); (focus ((repeat (first | (apply el_lo <;> first | assumption | omega) | (apply el_hi <;> first | assumption | omega) | apply bump_old | ((apply put_old); focus (dsimp only [aadd]; omega)) | ((apply quiet_old); (focus assumption); focus (dsimp only [aadd]; omega)) | ((apply same_old); (focus assumption); focus (dsimp only [aadd]; omega)))); done)); (focus exact byVal)) | fail)); all_goals (conv => whnf); all_goals (try with_reducible apply At.mk)))
  (refine byFin ?_)
  unfold Tbl.terr
  rw [if_neg (fun k => k he), if_neg (fun k => k hn), if_neg hw', if_neg (fun ⟨i, hi, k, hk, hx⟩ => ho i hi k hk hx)]
end AE.Try
