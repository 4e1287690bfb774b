/- Walks of the definitions of charts: values. -/
import Derived.Test.YtbfhhncmmllblaaChartRc
set_option linter.unusedVariables false
set_option linter.unusedSimpArgs false
set_option linter.unusedSectionVars false
namespace AE.Try
open Go AE Go.Proofs
set_option maxRecDepth 100000
set_option linter.unusedVariables false

theorem kChartRd0 {G : Prop} (g : G := by ((apply fraction_r; (focus omega); (focus omega)))) : G := g
theorem kChartRd1 {G : Prop} (g : G := by ((apply true_r; rotate_left; (focus (apply Tbl.Ok.same; (focus assumption); (focus exact bySame); (focus exact Nat.le_refl _))); (focus (apply Pul.Ok.same; (focus assumption); (focus exact bySame); (focus exact Nat.le_refl _))); (focus exact byOm)))) : G := g
theorem kChartRd2 {G : Prop} (g : G := by ((apply On_r; rotate_left; (focus (apply Tbl.Ok.same; (focus assumption); (focus exact bySame); (focus exact Nat.le_refl _))); (focus assumption); (focus exact byOm)))) : G := g

theorem ps_rng {c : Nat → Int} {B : Int} : ∀ {n : Nat}, (∀ k, k < n → 0 ≤ c k ∧ c k ≤ B) → 0 ≤ ps c n ∧ ps c n ≤ B * n
  | 0, _ => by simp [ps]
  | n + 1, h => by
    obtain ⟨a, b⟩ := ps_rng (n := n) fun k hk => h k (by omega)
    obtain ⟨c1, c2⟩ := h n (by omega)
    simp only [ps, Int.natCast_add, Int.mul_add, Int.natCast_one, Int.mul_one]
    omega
theorem wm_le {T : Tbl} {p : Pt} (ar : Around T p) (i k : Nat) : T.wm p i k ≤ 4000000 := by
  rcases add1_at T p 1 4 (Nat.le_refl _) i k with ⟨j, hj, -, e⟩ | ⟨-, e⟩
  · unfold Tbl.wm; rw [e, Int.mul_one]; exact (ar.w j).2
  · unfold Tbl.wm; rw [e]; omega

set_option maxHeartbeats 1000000 in
theorem value_r {h : H} {T : Tbl} {m : Nat} {at_ : Pt} {p : Pul} (hm : m ≤ h.next) (hT : T.Ok m h) (g : T.Good) (o : T.On at_) (hp : p.Ok m h) (pn : p.M.n = T.P.n) (pw : ∀ i, i < T.P.n → p.M.w i = T.A.n) (pr : ∀ i k, i < T.P.n → k < T.A.n → 0 ≤ p.f i k ∧ p.f i k ≤ 100000) : AW Try.prog 53 h.next h [.agg ⟨T.cells⟩, .slice p.M.b p.M.n p.M.c, .agg ⟨at_.cells⟩] (fun v _ => v = .agg ⟨(T.val at_ p.f).cells⟩) := by
  have ar := g.around o
  have gp8 := g.p8
  have ga10 := g.a10
  have wh := ar.whole
  obtain ⟨f1, j1, s1, m1, se, sj, ss, sl, -⟩ := hp
  refine fun53.call rfl (Nat.le_refl _) ?_
  unfold a53 Tbl.cells Pt.cells
  (focus ((try with_reducible apply wpC.to); (repeat' ((conv => whnf); first | refine byEv ?_ | ((apply Fork.mk) <;> (intro _; try (exfalso; omega; done))) | ((apply q_call); (focus exact byNext); (focus exact byLo); (focus (exact kChartRd0)); first | ((apply q_allB) <;> (intro z_b _ _ _; first | exact Bool.noConfusion z_b | replace z_b := of_decide_eq_true z_b | replace z_b := of_decide_eq_false z_b | skip) <;> (first | contradiction | (revert z_b; intros))) | ((apply q_alli) <;> (intro _ _ _ _; try contradiction)) | ((apply q_allv); intro _ _ _)) | ((apply Load1.mk); (focus ((repeat (first | (apply el_lo <;> first | assumption | omega) | (apply el_hi <;> first | assumption | omega) | apply bump_old | ((apply put_old); focus (dsimp only [aadd]; omega)) | ((apply quiet_old); (focus assumption); focus (dsimp only [aadd]; omega)) | ((apply same_old); (focus assumption); focus (dsimp only [aadd]; omega)))); done)); (focus exact byVal)) | fail)); all_goals (conv => whnf); all_goals (try with_reducible apply At.mk)))
  apply q_call
  focus (exact byNext)
  focus (exact byLo)
  focus exact weights_r (T := T) (p := at_) (m := m) (by (exact byOm)) (hT.same (by (exact bySame)) (Nat.le_refl _)) g o
  rintro _ h2 ⟨W, rfl, hW, wn, ww, wf⟩ q2 n2
  simp only [put_next, bump_next] at hW
  (focus ((try with_reducible apply wpC.to); (repeat' ((conv => whnf); first | refine byEv ?_ | ((apply Fork.mk) <;> (intro _; try (exfalso; omega; done))) | ((apply q_call); (focus exact byNext); (focus exact byLo); (focus (exact kChartRd0)); first | ((apply q_allB) <;> (intro z_b _ _ _; first | exact Bool.noConfusion z_b | replace z_b := of_decide_eq_true z_b | replace z_b := of_decide_eq_false z_b | skip) <;> (first | contradiction | (revert z_b; intros))) | ((apply q_alli) <;> (intro _ _ _ _; try contradiction)) | ((apply q_allv); intro _ _ _)) | ((apply Load1.mk); (focus ((repeat (first | (apply el_lo <;> first | assumption | omega) | (apply el_hi <;> first | assumption | omega) | apply bump_old | ((apply put_old); focus (dsimp only [aadd]; omega)) | ((apply quiet_old); (focus assumption); focus (dsimp only [aadd]; omega)) | ((apply same_old); (focus assumption); focus (dsimp only [aadd]; omega)))); done)); (focus exact byVal)) | fail)); all_goals (conv => whnf); all_goals (try with_reducible apply At.mk)))
  have oW := hW.ok
  obtain ⟨we, wi, wr, wl, wse, wsi, wsr, wsl, -⟩ := oW
  have trm : ∀ i k, i < T.P.n → k < T.A.n → 0 ≤ W.f i k * p.f i k ∧ W.f i k * p.f i k ≤ 400000000000 := fun i k hi hk => by
    obtain ⟨b1, b2⟩ := pr i k hi hk
    rw [wf i k hi hk]
    exact mul_rng (wm_nn ar i k) (wm_le ar i k) b1 b2
  have rowr : ∀ i, i < T.P.n → ∀ t, t ≤ T.A.n → 0 ≤ ps (fun k => W.f i k * p.f i k) t ∧ ps (fun k => W.f i k * p.f i k) t ≤ 4000000000000 := fun i hi t ht => by
    obtain ⟨b1, b2⟩ := ps_rng (c := fun k => W.f i k * p.f i k) (B := 400000000000) (n := t) fun k hk => trm i k hi (by omega)
    omega
  have allr : ∀ s, s ≤ T.P.n → 0 ≤ ps (fun i => ps (fun k => W.f i k * p.f i k) T.A.n) s ∧ ps (fun i => ps (fun k => W.f i k * p.f i k) T.A.n) s ≤ 32000000000000 := fun s hs => by
    obtain ⟨b1, b2⟩ := ps_rng (c := fun i => ps (fun k => W.f i k * p.f i k) T.A.n) (B := 4000000000000) (n := s) fun i hi => rowr i (by omega) _ (Nat.le_refl _)
    omega
  refine wp_loop (fun s : Nat => [(1, .slice p.M.b p.M.n p.M.c), (6, .pointer (some ⟨h.next + 2, 0, none⟩)), (7, .slice W.M.b W.M.n W.M.c), (8, .int .i64 (T.whole at_)), (9, .int .i64 (ps (fun i => ps (fun k => W.f i k * p.f i k) T.A.n) s)), (10, .int .i64 s)])
    (fun s h1 => h1.get (h.next + 2) = some (.cells [.int .i64 0, .int .i64 0] 32) ∧ Same m h h1 ∧ Same h2.next h2 h1 ∧ h2.next ≤ h1.next ∧ s ≤ T.P.n) (fun s => T.P.n - s) 0 ⟨rfl, rfl, rfl, rfl, rfl, rfl, trivial⟩ ⟨by (exact byGet), by (exact bySame), by (exact bySame), by (exact byOm), by omega⟩ ?_
  rintro s g' h3 ⟨g1, sm, sm2, n3, hs⟩ K hK
  have w5 := wi.same sm2 wr
  have j5 := j1.same sm s1
  have hS := allr s hs
  by_cases hsn : s < T.P.n
  · have w6 := ww s hsn
    have p6 := pw s hsn
    (focus ((try with_reducible apply wpC.to); (repeat' ((conv => whnf); first | refine byEv ?_ | ((apply Fork.mk) <;> (intro _; try (exfalso; omega; done))) | ((apply q_call); (focus exact byNext); (focus exact byLo); (focus (exact kChartRd0)); first | ((apply q_allB) <;> (intro z_b _ _ _; first | exact Bool.noConfusion z_b | replace z_b := of_decide_eq_true z_b | replace z_b := of_decide_eq_false z_b | skip) <;> (first | contradiction | (revert z_b; intros))) | ((apply q_alli) <;> (intro _ _ _ _; try contradiction)) | ((apply q_allv); intro _ _ _)) | ((apply Load1.mk); (focus ((repeat (first | (apply el_lo <;> first | assumption | omega) | (apply el_hi <;> first | assumption | omega) | apply bump_old | ((apply put_old); focus (dsimp only [aadd]; omega)) | ((apply quiet_old); (focus assumption); focus (dsimp only [aadd]; omega)) | ((apply same_old); (focus assumption); focus (dsimp only [aadd]; omega)))); done)); (focus exact byVal)) | fail)); all_goals (conv => whnf); all_goals (try with_reducible apply At.mk)))
    refine wp_loop (fun t : Nat => [(1, .slice p.M.b p.M.n p.M.c), (6, .pointer (some ⟨h.next + 2, 0, none⟩)), (7, .slice W.M.b W.M.n W.M.c), (8, .int .i64 (T.whole at_)), (9, .int .i64 (ps (fun i => ps (fun k => W.f i k * p.f i k) T.A.n) s + ps (fun k => W.f s k * p.f s k) t)), (10, .int .i64 s), (11, .int .i64 t)])
      (fun t h1 => h1.get (h.next + 2) = some (.cells [.int .i64 0, .int .i64 0] 32) ∧ Same m h h1 ∧ Same h2.next h2 h1 ∧ h2.next ≤ h1.next ∧ t ≤ T.A.n) (fun t => T.A.n - t) 0 ⟨rfl, rfl, rfl, rfl, int_of rfl (by simp [ps]), rfl, rfl, trivial⟩ ⟨by (exact byGet), by (exact bySame), by (exact bySame), by (exact byOm), by omega⟩ ?_
    rintro t g'' h4 ⟨g2, sm3, sm4, n4, ht⟩ K' hK'
    have w7 := wi.same sm4 wr
    have j7 := j1.same sm3 s1
    have wse' := wse s (by omega)
    have wsi' := (wsi s (by omega)).same sm4 (wsr s (by omega))
    have wsr' := wsr s (by omega)
    have wsl' := wsl s (by omega)
    have se' := se s (by omega)
    have sj' := (sj s (by omega)).same sm3 (ss s (by omega))
    have ss' := ss s (by omega)
    have sl' := sl s (by omega)
    have hR := rowr s hsn t ht
    by_cases htw : t < T.A.n
    · have tt := trm s t hsn htw
      (focus ((try with_reducible apply wpC.to); (repeat' ((conv => whnf); first | refine byEv ?_ | ((apply Fork.mk) <;> (intro _; try (exfalso; omega; done))) | ((apply q_call); (focus exact byNext); (focus exact byLo); (focus (exact kChartRd0)); first | ((apply q_allB) <;> (intro z_b _ _ _; first | exact Bool.noConfusion z_b | replace z_b := of_decide_eq_true z_b | replace z_b := of_decide_eq_false z_b | skip) <;> (first | contradiction | (revert z_b; intros))) | ((apply q_alli) <;> (intro _ _ _ _; try contradiction)) | ((apply q_allv); intro _ _ _)) | ((apply Load1.mk); (focus ((repeat (first | (apply el_lo <;> first | assumption | omega) | (apply el_hi <;> first | assumption | omega) | apply bump_old | ((apply put_old); focus (dsimp only [aadd]; omega)) | ((apply quiet_old); (focus assumption); focus (dsimp only [aadd]; omega)) | ((apply same_old); (focus assumption); focus (dsimp only [aadd]; omega)))); done)); (focus exact byVal)) | fail)); all_goals (conv => whnf); all_goals (try with_reducible apply At.mk)))
      refine hK' (t + 1) _ _ ⟨rfl, rfl, rfl, rfl, int_of rfl (by simp only [ps]; omega), rfl, int_of rfl (by omega), trivial⟩ ⟨by (exact byGet), by (exact bySame), by (exact bySame), by (exact byOm), by omega⟩ (by omega)
    · obtain rfl : t = T.A.n := by omega
      (focus ((try with_reducible apply wpC.to); (repeat' ((conv => whnf); first | refine byEv ?_ | ((apply Fork.mk) <;> (intro _; try (exfalso; omega; done))) | ((apply q_call); (focus exact byNext); (focus exact byLo); (focus (exact kChartRd0)); first | ((apply q_allB) <;> (intro z_b _ _ _; first | exact Bool.noConfusion z_b | replace z_b := of_decide_eq_true z_b | replace z_b := of_decide_eq_false z_b | skip) <;> (first | contradiction | (revert z_b; intros))) | ((apply q_alli) <;> (intro _ _ _ _; try contradiction)) | ((apply q_allv); intro _ _ _)) | ((apply Load1.mk); (focus ((repeat (first | (apply el_lo <;> first | assumption | omega) | (apply el_hi <;> first | assumption | omega) | apply bump_old | ((apply put_old); focus (dsimp only [aadd]; omega)) | ((apply quiet_old); (focus assumption); focus (dsimp only [aadd]; omega)) | ((apply same_old); (focus assumption); focus (dsimp only [aadd]; omega)))); done)); (focus exact byVal)) | fail)); all_goals (conv => whnf); all_goals (try with_reducible apply At.mk)))
      refine hK (s + 1) _ _ ⟨rfl, rfl, rfl, rfl, int_of rfl (by simp only [ps]), int_of rfl (by omega), trivial⟩ ⟨by (exact byGet), by (exact bySame), by (exact bySame), by (exact byOm), by omega⟩ (by omega)
  · obtain rfl : s = T.P.n := by omega
    have hv : ps (fun i => ps (fun k => W.f i k * p.f i k) T.A.n) T.P.n = T.vsum at_ p.f := by
      rw [← wm_sum ar]
      exact gs_congr fun i k hi hk => by rw [wf i k hi hk]
    rw [hv] at hS ⊢
    (focus ((try with_reducible apply wpC.to); (repeat' ((conv => whnf); first | refine byEv ?_ | ((apply Fork.mk) <;> (intro _; try (exfalso; omega; done))) | ((apply q_call); (focus exact byNext); (focus exact byLo); (focus (exact kChartRd0)); first | ((apply q_allB) <;> (intro z_b _ _ _; first | exact Bool.noConfusion z_b | replace z_b := of_decide_eq_true z_b | replace z_b := of_decide_eq_false z_b | skip) <;> (first | contradiction | (revert z_b; intros))) | ((apply q_alli) <;> (intro _ _ _ _; try contradiction)) | ((apply q_allv); intro _ _ _)) | ((apply Load1.mk); (focus ((repeat (first | (apply el_lo <;> first | assumption | omega) | (apply el_hi <;> first | assumption | omega) | apply bump_old | ((apply put_old); focus (dsimp only [aadd]; omega)) | ((apply quiet_old); (focus assumption); focus (dsimp only [aadd]; omega)) | ((apply same_old); (focus assumption); focus (dsimp only [aadd]; omega)))); done)); (focus exact byVal)) | fail)); all_goals (conv => whnf); all_goals (try with_reducible apply At.mk)))
    (refine byFin ?_)
    rfl

theorem kChartRd3 {G : Prop} (g : G := by ((apply value_r; rotate_left; (focus (apply Tbl.Ok.same; (focus assumption); (focus exact bySame); (focus exact Nat.le_refl _))); (focus assumption); (focus assumption); (focus (apply Pul.Ok.same; (focus assumption); (focus exact bySame); (focus exact Nat.le_refl _))); (focus assumption); (focus assumption); (focus assumption); (focus exact byOm)))) : G := g

theorem Value_r {h : H} {T : Tbl} {p : Pul} {at_ : Pt} {m : Nat} (hm : m ≤ h.next) (hT : T.Ok m h) (hp : p.Ok m h) : AW Try.prog 16 h.next h [.agg ⟨T.cells⟩, .slice p.M.b p.M.n p.M.c, .agg ⟨at_.cells⟩] (fun v _ => v = .tuple #[.agg ⟨(T.vres p at_).cells⟩, .int .i64 (T.verr p at_)]) := by
  refine fun16.call rfl (Nat.le_refl _) ?_
  unfold a16 Tbl.cells Pt.cells
  (focus ((try with_reducible apply wpC.to); (repeat' ((conv => whnf); first | refine byEv ?_ | ((apply Fork.mk) <;> (intro _; try (exfalso; omega; done))) | ((apply q_call); (focus exact byNext); (focus exact byLo); (focus (first | exact kChartRd3 | exact kChartRd2 | exact kChartRd1)); first | ((apply q_allB) <;> (intro z_b _ _ _; first | exact Bool.noConfusion z_b | replace z_b := of_decide_eq_true z_b | replace z_b := of_decide_eq_false z_b | skip) <;> (first | contradiction | (revert z_b; intros))) | ((apply q_alli) <;> (intro _ _ _ _; try contradiction)) | ((apply q_allv); intro _ _ _)) | fail)); all_goals (conv => whnf); all_goals (try with_reducible apply At.mk)))
  · have hne : T.verr p at_ ≠ 0 := by unfold Tbl.verr; rw [if_pos (by assumption)]; assumption
    have he : T.verr p at_ = T.terr p := by unfold Tbl.verr; rw [if_pos (by assumption)]
    (refine byFin ?_)
    unfold Tbl.vres
    rw [if_neg hne, he]
    rfl
  obtain ⟨g, t⟩ := Tbl.true (T := T) (p := p) (by assumption)
  have tn := t.n
  have tw := t.w
  have tb := t.bd g
  (focus ((try with_reducible apply wpC.to); (repeat' ((conv => whnf); first | refine byEv ?_ | ((apply Fork.mk) <;> (intro _; try (exfalso; omega; done))) | ((apply q_call); (focus exact byNext); (focus exact byLo); (focus (first | exact kChartRd3 | exact kChartRd2 | exact kChartRd1)); first | ((apply q_allB) <;> (intro z_b _ _ _; first | exact Bool.noConfusion z_b | replace z_b := of_decide_eq_true z_b | replace z_b := of_decide_eq_false z_b | skip) <;> (first | contradiction | (revert z_b; intros))) | ((apply q_alli) <;> (intro _ _ _ _; try contradiction)) | ((apply q_allv); intro _ _ _)) | fail)); all_goals (conv => whnf); all_goals (try with_reducible apply At.mk)))
  · have he : T.verr p at_ = 0 := by unfold Tbl.verr; rw [if_neg (fun k => k (by assumption)), if_neg (fun k => k (by assumption))]
    (refine byFin ?_)
    unfold Tbl.vres
    rw [he, if_pos rfl]
    rfl
  · have he : T.verr p at_ = 19 := by unfold Tbl.verr; rw [if_neg (fun k => k (by assumption)), if_pos (by assumption)]
    (refine byFin ?_)
    unfold Tbl.vres
    rw [he, if_neg (by decide)]
    rfl
end AE.Try
