/- Walks of the definitions of charts: spans, differences. -/
import Derived.Test.YtbfhhncmmllblaaChartRe
set_option linter.unusedVariables false
set_option linter.unusedSimpArgs false
set_option linter.unusedSectionVars false
namespace AE.Try
open Go AE Go.Proofs
set_option maxRecDepth 100000
set_option linter.unusedVariables false

theorem points_r {h : H} {T : Tbl} {p q : Pt} {m : Nat} (hm : m ≤ h.next) (hT : T.Ok m h) : AW Try.prog 82 h.next h [.agg ⟨T.cells⟩, .agg ⟨p.cells⟩, .agg ⟨q.cells⟩] (fun v _ => v = .int .i64 (T.nerr (T.On p ∧ T.On q))) := by
  refine fun82.call rfl (Nat.le_refl _) ?_
  unfold a82 Tbl.cells Pt.cells
  (focus ((try with_reducible apply wpC.to); (repeat' ((conv => whnf); first | refine byEv ?_ | ((apply Fork.mk) <;> (intro _; try (exfalso; omega; done))) | ((apply q_call); (focus exact byNext); (focus exact byLo); (focus (first | exact kChartRd2 | exact kChartRb0)); first | ((apply q_allB) <;> (intro z_b _ _ _; first | exact Bool.noConfusion z_b | replace z_b := of_decide_eq_true z_b | replace z_b := of_decide_eq_false z_b | skip) <;> (first | contradiction | (revert z_b; intros))) | ((apply q_alli) <;> (intro _ _ _ _; try contradiction)) | ((apply q_allv); intro _ _ _)) | fail)); all_goals (conv => whnf); all_goals (try with_reducible apply At.mk)))
  · (refine byFin ?_)
    unfold Tbl.nerr; rw [if_pos (by assumption)]
  have hz : T.err = 0 := by assumption
  have g := Tbl.good hz
  (focus ((try with_reducible apply wpC.to); (repeat' ((conv => whnf); first | refine byEv ?_ | ((apply Fork.mk) <;> (intro _; try (exfalso; omega; done))) | ((apply q_call); (focus exact byNext); (focus exact byLo); (focus (first | exact kChartRd2 | exact kChartRb0)); first | ((apply q_allB) <;> (intro z_b _ _ _; first | exact Bool.noConfusion z_b | replace z_b := of_decide_eq_true z_b | replace z_b := of_decide_eq_false z_b | skip) <;> (first | contradiction | (revert z_b; intros))) | ((apply q_alli) <;> (intro _ _ _ _; try contradiction)) | ((apply q_allv); intro _ _ _)) | fail)); all_goals (conv => whnf); all_goals (try with_reducible apply At.mk)))
  · (refine byFin ?_)
    rw [g.nerr ⟨by assumption, by assumption⟩]
  · (refine byFin ?_)
    unfold Tbl.nerr; rw [if_neg (fun k => k hz), if_pos (fun k => by have := k.2; contradiction)]
  · (refine byFin ?_)
    unfold Tbl.nerr; rw [if_neg (fun k => k hz), if_pos (fun k => by have := k.1; contradiction)]

set_option maxHeartbeats 2000000 in
theorem difference_r {h : H} {T : Tbl} {m : Nat} {p q : Pt} (hm : m ≤ h.next) (hT : T.Ok m h) (g : T.Good) (o : T.On p) (o' : T.On q) : AW Try.prog 83 h.next h [.agg ⟨T.cells⟩, .agg ⟨p.cells⟩, .agg ⟨q.cells⟩] (fun v h' => ∃ D : Pul, v = .tuple #[.slice D.M.b D.M.n D.M.c, .int .i64 (T.whole p * T.whole q)] ∧ D.Ok h'.next h' ∧ D.M.n = T.P.n ∧ (∀ i, i < T.P.n → D.M.w i = T.A.n) ∧ ∀ i k, i < T.P.n → k < T.A.n → D.f i k = T.more p q i k) := by
  have ar := g.around o
  have ar' := g.around o'
  have wp := ar.whole
  have wq := ar'.whole
  have gp8 := g.p8
  have ga10 := g.a10
  have ga2 := g.a2
  refine fun83.call rfl (Nat.le_refl _) ?_
  unfold a83 Tbl.cells Pt.cells
  (focus ((try with_reducible apply wpC.to); (repeat' ((conv => whnf); first | refine byEv ?_ | ((apply Fork.mk) <;> (intro _; try (exfalso; omega; done))) | ((apply Load1.mk); (focus ((repeat (first | (apply el_lo <;> first | assumption | omega) | (apply el_hi <;> first | assumption | omega) | apply bump_old | ((apply put_old); focus (dsimp only [aadd]; omega)) | ((apply quiet_old); (focus assumption); focus (dsimp only [aadd]; omega)) | ((apply same_old); (focus assumption); focus (dsimp only [aadd]; omega)))); done)); (focus exact byVal)) | fail)); all_goals (conv => whnf); all_goals (try with_reducible apply At.mk)))
  apply q_call
  focus (exact byNext)
  focus (exact byLo)
  focus exact weights_r (T := T) (p := p) (m := m) (by (exact byOm)) (hT.same (by (exact bySame)) (Nat.le_refl _)) g o
  rintro _ h2 ⟨V, rfl, oV, vn, vw, vf⟩ q2 n2
  simp only [put_next, bump_next] at oV
  (focus ((try with_reducible apply wpC.to); (repeat' ((conv => whnf); first | refine byEv ?_ | ((apply Fork.mk) <;> (intro _; try (exfalso; omega; done))) | ((apply Load1.mk); (focus ((repeat (first | (apply el_lo <;> first | assumption | omega) | (apply el_hi <;> first | assumption | omega) | apply bump_old | ((apply put_old); focus (dsimp only [aadd]; omega)) | ((apply quiet_old); (focus assumption); focus (dsimp only [aadd]; omega)) | ((apply same_old); (focus assumption); focus (dsimp only [aadd]; omega)))); done)); (focus exact byVal)) | fail)); all_goals (conv => whnf); all_goals (try with_reducible apply At.mk)))
  apply q_call
  focus (exact byNext)
  focus (exact byLo)
  focus exact weights_r (T := T) (p := q) (m := m) (by (exact byOm)) (hT.same (by (exact bySame)) (Nat.le_refl _)) g o'
  rintro _ h3 ⟨W, rfl, oW, wn, ww, wf⟩ q3 n3
  simp only [put_next, bump_next] at oW
  (focus ((try with_reducible apply wpC.to); (repeat' ((conv => whnf); first | refine byEv ?_ | ((apply Fork.mk) <;> (intro _; try (exfalso; omega; done))) | ((apply Load1.mk); (focus ((repeat (first | (apply el_lo <;> first | assumption | omega) | (apply el_hi <;> first | assumption | omega) | apply bump_old | ((apply put_old); focus (dsimp only [aadd]; omega)) | ((apply quiet_old); (focus assumption); focus (dsimp only [aadd]; omega)) | ((apply same_old); (focus assumption); focus (dsimp only [aadd]; omega)))); done)); (focus exact byVal)) | fail)); all_goals (conv => whnf); all_goals (try with_reducible apply At.mk)))
  have bp : ∀ i k, 0 ≤ T.wm p i k * T.whole q ∧ T.wm p i k * T.whole q ≤ 4000000 * 4000000 := fun i k => mul_rng (wm_nn ar i k) (wm_le ar i k) (by omega) (by omega)
  have bq : ∀ i k, 0 ≤ T.wm q i k * T.whole p ∧ T.wm q i k * T.whole p ≤ 4000000 * 4000000 := fun i k => mul_rng (wm_nn ar' i k) (wm_le ar' i k) (by omega) (by omega)
  have bw := mul_rng (a := T.whole p) (A := 4000000) (b := T.whole q) (B := 4000000) (by omega) (by omega) (by omega) (by omega)
  refine wp_loop (fun s : Nat × (Nat → Nat → Int) => [(8, .slice V.M.b V.M.n V.M.c), (9, .int .i64 (T.whole p)), (10, .slice W.M.b W.M.n W.M.c), (11, .int .i64 (T.whole q)), (12, .int .i64 s.1)])
    (fun s h1 => OM (fun _ => True) ⟨V.M, s.2⟩ (h.next + 13) h2.next h1 ∧ OM (fun _ => True) W (h2.next + 8) h3.next h1 ∧ h3.next ≤ h1.next ∧ s.1 ≤ T.P.n ∧ ∀ i k, i < T.P.n → k < T.A.n → s.2 i k = if i < s.1 then T.more p q i k else T.wm p i k) (fun s => T.P.n - s.1) (0, V.f) ⟨rfl, rfl, rfl, rfl, rfl, trivial⟩ ⟨oV.frame (Nat.le_refl _) fun r h1 h2 _ => get_of fun y hy => by (exact byGet), oW.frame (Nat.le_refl _) fun r h1 h2 _ => rfl, by (exact byOm), by dsimp only; omega, fun i k hi hk => by dsimp only; rw [if_neg (by omega)]; exact vf i k hi hk⟩ ?_
  rintro ⟨s, F⟩ g' h4 ⟨oD, oE, n4, hs, hF⟩ K hK
  dsimp only at oD hs hF ⊢
  obtain ⟨de, di, dr, dl, dse, dsi, dsr, dsl, -⟩ := oD.ok
  obtain ⟨ee, ei, er, el, ese, esi, esr, esl, -⟩ := oE.ok
  dsimp only at de di dr dl dse dsi dsr dsl
  by_cases hsn : s < T.P.n
  · have vw' := vw s hsn
    (focus ((try with_reducible apply wpC.to); (repeat' ((conv => whnf); first | refine byEv ?_ | ((apply Fork.mk) <;> (intro _; try (exfalso; omega; done))) | ((apply Load1.mk); (focus ((repeat (first | (apply el_lo <;> first | assumption | omega) | (apply el_hi <;> first | assumption | omega) | apply bump_old | ((apply put_old); focus (dsimp only [aadd]; omega)) | ((apply quiet_old); (focus assumption); focus (dsimp only [aadd]; omega)) | ((apply same_old); (focus assumption); focus (dsimp only [aadd]; omega)))); done)); (focus exact byVal)) | fail)); all_goals (conv => whnf); all_goals (try with_reducible apply At.mk)))
    refine wp_loop (fun s' : Nat × (Nat → Nat → Int) => [(8, .slice V.M.b V.M.n V.M.c), (9, .int .i64 (T.whole p)), (10, .slice W.M.b W.M.n W.M.c), (11, .int .i64 (T.whole q)), (12, .int .i64 s), (13, .int .i64 s'.1)])
      (fun s' h1 => OM (fun _ => True) ⟨V.M, s'.2⟩ (h.next + 13) h2.next h1 ∧ OM (fun _ => True) W (h2.next + 8) h3.next h1 ∧ h3.next ≤ h1.next ∧ s'.1 ≤ T.A.n ∧ ∀ i k, i < T.P.n → k < T.A.n → s'.2 i k = if i < s ∨ (i = s ∧ k < s'.1) then T.more p q i k else T.wm p i k) (fun s' => T.A.n - s'.1) (0, F) ⟨rfl, rfl, rfl, rfl, rfl, rfl, trivial⟩ ⟨oD.frame (Nat.le_refl _) fun r h1 h2 _ => rfl, oE.frame (Nat.le_refl _) fun r h1 h2 _ => rfl, by (exact byOm), by dsimp only; omega, fun i k hi hk => by dsimp only; rw [hF i k hi hk]; by_cases e : i < s <;> simp [e]⟩ ?_
    rintro ⟨t, G⟩ g'' h5 ⟨oD', oE', n5, ht, hG⟩ K' hK'
    dsimp only at oD' ht hG ⊢
    obtain ⟨de, di, dr, dl, dse, dsi, dsr, dsl, -⟩ := oD'.ok
    obtain ⟨ee, ei, er, el, ese, esi, esr, esl, -⟩ := oE'.ok
    dsimp only at de di dr dl dse dsi dsr dsl
    have dse' := dse s (by omega)
    have dsi' := dsi s (by omega)
    have dsr' := dsr s (by omega)
    have dsl' := dsl s (by omega)
    have ese' := ese s (by omega)
    have esi' := esi s (by omega)
    have esr' := esr s (by omega)
    have esl' := esl s (by omega)
    have ww' := ww s hsn
    by_cases htw : t < T.A.n
    · have e1 : G s t = T.wm p s t := by rw [hG s t hsn htw, if_neg (by omega)]
      have e2 := wf s t hsn htw
      have b1 := bp s t
      have b2 := bq s t
      rw [← e1] at b1
      rw [← e2] at b2
      (focus ((try with_reducible apply wpC.to); (repeat' ((conv => whnf); first | refine byEv ?_ | ((apply Fork.mk) <;> (intro _; try (exfalso; omega; done))) | ((apply Load1.mk); (focus ((repeat (first | (apply el_lo <;> first | assumption | omega) | (apply el_hi <;> first | assumption | omega) | apply bump_old | ((apply put_old); focus (dsimp only [aadd]; omega)) | ((apply quiet_old); (focus assumption); focus (dsimp only [aadd]; omega)) | ((apply same_old); (focus assumption); focus (dsimp only [aadd]; omega)))); done)); (focus exact byVal)) | fail)); all_goals (conv => whnf); all_goals (try with_reducible apply At.mk)))
      refine OM.sto2 (p := ⟨V.M, G⟩) (b := h.next + 13) (m := h2.next) (oD'.frame (Nat.le_refl _) fun r h1 h2 _ => rfl) (by show s < V.M.n; omega) (by show t < V.M.w s; omega) rfl (by omega) fun hx en es oX => ?_
      have nx : h3.next ≤ hx.next := by rw [en]; (exact byOm)
      have oEx : OM (fun _ => True) W (h2.next + 8) h3.next hx := oE'.frame (Nat.le_refl _) fun r h1 h2 _ => (es r (.inr (.inl (by omega)))).trans rfl
      (focus ((try with_reducible apply wpC.to); (repeat' ((conv => whnf); first | refine byEv ?_ | ((apply Fork.mk) <;> (intro _; try (exfalso; omega; done))) | ((apply Load1.mk); (focus ((repeat (first | (apply el_lo <;> first | assumption | omega) | (apply el_hi <;> first | assumption | omega) | apply bump_old | ((apply put_old); focus (dsimp only [aadd]; omega)) | ((apply quiet_old); (focus assumption); focus (dsimp only [aadd]; omega)) | ((apply same_old); (focus assumption); focus (dsimp only [aadd]; omega)))); done)); (focus exact byVal)) | fail)); all_goals (conv => whnf); all_goals (try with_reducible apply At.mk)))
      refine hK' (t + 1, (Pul.upd ⟨V.M, G⟩ s t (G s t * T.whole q - W.f s t * T.whole p)).f) _ _ ⟨rfl, rfl, rfl, rfl, rfl, int_of rfl (by omega), trivial⟩ ⟨oX.frame (Nat.le_refl _) fun r h1 h2 _ => rfl, oEx.frame (Nat.le_refl _) fun r h1 h2 _ => rfl, by (exact byOm), by dsimp only; omega, fun i k hi hk => ?_⟩ (by dsimp only; omega)
      show (if i = s then updN (G s) t _ else G i) k = _
      by_cases ei : i = s
      · subst ei
        rw [if_pos rfl]
        show (if k = t then _ else G i k) = _
        by_cases ek : k = t
        · subst ek
          rw [if_pos rfl, if_pos (by dsimp only; omega), T.more_eq, e1, e2]
        · rw [if_neg ek, hG i k hi hk]
          dsimp only
          by_cases e : k < t
          · rw [if_pos (by omega), if_pos (by omega)]
          · rw [if_neg (by omega), if_neg (by omega)]
      · rw [if_neg ei, hG i k hi hk]
        dsimp only
        by_cases e : i < s
        · rw [if_pos (by omega), if_pos (by omega)]
        · rw [if_neg (by omega), if_neg (by omega)]
    · obtain rfl : t = T.A.n := by omega
      (focus ((try with_reducible apply wpC.to); (repeat' ((conv => whnf); first | refine byEv ?_ | ((apply Fork.mk) <;> (intro _; try (exfalso; omega; done))) | ((apply Load1.mk); (focus ((repeat (first | (apply el_lo <;> first | assumption | omega) | (apply el_hi <;> first | assumption | omega) | apply bump_old | ((apply put_old); focus (dsimp only [aadd]; omega)) | ((apply quiet_old); (focus assumption); focus (dsimp only [aadd]; omega)) | ((apply same_old); (focus assumption); focus (dsimp only [aadd]; omega)))); done)); (focus exact byVal)) | fail)); all_goals (conv => whnf); all_goals (try with_reducible apply At.mk)))
      refine hK (s + 1, G) _ _ ⟨rfl, rfl, rfl, rfl, int_of rfl (by omega), trivial⟩ ⟨oD'.frame (Nat.le_refl _) fun r h1 h2 _ => rfl, oE'.frame (Nat.le_refl _) fun r h1 h2 _ => rfl, by (exact byOm), by dsimp only; omega, fun i k hi hk => ?_⟩ (by dsimp only; omega)
      dsimp only
      rw [hG i k hi hk]
      by_cases e : i < s + 1
      · rw [if_pos e, if_pos (by omega)]
      · rw [if_neg e, if_neg (by omega)]
  · obtain rfl : s = T.P.n := by omega
    (focus ((try with_reducible apply wpC.to); (repeat' ((conv => whnf); first | refine byEv ?_ | ((apply Fork.mk) <;> (intro _; try (exfalso; omega; done))) | ((apply Load1.mk); (focus ((repeat (first | (apply el_lo <;> first | assumption | omega) | (apply el_hi <;> first | assumption | omega) | apply bump_old | ((apply put_old); focus (dsimp only [aadd]; omega)) | ((apply quiet_old); (focus assumption); focus (dsimp only [aadd]; omega)) | ((apply same_old); (focus assumption); focus (dsimp only [aadd]; omega)))); done)); (focus exact byVal)) | fail)); all_goals (conv => whnf); all_goals (try with_reducible apply At.mk)))
    (refine byFin ?_)
    exact ⟨⟨V.M, F⟩, rfl, oD.ok.same (Same.refl _ _) (by (exact byOm)), vn, vw, fun i k hi hk => by show F i k = _; rw [hF i k hi hk, if_pos hi]⟩
end AE.Try
