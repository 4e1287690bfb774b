/- Walks of the definitions of charts: End. -/
import Derived.Test.YtbfhhncmmllblaaChartRg
set_option linter.unusedVariables false
set_option linter.unusedSimpArgs false
set_option linter.unusedSectionVars false
namespace AE.Try
open Go AE Go.Proofs
set_option maxRecDepth 100000
set_option linter.unusedVariables false

set_option maxHeartbeats 4000000 in
theorem End_r {h : H} {T : Tbl} {p q : Pt} {m : Nat} {high : Bool} (hm : m ≤ h.next) (hT : T.Ok m h) : AW Try.prog 42 h.next h [.agg ⟨T.cells⟩, .agg ⟨p.cells⟩, .agg ⟨q.cells⟩, .bool high] (fun v h' => ∃ x : Pul, v = .tuple #[.slice x.M.b x.M.n x.M.c, .int .i64 (T.nerr (T.On p ∧ T.On q))] ∧ x.Ok h'.next h' ∧ (T.nerr (T.On p ∧ T.On q) ≠ 0 → x.M.n = 0) ∧
    (T.nerr (T.On p ∧ T.On q) = 0 → x.M.n = T.P.n ∧ (∀ i, i < T.P.n → x.M.w i = T.A.n) ∧ ∀ i k, i < T.P.n → k < T.A.n → x.f i k = T.ev p q high i k)) := by
  refine fun42.call rfl (Nat.le_refl _) ?_
  unfold a42 Tbl.cells Pt.cells
  (focus ((try with_reducible apply wpC.to); (repeat' ((conv => whnf); first | refine byEv ?_ | ((apply Fork.mk) <;> (intro _; try (exfalso; omega; done))) | ((apply q_call); (focus exact byNext); (focus exact byLo); (focus (exact kChartRg0)); first | ((apply q_allB) <;> (intro z_b _ _ _; first | exact Bool.noConfusion z_b | replace z_b := of_decide_eq_true z_b | replace z_b := of_decide_eq_false z_b | skip) <;> (first | contradiction | (revert z_b; intros))) | ((apply q_alli) <;> (intro _ _ _ _; try contradiction)) | ((apply q_allv); intro _ _ _)) | ((apply Load1.mk); (focus ((repeat (first | (apply el_lo <;> first | assumption | omega) | (apply el_hi <;> first | assumption | omega) | apply bump_old | ((apply put_old); focus (dsimp only [aadd]; omega)) | ((apply quiet_old); (focus assumption); focus (dsimp only [aadd]; omega)) | ((apply same_old); (focus assumption); focus (dsimp only [aadd]; omega)))); done)); (focus exact byVal)) | fail)); all_goals (conv => whnf); all_goals (try with_reducible apply At.mk)))
  · have he : T.nerr (T.On p ∧ T.On q) ≠ 0 := by assumption
    (refine byFin ?_)
    exact ⟨noPul, rfl, noPul_ok _ _, fun _ => rfl, fun h => absurd h he⟩
  have he : T.nerr (T.On p ∧ T.On q) = 0 := by assumption
  obtain ⟨g, o, o'⟩ := Tbl.nerr_ok he
  rw [he]
  have gp8 := g.p8
  have ga10 := g.a10
  have ga2 := g.a2
  rename_i h2 _ _ _
  apply q_call
  focus (exact byNext)
  focus (exact byLo)
  focus exact difference_r (T := T) (p := p) (q := q) (m := m) (by (exact byOm)) (hT.same (by (exact bySame)) (Nat.le_refl _)) g o o'
  rintro _ h3 ⟨D, rfl, oD, dn, dw, df⟩ q3 n3
  (focus ((try with_reducible apply wpC.to); (repeat' ((conv => whnf); first | refine byEv ?_ | ((apply Fork.mk) <;> (intro _; try (exfalso; omega; done))) | ((apply q_call); (focus exact byNext); (focus exact byLo); (focus (exact kChartRg0)); first | ((apply q_allB) <;> (intro z_b _ _ _; first | exact Bool.noConfusion z_b | replace z_b := of_decide_eq_true z_b | replace z_b := of_decide_eq_false z_b | skip) <;> (first | contradiction | (revert z_b; intros))) | ((apply q_alli) <;> (intro _ _ _ _; try contradiction)) | ((apply q_allv); intro _ _ _)) | ((apply Load1.mk); (focus ((repeat (first | (apply el_lo <;> first | assumption | omega) | (apply el_hi <;> first | assumption | omega) | apply bump_old | ((apply put_old); focus (dsimp only [aadd]; omega)) | ((apply quiet_old); (focus assumption); focus (dsimp only [aadd]; omega)) | ((apply same_old); (focus assumption); focus (dsimp only [aadd]; omega)))); done)); (focus exact byVal)) | fail)); all_goals (conv => whnf); all_goals (try with_reducible apply At.mk)))
  apply q_call
  focus (exact byNext)
  focus (exact byLo)
  focus exact ends_r (T := T) (m := m) (by (exact byOm)) (hT.same (by (exact bySame)) (Nat.le_refl _)) g
  rintro _ h4 ⟨A, B, rfl, ⟨O1, O2, hO, oA, oB⟩, ⟨an, aw⟩, ⟨bn, bw⟩, af, bf⟩ q4 n4
  simp only [put_next, bump_next] at oA oB
  (focus ((try with_reducible apply wpC.to); (repeat' ((conv => whnf); first | refine byEv ?_ | ((apply Fork.mk) <;> (intro _; try (exfalso; omega; done))) | ((apply q_call); (focus exact byNext); (focus exact byLo); (focus (exact kChartRg0)); first | ((apply q_allB) <;> (intro z_b _ _ _; first | exact Bool.noConfusion z_b | replace z_b := of_decide_eq_true z_b | replace z_b := of_decide_eq_false z_b | skip) <;> (first | contradiction | (revert z_b; intros))) | ((apply q_alli) <;> (intro _ _ _ _; try contradiction)) | ((apply q_allv); intro _ _ _)) | ((apply Load1.mk); (focus ((repeat (first | (apply el_lo <;> first | assumption | omega) | (apply el_hi <;> first | assumption | omega) | apply bump_old | ((apply put_old); focus (dsimp only [aadd]; omega)) | ((apply quiet_old); (focus assumption); focus (dsimp only [aadd]; omega)) | ((apply same_old); (focus assumption); focus (dsimp only [aadd]; omega)))); done)); (focus exact byVal)) | fail)); all_goals (conv => whnf); all_goals (try with_reducible apply At.mk)))
  obtain ⟨de, di, dr, dl, dse, dsi, dsr, dsl, -⟩ := oD
  refine wp_loop (fun s : Nat × (Nat → Nat → Int) => [(3, .bool high), (10, .slice D.M.b D.M.n D.M.c), (12, .slice A.M.b A.M.n A.M.c), (13, .slice B.M.b B.M.n B.M.c), (14, .int .i64 s.1)])
    (fun s h1 => Same h3.next h3 h1 ∧ OM O1 ⟨A.M, s.2⟩ (h3.next + 7) h4.next h1 ∧ OM O2 B (h3.next + 7) h4.next h1 ∧ h4.next ≤ h1.next ∧ s.1 ≤ T.P.n ∧ ∀ i k, i < T.P.n → k < T.A.n → s.2 i k = if i < s.1 then T.ev p q high i k else T.lo i k) (fun s => T.P.n - s.1) (0, A.f) ⟨rfl, rfl, rfl, rfl, rfl, trivial⟩ ⟨by (exact bySame), oA.frame (Nat.le_refl _) fun r h1 h2 _ => rfl, oB.frame (Nat.le_refl _) fun r h1 h2 _ => rfl, by (exact byOm), by dsimp only; omega, fun i k hi hk => by dsimp only; rw [if_neg (by omega), af]⟩ ?_
  rintro ⟨s, F⟩ g' h5 ⟨sm, oX, oY, n5, hs, hF⟩ K hK
  dsimp only at oX hs hF ⊢
  have d5 := di.same sm dr
  by_cases hsn : s < T.P.n
  · have dw' := dw s hsn
    (focus ((try with_reducible apply wpC.to); (repeat' ((conv => whnf); first | refine byEv ?_ | ((apply Fork.mk) <;> (intro _; try (exfalso; omega; done))) | ((apply q_call); (focus exact byNext); (focus exact byLo); (focus (exact kChartRg0)); first | ((apply q_allB) <;> (intro z_b _ _ _; first | exact Bool.noConfusion z_b | replace z_b := of_decide_eq_true z_b | replace z_b := of_decide_eq_false z_b | skip) <;> (first | contradiction | (revert z_b; intros))) | ((apply q_alli) <;> (intro _ _ _ _; try contradiction)) | ((apply q_allv); intro _ _ _)) | ((apply Load1.mk); (focus ((repeat (first | (apply el_lo <;> first | assumption | omega) | (apply el_hi <;> first | assumption | omega) | apply bump_old | ((apply put_old); focus (dsimp only [aadd]; omega)) | ((apply quiet_old); (focus assumption); focus (dsimp only [aadd]; omega)) | ((apply same_old); (focus assumption); focus (dsimp only [aadd]; omega)))); done)); (focus exact byVal)) | fail)); all_goals (conv => whnf); all_goals (try with_reducible apply At.mk)))
    refine wp_loop (fun s' : Nat × (Nat → Nat → Int) => [(3, .bool high), (10, .slice D.M.b D.M.n D.M.c), (12, .slice A.M.b A.M.n A.M.c), (13, .slice B.M.b B.M.n B.M.c), (14, .int .i64 s), (15, .int .i64 s'.1)])
      (fun s' h1 => Same h3.next h3 h1 ∧ OM O1 ⟨A.M, s'.2⟩ (h3.next + 7) h4.next h1 ∧ OM O2 B (h3.next + 7) h4.next h1 ∧ h4.next ≤ h1.next ∧ s'.1 ≤ T.A.n ∧ ∀ i k, i < T.P.n → k < T.A.n → s'.2 i k = if i < s ∨ (i = s ∧ k < s'.1) then T.ev p q high i k else T.lo i k) (fun s' => T.A.n - s'.1) (0, F) ⟨rfl, rfl, rfl, rfl, rfl, rfl, trivial⟩ ⟨by (exact bySame), oX.frame (Nat.le_refl _) fun r h1 h2 _ => rfl, oY.frame (Nat.le_refl _) fun r h1 h2 _ => rfl, by (exact byOm), by dsimp only; omega, fun i k hi hk => by dsimp only; rw [hF i k hi hk]; by_cases e : i < s <;> simp [e]⟩ ?_
    rintro ⟨t, G⟩ g'' h6 ⟨sm', oX', oY', n6, ht, hG⟩ K' hK'
    dsimp only at oX' ht hG ⊢
    have d7 := di.same sm' dr
    have dse' := dse s (by omega)
    have dsi' := (dsi s (by omega)).same sm' (dsr s (by omega))
    have dsr' := dsr s (by omega)
    have dsl' := dsl s (by omega)
    obtain ⟨ae, ai, ar, al, ase, asi, asr, asl, -⟩ := oX'.ok
    obtain ⟨be, bi, br, bl, bse, bsi, bsr, bsl, -⟩ := oY'.ok
    dsimp only at ae ai ar al ase asi asr asl
    have ase' := ase s (by omega)
    have bse' := bse s (by omega)
    have bsi' := bsi s (by omega)
    have bsr' := bsr s (by omega)
    have bsl' := bsl s (by omega)
    have bw' := bw s hsn
    have aw' := aw s hsn
    by_cases htw : t < T.A.n
    · have e2 := df s t hsn htw
      have stay : T.ev p q high s t = T.lo s t → ∀ ts h', Holds ts [(3, .bool high), (10, .slice D.M.b D.M.n D.M.c), (12, .slice A.M.b A.M.n A.M.c), (13, .slice B.M.b B.M.n B.M.c), (14, .int .i64 s), (15, .int .i64 ((t : Int) + 1))] → (∀ r, h'.get r = h6.get r) → h6.next ≤ h'.next → K' ts h' := fun he ts h' hh hr hn => by
        refine hK' (t + 1, G) ts h' (by obtain ⟨a1, a2, a3, a4, a5, a6, a7⟩ := hh; exact ⟨a1, a2, a3, a4, a5, by rw [a6]; exact int_of rfl (by omega), trivial⟩) ⟨fun r hr' => (hr r).trans (sm' r hr'), oX'.frame (Nat.le_refl _) fun r _ _ _ => hr r, oY'.frame (Nat.le_refl _) fun r _ _ _ => hr r, by omega, by dsimp only; omega, fun i k hi hk => ?_⟩ (by dsimp only; omega)
        dsimp only
        rw [hG i k hi hk]
        by_cases e : i = s ∧ k = t
        · obtain ⟨rfl, rfl⟩ := e
          rw [if_neg (by omega), if_pos (by omega), he]
        · by_cases e' : i < s ∨ (i = s ∧ k < t)
          · rw [if_pos e', if_pos (by omega)]
          · rw [if_neg e', if_neg (by omega)]
      cases high
      · (focus ((try with_reducible apply wpC.to); (repeat' ((conv => whnf); first | refine byEv ?_ | ((apply Fork.mk) <;> (intro _; try (exfalso; omega; done))) | ((apply q_call); (focus exact byNext); (focus exact byLo); (focus (exact kChartRg0)); first | ((apply q_allB) <;> (intro z_b _ _ _; first | exact Bool.noConfusion z_b | replace z_b := of_decide_eq_true z_b | replace z_b := of_decide_eq_false z_b | skip) <;> (first | contradiction | (revert z_b; intros))) | ((apply q_alli) <;> (intro _ _ _ _; try contradiction)) | ((apply q_allv); intro _ _ _)) | ((apply Load1.mk); (focus ((repeat (first | (apply el_lo <;> first | assumption | omega) | (apply el_hi <;> first | assumption | omega) | apply bump_old | ((apply put_old); focus (dsimp only [aadd]; omega)) | ((apply quiet_old); (focus assumption); focus (dsimp only [aadd]; omega)) | ((apply same_old); (focus assumption); focus (dsimp only [aadd]; omega)))); done)); (focus exact byVal)) | fail)); all_goals (conv => whnf); all_goals (try with_reducible apply At.mk)))
        · have hev : T.ev p q Bool.false s t = T.hi s t := by
            unfold Tbl.ev Tbl.endv
            rw [if_neg (by omega)]
            rw [if_pos (by rw [← e2]; first | exact (decide_eq_true (by omega)).symm | exact (decide_eq_false (by omega)).symm)]
          refine OM.sto2 (p := ⟨A.M, G⟩) (b := h3.next + 7) (m := h4.next) (oX'.frame (Nat.le_refl _) fun r h1 h2 _ => rfl) (by show s < A.M.n; omega) (by show t < A.M.w s; omega) rfl (by omega) fun hx en es oZ => ?_
          have nx : h4.next ≤ hx.next := by rw [en]; (exact byOm)
          have smx : Same h3.next h3 hx := fun r hr => (es r (.inl (by omega))).trans (sm' r hr)
          have oYx : OM O2 B (h3.next + 7) h4.next hx := oY'.frame (Nat.le_refl _) fun r h1 h2 ho => (es r (.inr (.inr fun ho1 => hO r ho1 ho))).trans rfl
          (focus ((try with_reducible apply wpC.to); (repeat' ((conv => whnf); first | refine byEv ?_ | ((apply Fork.mk) <;> (intro _; try (exfalso; omega; done))) | ((apply q_call); (focus exact byNext); (focus exact byLo); (focus (exact kChartRg0)); first | ((apply q_allB) <;> (intro z_b _ _ _; first | exact Bool.noConfusion z_b | replace z_b := of_decide_eq_true z_b | replace z_b := of_decide_eq_false z_b | skip) <;> (first | contradiction | (revert z_b; intros))) | ((apply q_alli) <;> (intro _ _ _ _; try contradiction)) | ((apply q_allv); intro _ _ _)) | ((apply Load1.mk); (focus ((repeat (first | (apply el_lo <;> first | assumption | omega) | (apply el_hi <;> first | assumption | omega) | apply bump_old | ((apply put_old); focus (dsimp only [aadd]; omega)) | ((apply quiet_old); (focus assumption); focus (dsimp only [aadd]; omega)) | ((apply same_old); (focus assumption); focus (dsimp only [aadd]; omega)))); done)); (focus exact byVal)) | fail)); all_goals (conv => whnf); all_goals (try with_reducible apply At.mk)))
          refine hK' (t + 1, (Pul.upd ⟨A.M, G⟩ s t (B.f s t)).f) _ _ ⟨rfl, rfl, rfl, rfl, rfl, int_of rfl (by omega), trivial⟩ ⟨by (exact bySame), oZ.frame (Nat.le_refl _) fun r h1 h2 _ => rfl, oYx.frame (Nat.le_refl _) fun r h1 h2 _ => rfl, by (exact byOm), by dsimp only; omega, fun i k hi hk => ?_⟩ (by dsimp only; omega)
          show (if i = s then updN (G s) t (B.f s t) else G i) k = _
          by_cases ei : i = s
          · subst ei
            rw [if_pos rfl]
            show (if k = t then _ else G i k) = _
            by_cases ek : k = t
            · subst ek
              rw [if_pos rfl, if_pos (by dsimp only; omega), hev, bf]
            · rw [if_neg ek, hG i k hi hk]
              dsimp only
              by_cases e : k < t
              · rw [if_pos (by omega), if_pos (by omega)]
              · rw [if_neg (by omega), if_neg (by omega)]
          · rw [if_neg ei, hG i k hi hk]
            dsimp only
            by_cases e : i < s
            · rw [if_pos (by omega), if_pos (by omega)]
            · rw [if_neg (by omega), if_neg (by omega)]
        · refine stay ?_ _ _ ⟨rfl, rfl, rfl, rfl, rfl, rfl, trivial⟩ (fun r => rfl) (by (exact byOm))
          unfold Tbl.ev Tbl.endv
          by_cases ez : T.more p q s t = 0
          · rw [if_pos ez]
          · rw [if_neg ez, if_neg (by rw [← e2]; first | (rw [decide_eq_true (by omega)]; exact Bool.noConfusion) | (rw [decide_eq_false (by omega)]; exact Bool.noConfusion))]
      · (focus ((try with_reducible apply wpC.to); (repeat' ((conv => whnf); first | refine byEv ?_ | ((apply Fork.mk) <;> (intro _; try (exfalso; omega; done))) | ((apply q_call); (focus exact byNext); (focus exact byLo); (focus (exact kChartRg0)); first | ((apply q_allB) <;> (intro z_b _ _ _; first | exact Bool.noConfusion z_b | replace z_b := of_decide_eq_true z_b | replace z_b := of_decide_eq_false z_b | skip) <;> (first | contradiction | (revert z_b; intros))) | ((apply q_alli) <;> (intro _ _ _ _; try contradiction)) | ((apply q_allv); intro _ _ _)) | ((apply Load1.mk); (focus ((repeat (first | (apply el_lo <;> first | assumption | omega) | (apply el_hi <;> first | assumption | omega) | apply bump_old | ((apply put_old); focus (dsimp only [aadd]; omega)) | ((apply quiet_old); (focus assumption); focus (dsimp only [aadd]; omega)) | ((apply same_old); (focus assumption); focus (dsimp only [aadd]; omega)))); done)); (focus exact byVal)) | fail)); all_goals (conv => whnf); all_goals (try with_reducible apply At.mk)))
        · have hev : T.ev p q Bool.true s t = T.hi s t := by
            unfold Tbl.ev Tbl.endv
            rw [if_neg (by omega)]
            rw [if_pos (by rw [← e2]; first | exact (decide_eq_true (by omega)).symm | exact (decide_eq_false (by omega)).symm)]
          refine OM.sto2 (p := ⟨A.M, G⟩) (b := h3.next + 7) (m := h4.next) (oX'.frame (Nat.le_refl _) fun r h1 h2 _ => rfl) (by show s < A.M.n; omega) (by show t < A.M.w s; omega) rfl (by omega) fun hx en es oZ => ?_
          have nx : h4.next ≤ hx.next := by rw [en]; (exact byOm)
          have smx : Same h3.next h3 hx := fun r hr => (es r (.inl (by omega))).trans (sm' r hr)
          have oYx : OM O2 B (h3.next + 7) h4.next hx := oY'.frame (Nat.le_refl _) fun r h1 h2 ho => (es r (.inr (.inr fun ho1 => hO r ho1 ho))).trans rfl
          (focus ((try with_reducible apply wpC.to); (repeat' ((conv => whnf); first | refine byEv ?_ | ((apply Fork.mk) <;> (intro _; try (exfalso; omega; done))) | ((apply q_call); (focus exact byNext); (focus exact byLo); (focus (exact kChartRg0)); first | ((apply q_allB) <;> (intro z_b _ _ _; first | exact Bool.noConfusion z_b | replace z_b := of_decide_eq_true z_b | replace z_b := of_decide_eq_false z_b | skip) <;> (first | contradiction | (revert z_b; intros))) | ((apply q_alli) <;> (intro _ _ _ _; try contradiction)) | ((apply q_allv); intro _ _ _)) | ((apply Load1.mk); (focus ((repeat (first | (apply el_lo <;> first | assumption | omega) | (apply el_hi <;> first | assumption | omega) | apply bump_old | ((apply put_old); focus (dsimp only [aadd]; omega)) | ((apply quiet_old); (focus assumption); focus (dsimp only [aadd]; omega)) | ((apply same_old); (focus assumption); focus (dsimp only [aadd]; omega)))); done)); (focus exact byVal)) | fail)); all_goals (conv => whnf); all_goals (try with_reducible apply At.mk)))
          refine hK' (t + 1, (Pul.upd ⟨A.M, G⟩ s t (B.f s t)).f) _ _ ⟨rfl, rfl, rfl, rfl, rfl, int_of rfl (by omega), trivial⟩ ⟨by (exact bySame), oZ.frame (Nat.le_refl _) fun r h1 h2 _ => rfl, oYx.frame (Nat.le_refl _) fun r h1 h2 _ => rfl, by (exact byOm), by dsimp only; omega, fun i k hi hk => ?_⟩ (by dsimp only; omega)
          show (if i = s then updN (G s) t (B.f s t) else G i) k = _
          by_cases ei : i = s
          · subst ei
            rw [if_pos rfl]
            show (if k = t then _ else G i k) = _
            by_cases ek : k = t
            · subst ek
              rw [if_pos rfl, if_pos (by dsimp only; omega), hev, bf]
            · rw [if_neg ek, hG i k hi hk]
              dsimp only
              by_cases e : k < t
              · rw [if_pos (by omega), if_pos (by omega)]
              · rw [if_neg (by omega), if_neg (by omega)]
          · rw [if_neg ei, hG i k hi hk]
            dsimp only
            by_cases e : i < s
            · rw [if_pos (by omega), if_pos (by omega)]
            · rw [if_neg (by omega), if_neg (by omega)]
        · refine stay ?_ _ _ ⟨rfl, rfl, rfl, rfl, rfl, rfl, trivial⟩ (fun r => rfl) (by (exact byOm))
          unfold Tbl.ev Tbl.endv
          by_cases ez : T.more p q s t = 0
          · rw [if_pos ez]
          · rw [if_neg ez, if_neg (by rw [← e2]; first | (rw [decide_eq_true (by omega)]; exact Bool.noConfusion) | (rw [decide_eq_false (by omega)]; exact Bool.noConfusion))]
    · obtain rfl : t = T.A.n := by omega
      (focus ((try with_reducible apply wpC.to); (repeat' ((conv => whnf); first | refine byEv ?_ | ((apply Fork.mk) <;> (intro _; try (exfalso; omega; done))) | ((apply q_call); (focus exact byNext); (focus exact byLo); (focus (exact kChartRg0)); first | ((apply q_allB) <;> (intro z_b _ _ _; first | exact Bool.noConfusion z_b | replace z_b := of_decide_eq_true z_b | replace z_b := of_decide_eq_false z_b | skip) <;> (first | contradiction | (revert z_b; intros))) | ((apply q_alli) <;> (intro _ _ _ _; try contradiction)) | ((apply q_allv); intro _ _ _)) | ((apply Load1.mk); (focus ((repeat (first | (apply el_lo <;> first | assumption | omega) | (apply el_hi <;> first | assumption | omega) | apply bump_old | ((apply put_old); focus (dsimp only [aadd]; omega)) | ((apply quiet_old); (focus assumption); focus (dsimp only [aadd]; omega)) | ((apply same_old); (focus assumption); focus (dsimp only [aadd]; omega)))); done)); (focus exact byVal)) | fail)); all_goals (conv => whnf); all_goals (try with_reducible apply At.mk)))
      refine hK (s + 1, G) _ _ ⟨rfl, rfl, rfl, rfl, int_of rfl (by omega), trivial⟩ ⟨by (exact bySame), oX'.frame (Nat.le_refl _) fun r h1 h2 _ => rfl, oY'.frame (Nat.le_refl _) fun r h1 h2 _ => rfl, by (exact byOm), by dsimp only; omega, fun i k hi hk => ?_⟩ (by dsimp only; omega)
      dsimp only
      rw [hG i k hi hk]
      by_cases e : i < s + 1
      · rw [if_pos e, if_pos (by omega)]
      · rw [if_neg e, if_neg (by omega)]
  · obtain rfl : s = T.P.n := by omega
    (focus ((try with_reducible apply wpC.to); (repeat' ((conv => whnf); first | refine byEv ?_ | ((apply Fork.mk) <;> (intro _; try (exfalso; omega; done))) | ((apply q_call); (focus exact byNext); (focus exact byLo); (focus (exact kChartRg0)); first | ((apply q_allB) <;> (intro z_b _ _ _; first | exact Bool.noConfusion z_b | replace z_b := of_decide_eq_true z_b | replace z_b := of_decide_eq_false z_b | skip) <;> (first | contradiction | (revert z_b; intros))) | ((apply q_alli) <;> (intro _ _ _ _; try contradiction)) | ((apply q_allv); intro _ _ _)) | ((apply Load1.mk); (focus ((repeat (first | (apply el_lo <;> first | assumption | omega) | (apply el_hi <;> first | assumption | omega) | apply bump_old | ((apply put_old); focus (dsimp only [aadd]; omega)) | ((apply quiet_old); (focus assumption); focus (dsimp only [aadd]; omega)) | ((apply same_old); (focus assumption); focus (dsimp only [aadd]; omega)))); done)); (focus exact byVal)) | fail)); all_goals (conv => whnf); all_goals (try with_reducible apply At.mk)))
    (refine byFin ?_)
    exact ⟨⟨A.M, F⟩, rfl, oX.ok.same (Same.refl _ _) (by (exact byOm)), fun h => absurd rfl h, fun _ => ⟨an, aw, fun i k hi hk => by show F i k = _; rw [hF i k hi hk, if_pos hi]⟩⟩
end AE.Try
