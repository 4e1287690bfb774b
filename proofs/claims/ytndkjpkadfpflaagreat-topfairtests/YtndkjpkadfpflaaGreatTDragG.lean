/- Walks of drag and its reference: the coefficient of a ship. -/
import Derived.Test.YtndkjpkadfpflaaGreatTDragF
set_option linter.unusedVariables false
set_option linter.unusedSimpArgs false
set_option linter.unusedSectionVars false
namespace AE.Tryz
open Go AE AE.Drag Go.Proofs
set_option maxRecDepth 100000
theorem kTDragG0 {G : Prop} (g : G := by ((apply coef1_w; rotate_left; (focus (apply Line.Ok.same; (focus assumption); (focus exact bySame); (focus exact Nat.le_refl _))); (focus assumption); (focus assumption); (focus assumption); (focus exact byGet); (focus exact byGet); (focus exact byOm)))) : G := g
set_option maxHeartbeats 1000000 in
theorem coef_w {h : H} {t : T} {L : Line} {x : X} {m : Nat} (hm : m ≤ h.next) (k : t.Ok) (hL : L.Ok m h) (v : Valid L) (hb : x.Bd) (i1 : inside L (modelRe t x.tank)) (i2 : inside L (shipRe t x.sea)) :
    AW Tryz.prog 73 h.next h [.agg ⟨t.cells⟩, .agg ⟨L.cells⟩, .agg ⟨x.cells⟩] (fun w _ => w = .int .i64 (coef t L x)) := by
  obtain ⟨p1, p2, p3, p4, p5, p6, p7, p8, q1, q2, q3, q4⟩ := k.prod
  have hb' := hb
  obtain ⟨b1, b2, b3, b4, b5, b6, b7, b8, b9, b10⟩ := hb'
  obtain ⟨m0, m1, m2, c0, c1, f0, f1, g0, g1⟩ := parts_of k hb (fric_bd v i1) (fric_bd v i2)
  unfold measured at m1 m2 c0 c1
  refine fun73.call rfl (Nat.le_refl _) ?_
  unfold a73
  (focus ((try with_reducible apply wpC.to); (repeat' ((conv => whnf); first | refine byEv ?_ | ((apply q_call); (focus exact byNext); (focus exact byLo); (focus (first | exact kTDragG0 | exact kTDragF5 | exact kTDragF4 | exact kTDragF1 | exact kTDragF0 | exact kTDragD0 | exact kTDragC7)); first | ((apply q_allB) <;> (intro z_b _ _ _; first | exact Bool.noConfusion z_b | replace z_b := of_decide_eq_true z_b | replace z_b := of_decide_eq_false z_b | skip) <;> ((try simp only [AllOk, Bd.ok, and_true] at z_b); first | contradiction | (revert z_b; intros))) | ((apply q_alli) <;> intro _ _ _ _ <;> try contradiction) | (apply q_allv; intro _ _ _)) | fail)); all_goals ((conv => whnf); try with_reducible apply At.mk)))
  all_goals ((refine byFin ?_); rfl)
theorem kTDragG1 {G : Prop} (g : G := by ((apply AW.arg123; (focus (apply coef_w; rotate_left; (focus assumption); (focus (apply Line.Ok.same; (focus assumption); (focus exact bySame); (focus exact Nat.le_refl _))); (focus assumption); (focus assumption); (focus assumption); (focus assumption); (focus exact byOm))); (focus exact Is.rfl); (focus exact Is.rfl); (focus exact Is.rfl)))) : G := g
theorem kTDragG2 {G : Prop} (g : G := by ((apply AW.arg123; (focus (apply refShip_w; rotate_left; (focus assumption); (focus (apply Line.Ok.same; (focus assumption); (focus exact bySame); (focus exact Nat.le_refl _))); (focus assumption); (focus assumption); (focus exact byOm))); (focus exact Is.rfl); (focus exact Is.rfl); (focus exact Is.rfl)))) : G := g
set_option maxHeartbeats 2000000 in
theorem ship_api {h : H} {t : T} {L : Line} {x : X} {m : Nat} (hm : m ≤ h.next) (kt : Known t) (hL : L.Ok m h) (kx : Known x) :
    AW Tryz.prog 28 h.next h [.agg ⟨t.cells⟩, .agg ⟨L.cells⟩, .agg ⟨x.cells⟩] (fun w _ => w = .tuple #[.int .i64 (shipR t L x).1, .int .i64 (shipR t L x).2]) := by
  refine fun28.call rfl (Nat.le_refl _) ?_
  unfold a28 shipR
  by_cases he : testErr t ≠ 0
  · rw [if_pos he]
    (focus ((try with_reducible apply wpC.to); (repeat' ((conv => whnf); first | refine byEv ?_ | (apply Fork.mk <;> (intro _; try (exfalso; omega))) | ((apply q_call); (focus exact byNext); (focus exact byLo); (focus (first | exact kTDragG2 | exact kTDragG1 | exact kTDragF5 | exact kTDragF4 | exact kTDragF1 | exact kTDragF0 | exact kTDragE0 | exact kTDragD0 | exact kTDragC5 | exact kTDragB1 | exact kTDragB0 | exact kTDragA2)); first | ((apply q_allB) <;> (intro z_b _ _ _; first | exact Bool.noConfusion z_b | replace z_b := of_decide_eq_true z_b | replace z_b := of_decide_eq_false z_b | skip) <;> ((try simp only [AllOk, Bd.ok, and_true] at z_b); first | contradiction | (revert z_b; intros))) | ((apply q_alli) <;> intro _ _ _ _ <;> try contradiction) | (apply q_allv; intro _ _ _)) | (apply q_call; (focus exact byNext); (focus omega); (focus exact bounds_w); rintro _ z_h1 ⟨z_r, z_e, z_hr1, z_hr2, z_hg⟩ z_q z_hn; subst z_e; (try simp only [put_next, bump_next] at z_hr1); revert z_hn z_q z_hg z_hr2 z_hr1 z_r z_h1; intros) | fail)); all_goals ((conv => whnf); try with_reducible apply At.mk)))
    all_goals ((refine byFin ?_); rfl)
  rw [if_neg he]
  have k := testErr_ok.1 (by omega : testErr t = 0)
  by_cases hl : lineErr L ≠ 0
  · rw [if_pos hl]
    (focus ((try with_reducible apply wpC.to); (repeat' ((conv => whnf); first | refine byEv ?_ | (apply Fork.mk <;> (intro _; try (exfalso; omega))) | ((apply q_call); (focus exact byNext); (focus exact byLo); (focus (first | exact kTDragG2 | exact kTDragG1 | exact kTDragF5 | exact kTDragF4 | exact kTDragF1 | exact kTDragF0 | exact kTDragE0 | exact kTDragD0 | exact kTDragC5 | exact kTDragB1 | exact kTDragB0 | exact kTDragA2)); first | ((apply q_allB) <;> (intro z_b _ _ _; first | exact Bool.noConfusion z_b | replace z_b := of_decide_eq_true z_b | replace z_b := of_decide_eq_false z_b | skip) <;> ((try simp only [AllOk, Bd.ok, and_true] at z_b); first | contradiction | (revert z_b; intros))) | ((apply q_alli) <;> intro _ _ _ _ <;> try contradiction) | (apply q_allv; intro _ _ _)) | (apply q_call; (focus exact byNext); (focus omega); (focus exact bounds_w); rintro _ z_h1 ⟨z_r, z_e, z_hr1, z_hr2, z_hg⟩ z_q z_hn; subst z_e; (try simp only [put_next, bump_next] at z_hr1); revert z_hn z_q z_hg z_hr2 z_hr1 z_r z_h1; intros) | fail)); all_goals ((conv => whnf); try with_reducible apply At.mk)))
    all_goals ((refine byFin ?_); rfl)
  rw [if_neg hl]
  have v := lineErr_valid.1 (by omega : lineErr L = 0)
  have hlo := v.lo
  by_cases hx : IsTrue t x
  · have hb := hx.bd k
    have hb' := hb
    obtain ⟨b1, b2, b3, b4, b5, b6, b7, b8, b9, b10⟩ := hb'
    have hx' := hx
    obtain ⟨x1, x2, x3, x4, x5, x6, x7, x8, x9, x10, x11, x12⟩ := hx'
    rw [if_neg (fun c => c hx)]
    by_cases hbo : both t L x
    · have hbo' := hbo
      obtain ⟨i1, i2⟩ := hbo'
      have j1 := i1; have j2 := i2
      unfold inside at j1 j2
      rw [if_pos hbo]
      (focus ((try with_reducible apply wpC.to); (repeat' ((conv => whnf); first | refine byEv ?_ | (apply Fork.mk <;> (intro _; try (exfalso; omega))) | ((apply q_call); (focus exact byNext); (focus exact byLo); (focus (first | exact kTDragG2 | exact kTDragG1 | exact kTDragF5 | exact kTDragF4 | exact kTDragF1 | exact kTDragF0 | exact kTDragE0 | exact kTDragD0 | exact kTDragC5 | exact kTDragB1 | exact kTDragB0 | exact kTDragA2)); first | ((apply q_allB) <;> (intro z_b _ _ _; first | exact Bool.noConfusion z_b | replace z_b := of_decide_eq_true z_b | replace z_b := of_decide_eq_false z_b | skip) <;> ((try simp only [AllOk, Bd.ok, and_true] at z_b); first | contradiction | (revert z_b; intros))) | ((apply q_alli) <;> intro _ _ _ _ <;> try contradiction) | (apply q_allv; intro _ _ _)) | (apply q_call; (focus exact byNext); (focus omega); (focus exact bounds_w); rintro _ z_h1 ⟨z_r, z_e, z_hr1, z_hr2, z_hg⟩ z_q z_hn; subst z_e; (try simp only [put_next, bump_next] at z_hr1); revert z_hn z_q z_hg z_hr2 z_hr1 z_r z_h1; intros) | fail)); all_goals ((conv => whnf); try with_reducible apply At.mk)))
      all_goals first
        | omega
        | contradiction
        | ((refine byFin ?_); rfl)
    · have hbo' := hbo
      unfold both inside at hbo'
      rw [if_neg hbo]
      (focus ((try with_reducible apply wpC.to); (repeat' ((conv => whnf); first | refine byEv ?_ | (apply Fork.mk <;> (intro _; try (exfalso; omega))) | ((apply q_call); (focus exact byNext); (focus exact byLo); (focus (first | exact kTDragG2 | exact kTDragG1 | exact kTDragF5 | exact kTDragF4 | exact kTDragF1 | exact kTDragF0 | exact kTDragE0 | exact kTDragD0 | exact kTDragC5 | exact kTDragB1 | exact kTDragB0 | exact kTDragA2)); first | ((apply q_allB) <;> (intro z_b _ _ _; first | exact Bool.noConfusion z_b | replace z_b := of_decide_eq_true z_b | replace z_b := of_decide_eq_false z_b | skip) <;> ((try simp only [AllOk, Bd.ok, and_true] at z_b); first | contradiction | (revert z_b; intros))) | ((apply q_alli) <;> intro _ _ _ _ <;> try contradiction) | (apply q_allv; intro _ _ _)) | (apply q_call; (focus exact byNext); (focus omega); (focus exact bounds_w); rintro _ z_h1 ⟨z_r, z_e, z_hr1, z_hr2, z_hg⟩ z_q z_hn; subst z_e; (try simp only [put_next, bump_next] at z_hr1); revert z_hn z_q z_hg z_hr2 z_hr1 z_r z_h1; intros) | fail)); all_goals ((conv => whnf); try with_reducible apply At.mk)))
      all_goals first
        | omega
        | contradiction
        | ((refine byFin ?_); rfl)
  · rw [if_pos hx]
    (focus ((try with_reducible apply wpC.to); (repeat' ((conv => whnf); first | refine byEv ?_ | (apply Fork.mk <;> (intro _; try (exfalso; omega))) | ((apply q_call); (focus exact byNext); (focus exact byLo); (focus (first | exact kTDragG2 | exact kTDragG1 | exact kTDragF5 | exact kTDragF4 | exact kTDragF1 | exact kTDragF0 | exact kTDragE0 | exact kTDragD0 | exact kTDragC5 | exact kTDragB1 | exact kTDragB0 | exact kTDragA2)); first | ((apply q_allB) <;> (intro z_b _ _ _; first | exact Bool.noConfusion z_b | replace z_b := of_decide_eq_true z_b | replace z_b := of_decide_eq_false z_b | skip) <;> ((try simp only [AllOk, Bd.ok, and_true] at z_b); first | contradiction | (revert z_b; intros))) | ((apply q_alli) <;> intro _ _ _ _ <;> try contradiction) | (apply q_allv; intro _ _ _)) | (apply q_call; (focus exact byNext); (focus omega); (focus exact bounds_w); rintro _ z_h1 ⟨z_r, z_e, z_hr1, z_hr2, z_hg⟩ z_q z_hn; subst z_e; (try simp only [put_next, bump_next] at z_hr1); revert z_hn z_q z_hg z_hr2 z_hr1 z_r z_h1; intros) | fail)); all_goals ((conv => whnf); try with_reducible apply At.mk)))
    all_goals first
      | (exfalso; apply hx; constructor <;> omega)
      | contradiction
      | ((refine byFin ?_); rfl)
end AE.Tryz
