/- Walks of drag and its reference: the ends of a span. -/
import Derived.Test.YtndkjpkadfpflaaGreatTDragI
set_option linter.unusedVariables false
set_option linter.unusedSimpArgs false
set_option linter.unusedSectionVars false
namespace AE.Tryz
open Go AE AE.Drag Go.Proofs
set_option maxRecDepth 100000


def BestHigh (t : T) (S : Lines) (s : Nat) (f : Int) (bi : Int) (bx : X) (bn : Int) : Prop :=
  (bi = -1 ∧ bx = ⟨0, 0, 0, 0, 0, 0⟩ ∧ bn = 0 ∧ s = 0 ∧ f = t.ml) ∨
  ∃ (i : Nat) (f' : Int), bi = i ∧ i < S.k ∧ t.ml ≤ f' ∧ f' ≤ t.mh ∧ bx = highX t f' ∧ bn = coef t (S.ln i) (highX t f') ∧ (-200000 ≤ coef t (S.ln i) (highX t f') ∧ coef t (S.ln i) (highX t f') ≤ 1000202000) ∧
    (∀ j, j < s → ∀ f2, t.ml ≤ f2 → f2 ≤ t.mh → coef t (S.ln j) (highX t f2) ≤ coef t (S.ln i) (highX t f')) ∧ (∀ f2, t.ml ≤ f2 → f2 < f → coef t (S.ln s) (highX t f2) ≤ coef t (S.ln i) (highX t f'))

set_option maxHeartbeats 4000000 in
theorem end_high {h : H} {t : T} {S : Lines} {m : Nat} (hm : m ≤ h.next) (hS : S.Ok m h) (F : Fine t S) : AW Tryz.prog 66 h.next h [.agg ⟨t.cells⟩, .slice S.b S.k S.c, .int .i64 (1)]
    (fun w _ => ∃ (i : Nat) (f : Int), i < S.k ∧ t.ml ≤ f ∧ f ≤ t.mh ∧ w = .agg ⟨fCells i (highX t f) (coef t (S.ln i) (highX t f))⟩ ∧ ∀ c, HighC t S c → c ≤ coef t (S.ln i) (highX t f)) := by
  obtain ⟨e1, i1, r1, ok, l1⟩ := hS
  obtain ⟨k, sv, rk⟩ := F
  have hk1 := sv.lo
  have hm1 := k.m1; have hm2 := k.m2; have hm3 := k.m3
  refine fun66.call rfl (Nat.le_refl _) ?_
  unfold a66
  (focus ((try with_reducible apply wpC.to); (repeat' ((conv => whnf); first | refine byEv ?_ | (apply Fork.mk <;> (intro _; try (exfalso; omega))) | ((apply q_call); (focus exact byNext); (focus exact byLo); (focus (first | exact kTDragG2 | exact kTDragG1 | exact kTDragF5 | exact kTDragF4 | exact kTDragD0)); first | ((apply q_allB) <;> (intro z_b _ _ _; first | exact Bool.noConfusion z_b | replace z_b := of_decide_eq_true z_b | replace z_b := of_decide_eq_false z_b | skip) <;> ((try simp only [AllOk, Bd.ok, and_true] at z_b); first | contradiction | (revert z_b; intros))) | ((apply q_alli) <;> intro _ _ _ _ <;> try contradiction) | (apply q_allv; intro _ _ _)) | fail)); all_goals ((conv => whnf); try with_reducible apply At.mk)))
  refine wp_loop (fun s : Nat => [(1, .slice S.b S.k S.c), (2, .int .i64 (1)), (3, .pointer (some ⟨h.next + 0, 0, none⟩)), (6, .pointer (some ⟨h.next + 1, 0, none⟩)), (8, .pointer (some ⟨h.next + 52, 0, none⟩)), (9, .pointer (some ⟨h.next + 55, 0, none⟩)), (10, .pointer (some ⟨h.next + 58, 0, none⟩)), (64, .slice S.b S.k S.c), (65, .int .i64 S.k), (66, .int .i64 s)])
    (fun s h1 => h1.get (h.next + 0) = some (.cells t.cells 115) ∧ h1.get (h.next + 1) = some (.cells (fCells 0 ⟨0, 0, 0, 0, 0, 0⟩ 0) 119) ∧ (∃ f, h1.get (h.next + 52) = some (.cells (highX t f).cells 77)) ∧ h1.get (h.next + 55) = some (.cells (fCells (-1) ⟨0, 0, 0, 0, 0, 0⟩ 0) 119) ∧
      (∃ bi bx bn, h1.get (h.next + 58) = some (.cells (fCells bi bx bn) 119) ∧ BestHigh t S s t.ml bi bx bn) ∧ Same m h h1 ∧ h.next + 58 < h1.next ∧ s ≤ S.k) (fun s => S.k - s) 0
    ⟨rfl, rfl, rfl, rfl, rfl, rfl, rfl, rfl, rfl, rfl, trivial⟩ ⟨byGet, byGet, ⟨0, byGet⟩, byGet, ⟨-1, ⟨0, 0, 0, 0, 0, 0⟩, 0, byGet, .inl ⟨rfl, rfl, rfl, rfl, rfl⟩⟩, bySame, byOm, by omega⟩ ?_
  rintro s g h1 ⟨g1, g2, ⟨f0, g3⟩, g4, ⟨bi, bx, bn, g5, hbest⟩, q, hn1, hs⟩ K hK
  unfold T.cells at g1
  unfold fCells at g4 g5
  unfold X.cells at g3
  by_cases hsk : s < S.k
  · have hL := ok s hsk
    have hv := sv.v s hsk
    (focus ((try with_reducible apply wpC.to); (repeat' ((conv => whnf); first | refine byEv ?_ | (apply Fork.mk <;> (intro _; try (exfalso; omega))) | ((apply q_call); (focus exact byNext); (focus exact byLo); (focus (first | exact kTDragG2 | exact kTDragG1 | exact kTDragF5 | exact kTDragF4 | exact kTDragD0)); first | ((apply q_allB) <;> (intro z_b _ _ _; first | exact Bool.noConfusion z_b | replace z_b := of_decide_eq_true z_b | replace z_b := of_decide_eq_false z_b | skip) <;> ((try simp only [AllOk, Bd.ok, and_true] at z_b); first | contradiction | (revert z_b; intros))) | ((apply q_alli) <;> intro _ _ _ _ <;> try contradiction) | (apply q_allv; intro _ _ _)) | fail)); all_goals ((conv => whnf); try with_reducible apply At.mk)))
    refine wp_loop (fun _ : Int => [(1, .slice S.b S.k S.c), (2, .int .i64 (1)), (3, .pointer (some ⟨h.next + 0, 0, none⟩)), (6, .pointer (some ⟨h.next + 1, 0, none⟩)), (8, .pointer (some ⟨h.next + 52, 0, none⟩)), (9, .pointer (some ⟨h.next + 55, 0, none⟩)), (10, .pointer (some ⟨h.next + 58, 0, none⟩)), (11, .int .i64 s), (12, .pointer (some ⟨h1.next + 4, 0, none⟩)), (64, .slice S.b S.k S.c), (65, .int .i64 S.k), (66, .int .i64 s)])
      (fun f h2 => h2.get (h.next + 0) = some (.cells t.cells 115) ∧ h2.get (h.next + 1) = some (.cells (fCells 0 ⟨0, 0, 0, 0, 0, 0⟩ 0) 119) ∧ h2.get (h.next + 52) = some (.cells (highX t f).cells 77) ∧ h2.get (h.next + 55) = some (.cells (fCells (-1) ⟨0, 0, 0, 0, 0, 0⟩ 0) 119) ∧
        (∃ bi bx bn, h2.get (h.next + 58) = some (.cells (fCells bi bx bn) 119) ∧ BestHigh t S s f bi bx bn) ∧ Same m h h2 ∧ h2.get (h1.next + 4) = some (.cells (S.ln s).cells 59) ∧ h1.next + 4 < h2.next ∧ t.ml ≤ f ∧ f ≤ t.mh + 1) (fun f => (t.mh + 1 - f).toNat) t.ml
      ⟨rfl, rfl, rfl, rfl, rfl, rfl, rfl, rfl, rfl, rfl, rfl, rfl, trivial⟩ ⟨byGet, byGet, byGet, byGet, ⟨bi, bx, bn, byGet, hbest⟩, bySame, byGet, byOm, by omega, by omega⟩ ?_
    clear g1 g2 g3 g4 g5 hbest
    rintro f g h2 ⟨g1, g2, g3, g4, ⟨bi, bx, bn, g5, hbest⟩, q2, g6, hn2, hf1, hf2⟩ K2 hK2
    unfold T.cells at g1
    unfold fCells at g4 g5
    unfold X.cells at g3
    unfold Line.cells at g6
    have hform : (highX t f).form = f := rfl
    by_cases hf : f ≤ t.mh
    · have hit : IsTrue t (highX t f) := ⟨k.f2, Int.le_refl _, Int.le_refl _, k.t2, k.e2, Int.le_refl _, hf1, hf, Int.le_refl _, k.b2, k.r2, Int.le_refl _⟩
      have hb : (highX t f).Bd := hit.bd k
      have hbo : both t (S.ln s) (highX t f) := both_of k (rk s hsk) hit.t1 hit.t2 hit.e1 hit.e2
      have hi1 : inside (S.ln s) (modelRe t (highX t f).tank) := hbo.1
      have hi2 : inside (S.ln s) (shipRe t (highX t f).sea) := hbo.2
      have hcb := coefOf_bd k hb (fric_bd hv hi1) (fric_bd hv hi2)
      have hcb' : -200000 ≤ coef t (S.ln s) (highX t f) ∧ coef t (S.ln s) (highX t f) ≤ 1000202000 := hcb
      rcases hbest with ⟨rfl, rfl, rfl, hs0, hf0⟩ | ⟨i, f', rfl, hi, hf3, hf4, rfl, rfl, hbd, hb1, hb2⟩
      · (focus ((try with_reducible apply wpC.to); (repeat' ((conv => whnf); first | refine byEv ?_ | (apply Fork.mk <;> (intro _; try (exfalso; omega))) | ((apply q_call); (focus exact byNext); (focus exact byLo); (focus (first | exact kTDragG2 | exact kTDragG1 | exact kTDragF5 | exact kTDragF4 | exact kTDragD0)); first | ((apply q_allB) <;> (intro z_b _ _ _; first | exact Bool.noConfusion z_b | replace z_b := of_decide_eq_true z_b | replace z_b := of_decide_eq_false z_b | skip) <;> ((try simp only [AllOk, Bd.ok, and_true] at z_b); first | contradiction | (revert z_b; intros))) | ((apply q_alli) <;> intro _ _ _ _ <;> try contradiction) | (apply q_allv; intro _ _ _)) | fail)); all_goals ((conv => whnf); try with_reducible apply At.mk)))
        refine OpE.pure (.bool true) (by kernel_rfl) ?_
        (focus ((try with_reducible apply wpC.to); (repeat' ((conv => whnf); first | refine byEv ?_ | (apply Fork.mk <;> (intro _; try (exfalso; omega))) | ((apply q_call); (focus exact byNext); (focus exact byLo); (focus (first | exact kTDragG2 | exact kTDragG1 | exact kTDragF5 | exact kTDragF4 | exact kTDragD0)); first | ((apply q_allB) <;> (intro z_b _ _ _; first | exact Bool.noConfusion z_b | replace z_b := of_decide_eq_true z_b | replace z_b := of_decide_eq_false z_b | skip) <;> ((try simp only [AllOk, Bd.ok, and_true] at z_b); first | contradiction | (revert z_b; intros))) | ((apply q_alli) <;> intro _ _ _ _ <;> try contradiction) | (apply q_allv; intro _ _ _)) | fail)); all_goals ((conv => whnf); try with_reducible apply At.mk)))
        refine hK2 (f + 1) _ _ ⟨rfl, rfl, rfl, rfl, rfl, rfl, rfl, rfl, rfl, rfl, rfl, rfl, trivial⟩ ⟨byGet, byGet, byGet, byGet, ⟨s, highX t f, coef t (S.ln s) (highX t f), byGet, .inr ⟨s, f, rfl, hsk, hf1, hf, rfl, rfl, hcb', fun j hj => by omega, fun f2 h3 h4 => ?_⟩⟩, bySame, byGet, byOm, by omega, by omega⟩ (by omega)
        have : f2 = f := by omega
        subst this
        exact Int.le_refl _
      · (focus ((try with_reducible apply wpC.to); (repeat' ((conv => whnf); first | refine byEv ?_ | (apply Fork.mk <;> (intro _; try (exfalso; omega))) | ((apply q_call); (focus exact byNext); (focus exact byLo); (focus (first | exact kTDragG2 | exact kTDragG1 | exact kTDragF5 | exact kTDragF4 | exact kTDragD0)); first | ((apply q_allB) <;> (intro z_b _ _ _; first | exact Bool.noConfusion z_b | replace z_b := of_decide_eq_true z_b | replace z_b := of_decide_eq_false z_b | skip) <;> ((try simp only [AllOk, Bd.ok, and_true] at z_b); first | contradiction | (revert z_b; intros))) | ((apply q_alli) <;> intro _ _ _ _ <;> try contradiction) | (apply q_allv; intro _ _ _)) | fail)); all_goals ((conv => whnf); try with_reducible apply At.mk)))
        refine OpE.pure (.bool false) (by kernel_rfl) ?_
        (focus ((try with_reducible apply wpC.to); (repeat' ((conv => whnf); first | refine byEv ?_ | (apply Fork.mk <;> (intro _; try (exfalso; omega))) | ((apply q_call); (focus exact byNext); (focus exact byLo); (focus (first | exact kTDragG2 | exact kTDragG1 | exact kTDragF5 | exact kTDragF4 | exact kTDragD0)); first | ((apply q_allB) <;> (intro z_b _ _ _; first | exact Bool.noConfusion z_b | replace z_b := of_decide_eq_true z_b | replace z_b := of_decide_eq_false z_b | skip) <;> ((try simp only [AllOk, Bd.ok, and_true] at z_b); first | contradiction | (revert z_b; intros))) | ((apply q_alli) <;> intro _ _ _ _ <;> try contradiction) | (apply q_allv; intro _ _ _)) | fail)); all_goals ((conv => whnf); try with_reducible apply At.mk)))
        · refine hK2 (f + 1) _ _ ⟨rfl, rfl, rfl, rfl, rfl, rfl, rfl, rfl, rfl, rfl, rfl, rfl, trivial⟩ ⟨byGet, byGet, byGet, byGet, ⟨s, highX t f, coef t (S.ln s) (highX t f), byGet, .inr ⟨s, f, rfl, hsk, hf1, hf, rfl, rfl, hcb', fun j hj f2 h3 h4 => ?_, fun f2 h3 h4 => ?_⟩⟩, bySame, byGet, byOm, by omega, by omega⟩ (by omega)
          · have := hb1 j hj f2 h3 h4; omega
          · by_cases e : f2 = f
            · subst e; omega
            · have := hb2 f2 h3 (by omega); omega
        · refine hK2 (f + 1) _ _ ⟨rfl, rfl, rfl, rfl, rfl, rfl, rfl, rfl, rfl, rfl, rfl, rfl, trivial⟩ ⟨byGet, byGet, byGet, byGet, ⟨i, highX t f', coef t (S.ln i) (highX t f'), byGet, .inr ⟨i, f', rfl, hi, hf3, hf4, rfl, rfl, hbd, hb1, fun f2 h3 h4 => ?_⟩⟩, bySame, byGet, byOm, by omega, by omega⟩ (by omega)
          by_cases e : f2 = f
          · subst e; omega
          · exact hb2 f2 h3 (by omega)
    · have hfe : f = t.mh + 1 := by omega
      subst hfe
      (focus ((try with_reducible apply wpC.to); (repeat' ((conv => whnf); first | refine byEv ?_ | (apply Fork.mk <;> (intro _; try (exfalso; omega))) | ((apply q_call); (focus exact byNext); (focus exact byLo); (focus (first | exact kTDragG2 | exact kTDragG1 | exact kTDragF5 | exact kTDragF4 | exact kTDragD0)); first | ((apply q_allB) <;> (intro z_b _ _ _; first | exact Bool.noConfusion z_b | replace z_b := of_decide_eq_true z_b | replace z_b := of_decide_eq_false z_b | skip) <;> ((try simp only [AllOk, Bd.ok, and_true] at z_b); first | contradiction | (revert z_b; intros))) | ((apply q_alli) <;> intro _ _ _ _ <;> try contradiction) | (apply q_allv; intro _ _ _)) | fail)); all_goals ((conv => whnf); try with_reducible apply At.mk)))
      refine hK (s + 1) _ _ ⟨rfl, rfl, rfl, rfl, rfl, rfl, rfl, rfl, rfl, int_of rfl (by omega), trivial⟩ ⟨byGet, byGet, ⟨_, byGet⟩, byGet, ⟨bi, bx, bn, byGet, ?_⟩, bySame, byOm, by omega⟩ (by omega)
      rcases hbest with ⟨rfl, rfl, rfl, hs0, hf0⟩ | ⟨i, f', rfl, hi, hf3, hf4, rfl, rfl, hbd, hb1, hb2⟩
      · omega
      · refine .inr ⟨i, f', rfl, hi, hf3, hf4, rfl, rfl, hbd, fun j hj f2 h3 h4 => ?_, fun f2 h3 h4 => by omega⟩
        by_cases e : j = s
        · subst e; exact hb2 f2 h3 (by omega)
        · exact hb1 j (by omega) f2 h3 h4
  · have : s = S.k := by omega
    subst this
    rcases hbest with ⟨rfl, rfl, rfl, hs0, hf0⟩ | ⟨i, f', rfl, hi, hf3, hf4, rfl, rfl, hbd, hb1, hb2⟩
    · omega
    unfold fCells at g2
    (focus ((try with_reducible apply wpC.to); (repeat' ((conv => whnf); first | refine byEv ?_ | (apply Fork.mk <;> (intro _; try (exfalso; omega))) | ((apply q_call); (focus exact byNext); (focus exact byLo); (focus (first | exact kTDragG2 | exact kTDragG1 | exact kTDragF5 | exact kTDragF4 | exact kTDragD0)); first | ((apply q_allB) <;> (intro z_b _ _ _; first | exact Bool.noConfusion z_b | replace z_b := of_decide_eq_true z_b | replace z_b := of_decide_eq_false z_b | skip) <;> ((try simp only [AllOk, Bd.ok, and_true] at z_b); first | contradiction | (revert z_b; intros))) | ((apply q_alli) <;> intro _ _ _ _ <;> try contradiction) | (apply q_allv; intro _ _ _)) | fail)); all_goals ((conv => whnf); try with_reducible apply At.mk)))
    (refine byFin ?_)
    refine ⟨i, f', hi, hf3, hf4, rfl, ?_⟩
    rintro c ⟨j, hj, f2, h3, h4, rfl⟩
    exact hb1 j hj f2 h3 h4
end AE.Tryz
