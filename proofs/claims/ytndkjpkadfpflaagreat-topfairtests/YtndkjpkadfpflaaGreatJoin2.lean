/- Walks and plain laws: TDragK, DragSpec6. -/
import Derived.Test.YtndkjpkadfpflaaGreatTDragJ
import Derived.Test.YtndkjpkadfpflaaGreatDragSpec
set_option linter.unusedVariables false
set_option linter.unusedSimpArgs false
set_option linter.unusedSectionVars false

/- Walks of drag: Span. -/
namespace AE.Tryz
open Go AE AE.Drag Go.Proofs
set_option maxRecDepth 100000

noncomputable def spanV (t : T) (S : Lines) : Value := .tuple #[.agg ⟨[.int .i64 (if spanErr t S = 0 then spanLo t S else 0), .int .i64 (if spanErr t S = 0 then spanHi t S else 0)]⟩, .int .i64 (spanErr t S)]
set_option maxHeartbeats 1000000 in
theorem span_w {h : H} {t : T} {S : Lines} {m : Nat} (hm : m ≤ h.next) (kn : Known t) (hS : S.Ok m h) : AW Tryz.prog 27 h.next h [.agg ⟨t.cells⟩, .slice S.b S.k S.c] (fun w _ => w = spanV t S) := by
  refine fun27.call rfl (Nat.le_refl _) ?_
  unfold a27 spanV
  by_cases he : spanErr t S = 0
  · have F := spanErr_fine.1 he
    rw [if_pos he, if_pos he]
    (focus ((try with_reducible apply wpC.to); (repeat' ((conv => whnf); first | refine byEv ?_ | (apply Fork.mk <;> (intro _; try (exfalso; omega))) | ((apply q_call); (focus exact byNext); (focus exact byLo); (focus (first | exact kTDragH5 | exact kTDragG2 | exact kTDragF5 | exact kTDragF4 | exact kTDragD0)); first | ((apply q_allB) <;> (intro z_b _ _ _; first | exact Bool.noConfusion z_b | replace z_b := of_decide_eq_true z_b | replace z_b := of_decide_eq_false z_b | skip) <;> ((try simp only [AllOk, Bd.ok, and_true] at z_b); first | contradiction | (revert z_b; intros))) | ((apply q_alli) <;> intro _ _ _ _ <;> try contradiction) | (apply q_allv; intro _ _ _)) | fail)); all_goals ((conv => whnf); try with_reducible apply At.mk)))
    apply q_call
    focus (exact byNext)
    focus omega
    focus
      apply AW.arg1
      · exact end_low (m := m) byOm (hS.same bySame (Nat.le_refl _)) F
      · exact Is.rfl
    rintro _ h1 ⟨i, f, hi, hf1, hf2, e, hmin⟩ q hn
    subst e
    (focus ((try with_reducible apply wpC.to); (repeat' ((conv => whnf); first | refine byEv ?_ | (apply Fork.mk <;> (intro _; try (exfalso; omega))) | ((apply q_call); (focus exact byNext); (focus exact byLo); (focus (first | exact kTDragH5 | exact kTDragG2 | exact kTDragF5 | exact kTDragF4 | exact kTDragD0)); first | ((apply q_allB) <;> (intro z_b _ _ _; first | exact Bool.noConfusion z_b | replace z_b := of_decide_eq_true z_b | replace z_b := of_decide_eq_false z_b | skip) <;> ((try simp only [AllOk, Bd.ok, and_true] at z_b); first | contradiction | (revert z_b; intros))) | ((apply q_alli) <;> intro _ _ _ _ <;> try contradiction) | (apply q_allv; intro _ _ _)) | fail)); all_goals ((conv => whnf); try with_reducible apply At.mk)))
    apply q_call
    focus (exact byNext)
    focus omega
    focus
      apply AW.arg1
      · exact end_high (m := m) byOm (hS.same bySame (Nat.le_refl _)) F
      · exact Is.rfl
    rintro _ h2 ⟨i', f', hi', hf1', hf2', e, hmax⟩ q' hn'
    subst e
    (focus ((try with_reducible apply wpC.to); (repeat' ((conv => whnf); first | refine byEv ?_ | (apply Fork.mk <;> (intro _; try (exfalso; omega))) | ((apply q_call); (focus exact byNext); (focus exact byLo); (focus (first | exact kTDragH5 | exact kTDragG2 | exact kTDragF5 | exact kTDragF4 | exact kTDragD0)); first | ((apply q_allB) <;> (intro z_b _ _ _; first | exact Bool.noConfusion z_b | replace z_b := of_decide_eq_true z_b | replace z_b := of_decide_eq_false z_b | skip) <;> ((try simp only [AllOk, Bd.ok, and_true] at z_b); first | contradiction | (revert z_b; intros))) | ((apply q_alli) <;> intro _ _ _ _ <;> try contradiction) | (apply q_allv; intro _ _ _)) | fail)); all_goals ((conv => whnf); try with_reducible apply At.mk)))
    all_goals (refine byFin ?_)
    have e1 : spanLo t S = coef t (S.ln i) (lowX t f) := theMin_eq ⟨⟨i, hi, f, hf1, hf2, rfl⟩, hmin⟩
    have e2 : spanHi t S = coef t (S.ln i') (highX t f') := theMax_eq ⟨⟨i', hi', f', hf1', hf2', rfl⟩, hmax⟩
    rw [e1, e2, he]
  · rw [if_neg he, if_neg he]
    (focus ((try with_reducible apply wpC.to); (repeat' ((conv => whnf); first | refine byEv ?_ | (apply Fork.mk <;> (intro _; try (exfalso; omega))) | ((apply q_call); (focus exact byNext); (focus exact byLo); (focus (first | exact kTDragH5 | exact kTDragG2 | exact kTDragF5 | exact kTDragF4 | exact kTDragD0)); first | ((apply q_allB) <;> (intro z_b _ _ _; first | exact Bool.noConfusion z_b | replace z_b := of_decide_eq_true z_b | replace z_b := of_decide_eq_false z_b | skip) <;> ((try simp only [AllOk, Bd.ok, and_true] at z_b); first | contradiction | (revert z_b; intros))) | ((apply q_alli) <;> intro _ _ _ _ <;> try contradiction) | (apply q_allv; intro _ _ _)) | fail)); all_goals ((conv => whnf); try with_reducible apply At.mk)))
    all_goals ((refine byFin ?_); rfl)
end AE.Tryz

/- The friction falls. -/
namespace AE.Drag
open Go AE

theorem fric_ge {L : Line} (v : Valid L) {x : Int} (h : inside L x) : L.cf (idx L x) ≤ fric L x := by
  unfold fric fr
  split
  · omega
  · rename_i hne
    have m := idx_mid v h hne
    have := m.q1; omega
theorem fric_le {L : Line} (v : Valid L) {x : Int} (h : inside L x) (hne : L.re (idx L x) ≠ x) : fric L x ≤ L.cf (idx L x - 1) := by
  unfold fric fr
  rw [if_neg hne]
  have m := idx_mid v h hne
  have := m.q0; omega
theorem idx_mono {L : Line} (v : Valid L) {x y : Int} (hx : inside L x) (hy : inside L y) (hxy : x ≤ y) : idx L x ≤ idx L y := by
  obtain ⟨h1, h2⟩ := idx_in v hy
  obtain ⟨s1, s2⟩ := idx_spec v x
  rcases Nat.lt_or_ge (idx L y) (idx L x) with h | h
  · have := s1 _ h; omega
  · exact h
theorem fric_falls {L : Line} (v : Valid L) {x y : Int} (hx : inside L x) (hy : inside L y) (hxy : x ≤ y) : fric L y ≤ fric L x := by
  by_cases e : x = y
  · subst e; omega
  have hk := idx_mono v hx hy hxy
  have hyi := idx_in v hy
  have hge := fric_ge v hx
  by_cases hne : L.re (idx L y) = y
  · have e2 : fric L y = L.cf (idx L y) := by unfold fric fr; rw [if_pos hne]
    have := v.cf_le hk hyi.1
    omega
  have hle := fric_le v hy hne
  by_cases hk2 : idx L x < idx L y
  · have := v.cf_le (i := idx L x) (j := idx L y - 1) (by omega) (by omega)
    omega
  have hk3 : idx L x = idx L y := by omega
  have hxi := idx_in v hx
  have hnx : L.re (idx L x) ≠ x := by rw [hk3] at hxi ⊢; omega
  have mx := idx_mid v hx hnx
  have my := idx_mid v hy hne
  unfold fric fr
  rw [if_neg hne, if_neg hnx, hk3]
  rw [hk3] at mx
  have a := my.c1; have b := mx.lo; have c := mx.hi
  have : (L.cf (idx L y - 1) - L.cf (idx L y)) * (x - L.re (idx L y - 1)) / (L.re (idx L y) - L.re (idx L y - 1)) ≤ (L.cf (idx L y - 1) - L.cf (idx L y)) * (y - L.re (idx L y - 1)) / (L.re (idx L y) - L.re (idx L y - 1)) :=
    Int.ediv_le_ediv (by omega) (Int.mul_le_mul_of_nonneg_left (by omega) (by omega))
  omega
end AE.Drag
