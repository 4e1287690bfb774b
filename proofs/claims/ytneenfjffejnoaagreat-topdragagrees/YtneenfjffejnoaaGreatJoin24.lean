/- Walks and plain laws: TDragJ, TDragK, AgreeOne, DragSpec6, DragSpec7. -/
import Derived.Test.YtneenfjffejnoaaGreatJoin22
import Derived.Test.YtneenfjffejnoaaGreatAgreeSpec3
import Derived.Test.YtneenfjffejnoaaGreatJoin16
set_option linter.unusedVariables false
set_option linter.unusedSimpArgs false
set_option linter.unusedSectionVars false

/- Walks of drag and its reference: the ends of a span. -/
namespace AE.Tryz
open Go AE AE.Drag Go.Proofs
set_option maxRecDepth 100000


def BestHigh (t : T) (S : Lines) (s : Nat) (f : Int) (bi : Int) (bx : X) (bn : Int) : Prop :=
 (bi = -1 ∧ bx = ⟨0, 0, 0, 0, 0, 0⟩ ∧ bn = 0 ∧ s = 0 ∧ f = t.ml) ∨
 ∃ (i : Nat) (f' : Int), bi = i ∧ i < S.k ∧ t.ml ≤ f' ∧ f' ≤ t.mh ∧ bx = highX t f' ∧ bn = coef t (S.ln i) (highX t f') ∧ (-200000 ≤ coef t (S.ln i) (highX t f') ∧ coef t (S.ln i) (highX t f') ≤ 1000202000) ∧
  (∀ j, j < s → ∀ f2, t.ml ≤ f2 → f2 ≤ t.mh → coef t (S.ln j) (highX t f2) ≤ coef t (S.ln i) (highX t f')) ∧ (∀ f2, t.ml ≤ f2 → f2 < f → coef t (S.ln s) (highX t f2) ≤ coef t (S.ln i) (highX t f'))

set_option maxHeartbeats 4000000 in
theorem end_high {h : H} {t : T} {S : Lines} {m : Nat} (hm : m ≤ h.next) (hS : S.Ok m h) (F : Fine t S) : AW Tryz.prog 62 h.next h [.agg ⟨t.cells⟩, .slice S.b S.k S.c, .int .i64 (1)]
 (fun w _ => ∃ (i : Nat) (f : Int), i < S.k ∧ t.ml ≤ f ∧ f ≤ t.mh ∧ w = .agg ⟨fCells i (highX t f) (coef t (S.ln i) (highX t f))⟩ ∧ ∀ c, HighC t S c → c ≤ coef t (S.ln i) (highX t f)) := by
 obtain ⟨e1, i1, r1, ok, l1⟩ := hS
 obtain ⟨k, sv, rk⟩ := F
 have hk1 := sv.lo
 have hm1 := k.m1; have hm2 := k.m2; have hm3 := k.m3
 refine fun62.call rfl (Nat.le_refl _) ?_
 unfold a62
 (focus ((try with_reducible apply wpC.to); (repeat' ((conv => whnf); first | refine byEv ?_ | (apply Fork.mk <;> (intro _; try (exfalso; omega))) | ((apply q_call); (focus exact byNext); (focus exact byLo); (focus (first | exact kTDragH1 | exact kTDragG2 | exact kTDragG1 | exact kTDragF5 | exact kTDragF4 | exact kTDragF2 | exact kTDragD0 | exact kTDragC6)); first | ((apply q_allB) <;> (intro z_b _ _ _; first | exact Bool.noConfusion z_b | replace z_b := of_decide_eq_true z_b | replace z_b := of_decide_eq_false z_b | skip) <;> ((try simp only [AllOk, Bd.ok, and_true] at z_b); first | contradiction | (revert z_b; intros))) | ((apply q_alli) <;> intro _ _ _ _ <;> try contradiction) | (apply q_allv; intro _ _ _)) | fail)); all_goals ((conv => whnf); try with_reducible apply At.mk)))
 refine wp_loop (fun s : Nat => [(1, .slice S.b S.k S.c), (2, .int .i64 (1)), (3, .pointer (some ⟨h.next + 0, 0, none⟩)), (6, .pointer (some ⟨h.next + 1, 0, none⟩)), (8, .pointer (some ⟨h.next + 52, 0, none⟩)), (9, .pointer (some ⟨h.next + 55, 0, none⟩)), (10, .pointer (some ⟨h.next + 58, 0, none⟩)), (64, .slice S.b S.k S.c), (65, .int .i64 S.k), (66, .int .i64 s)])
  (fun s h1 => h1.get (h.next + 0) = some (.cells t.cells 135) ∧ h1.get (h.next + 1) = some (.cells (fCells 0 ⟨0, 0, 0, 0, 0, 0⟩ 0) 141) ∧ (∃ f, h1.get (h.next + 52) = some (.cells (highX t f).cells 139)) ∧ h1.get (h.next + 55) = some (.cells (fCells (-1) ⟨0, 0, 0, 0, 0, 0⟩ 0) 141) ∧
   (∃ bi bx bn, h1.get (h.next + 58) = some (.cells (fCells bi bx bn) 141) ∧ BestHigh t S s t.ml bi bx bn) ∧ Same m h h1 ∧ h.next + 58 < h1.next ∧ s ≤ S.k) (fun s => S.k - s) 0
  ⟨rfl, rfl, rfl, rfl, rfl, rfl, rfl, rfl, rfl, rfl, trivial⟩ ⟨byGet, byGet, ⟨0, byGet⟩, byGet, ⟨-1, ⟨0, 0, 0, 0, 0, 0⟩, 0, byGet, .inl ⟨rfl, rfl, rfl, rfl, rfl⟩⟩, bySame, byOm, by omega⟩ ?_
 rintro s g h1 ⟨g1, g2, ⟨f0, g3⟩, g4, ⟨bi, bx, bn, g5, hbest⟩, q, hn1, hs⟩ K hK
 unfold T.cells at g1
 unfold fCells at g4 g5
 unfold X.cells at g3
 by_cases hsk : s < S.k
 ·have hL := ok s hsk
  have hv := sv.v s hsk
  (focus ((try with_reducible apply wpC.to); (repeat' ((conv => whnf); first | refine byEv ?_ | (apply Fork.mk <;> (intro _; try (exfalso; omega))) | ((apply q_call); (focus exact byNext); (focus exact byLo); (focus (first | exact kTDragH1 | exact kTDragG2 | exact kTDragG1 | exact kTDragF5 | exact kTDragF4 | exact kTDragF2 | exact kTDragD0 | exact kTDragC6)); first | ((apply q_allB) <;> (intro z_b _ _ _; first | exact Bool.noConfusion z_b | replace z_b := of_decide_eq_true z_b | replace z_b := of_decide_eq_false z_b | skip) <;> ((try simp only [AllOk, Bd.ok, and_true] at z_b); first | contradiction | (revert z_b; intros))) | ((apply q_alli) <;> intro _ _ _ _ <;> try contradiction) | (apply q_allv; intro _ _ _)) | fail)); all_goals ((conv => whnf); try with_reducible apply At.mk)))
  refine wp_loop (fun _ : Int => [(1, .slice S.b S.k S.c), (2, .int .i64 (1)), (3, .pointer (some ⟨h.next + 0, 0, none⟩)), (6, .pointer (some ⟨h.next + 1, 0, none⟩)), (8, .pointer (some ⟨h.next + 52, 0, none⟩)), (9, .pointer (some ⟨h.next + 55, 0, none⟩)), (10, .pointer (some ⟨h.next + 58, 0, none⟩)), (11, .int .i64 s), (12, .pointer (some ⟨h1.next + 4, 0, none⟩)), (64, .slice S.b S.k S.c), (65, .int .i64 S.k), (66, .int .i64 s)])
   (fun f h2 => h2.get (h.next + 0) = some (.cells t.cells 135) ∧ h2.get (h.next + 1) = some (.cells (fCells 0 ⟨0, 0, 0, 0, 0, 0⟩ 0) 141) ∧ h2.get (h.next + 52) = some (.cells (highX t f).cells 139) ∧ h2.get (h.next + 55) = some (.cells (fCells (-1) ⟨0, 0, 0, 0, 0, 0⟩ 0) 141) ∧
    (∃ bi bx bn, h2.get (h.next + 58) = some (.cells (fCells bi bx bn) 141) ∧ BestHigh t S s f bi bx bn) ∧ Same m h h2 ∧ h2.get (h1.next + 4) = some (.cells (S.ln s).cells 71) ∧ h1.next + 4 < h2.next ∧ t.ml ≤ f ∧ f ≤ t.mh + 1) (fun f => (t.mh + 1 - f).toNat) t.ml
   ⟨rfl, rfl, rfl, rfl, rfl, rfl, rfl, rfl, rfl, rfl, rfl, rfl, trivial⟩ ⟨byGet, byGet, byGet, byGet, ⟨bi, bx, bn, byGet, hbest⟩, bySame, byGet, byOm, by omega, by omega⟩ ?_
  clear g1 g2 g3 g4 g5 hbest
  rintro f g h2 ⟨g1, g2, g3, g4, ⟨bi, bx, bn, g5, hbest⟩, q2, g6, hn2, hf1, hf2⟩ K2 hK2
  unfold T.cells at g1
  unfold fCells at g4 g5
  unfold X.cells at g3
  unfold Line.cells at g6
  have hform : (highX t f).form = f := rfl
  by_cases hf : f ≤ t.mh
  ·have hit : IsTrue t (highX t f) := ⟨k.f2, Int.le_refl _, Int.le_refl _, k.t2, k.e2, Int.le_refl _, hf1, hf, Int.le_refl _, k.b2, k.r2, Int.le_refl _⟩
   have hb : (highX t f).Bd := hit.bd k
   have hbo : both t (S.ln s) (highX t f) := both_of k (rk s hsk) hit.t1 hit.t2 hit.e1 hit.e2
   have hi1 : inside (S.ln s) (modelRe t (highX t f).tank) := hbo.1
   have hi2 : inside (S.ln s) (shipRe t (highX t f).sea) := hbo.2
   have hcb := coefOf_bd k hb (fric_bd hv hi1) (fric_bd hv hi2)
   have hcb' : -200000 ≤ coef t (S.ln s) (highX t f) ∧ coef t (S.ln s) (highX t f) ≤ 1000202000 := hcb
   rcases hbest with ⟨rfl, rfl, rfl, hs0, hf0⟩ | ⟨i, f', rfl, hi, hf3, hf4, rfl, rfl, hbd, hb1, hb2⟩
   ·(focus ((try with_reducible apply wpC.to); (repeat' ((conv => whnf); first | refine byEv ?_ | (apply Fork.mk <;> (intro _; try (exfalso; omega))) | ((apply q_call); (focus exact byNext); (focus exact byLo); (focus (first | exact kTDragH1 | exact kTDragG2 | exact kTDragG1 | exact kTDragF5 | exact kTDragF4 | exact kTDragF2 | exact kTDragD0 | exact kTDragC6)); first | ((apply q_allB) <;> (intro z_b _ _ _; first | exact Bool.noConfusion z_b | replace z_b := of_decide_eq_true z_b | replace z_b := of_decide_eq_false z_b | skip) <;> ((try simp only [AllOk, Bd.ok, and_true] at z_b); first | contradiction | (revert z_b; intros))) | ((apply q_alli) <;> intro _ _ _ _ <;> try contradiction) | (apply q_allv; intro _ _ _)) | fail)); all_goals ((conv => whnf); try with_reducible apply At.mk)))
    refine OpE.pure (.bool true) (by kernel_rfl) ?_
    (focus ((try with_reducible apply wpC.to); (repeat' ((conv => whnf); first | refine byEv ?_ | (apply Fork.mk <;> (intro _; try (exfalso; omega))) | ((apply q_call); (focus exact byNext); (focus exact byLo); (focus (first | exact kTDragH1 | exact kTDragG2 | exact kTDragG1 | exact kTDragF5 | exact kTDragF4 | exact kTDragF2 | exact kTDragD0 | exact kTDragC6)); first | ((apply q_allB) <;> (intro z_b _ _ _; first | exact Bool.noConfusion z_b | replace z_b := of_decide_eq_true z_b | replace z_b := of_decide_eq_false z_b | skip) <;> ((try simp only [AllOk, Bd.ok, and_true] at z_b); first | contradiction | (revert z_b; intros))) | ((apply q_alli) <;> intro _ _ _ _ <;> try contradiction) | (apply q_allv; intro _ _ _)) | fail)); all_goals ((conv => whnf); try with_reducible apply At.mk)))
    refine hK2 (f + 1) _ _ ⟨rfl, rfl, rfl, rfl, rfl, rfl, rfl, rfl, rfl, rfl, rfl, rfl, trivial⟩ ⟨byGet, byGet, byGet, byGet, ⟨s, highX t f, coef t (S.ln s) (highX t f), byGet, .inr ⟨s, f, rfl, hsk, hf1, hf, rfl, rfl, hcb', fun j hj => by omega, fun f2 h3 h4 => ?_⟩⟩, bySame, byGet, byOm, by omega, by omega⟩ byO
    have : f2 = f := by omega
    subst this
    exact Int.le_refl _
   ·(focus ((try with_reducible apply wpC.to); (repeat' ((conv => whnf); first | refine byEv ?_ | (apply Fork.mk <;> (intro _; try (exfalso; omega))) | ((apply q_call); (focus exact byNext); (focus exact byLo); (focus (first | exact kTDragH1 | exact kTDragG2 | exact kTDragG1 | exact kTDragF5 | exact kTDragF4 | exact kTDragF2 | exact kTDragD0 | exact kTDragC6)); first | ((apply q_allB) <;> (intro z_b _ _ _; first | exact Bool.noConfusion z_b | replace z_b := of_decide_eq_true z_b | replace z_b := of_decide_eq_false z_b | skip) <;> ((try simp only [AllOk, Bd.ok, and_true] at z_b); first | contradiction | (revert z_b; intros))) | ((apply q_alli) <;> intro _ _ _ _ <;> try contradiction) | (apply q_allv; intro _ _ _)) | fail)); all_goals ((conv => whnf); try with_reducible apply At.mk)))
    refine OpE.pure (.bool false) (by kernel_rfl) ?_
    (focus ((try with_reducible apply wpC.to); (repeat' ((conv => whnf); first | refine byEv ?_ | (apply Fork.mk <;> (intro _; try (exfalso; omega))) | ((apply q_call); (focus exact byNext); (focus exact byLo); (focus (first | exact kTDragH1 | exact kTDragG2 | exact kTDragG1 | exact kTDragF5 | exact kTDragF4 | exact kTDragF2 | exact kTDragD0 | exact kTDragC6)); first | ((apply q_allB) <;> (intro z_b _ _ _; first | exact Bool.noConfusion z_b | replace z_b := of_decide_eq_true z_b | replace z_b := of_decide_eq_false z_b | skip) <;> ((try simp only [AllOk, Bd.ok, and_true] at z_b); first | contradiction | (revert z_b; intros))) | ((apply q_alli) <;> intro _ _ _ _ <;> try contradiction) | (apply q_allv; intro _ _ _)) | fail)); all_goals ((conv => whnf); try with_reducible apply At.mk)))
    ·refine hK2 (f + 1) _ _ ⟨rfl, rfl, rfl, rfl, rfl, rfl, rfl, rfl, rfl, rfl, rfl, rfl, trivial⟩ ⟨byGet, byGet, byGet, byGet, ⟨s, highX t f, coef t (S.ln s) (highX t f), byGet, .inr ⟨s, f, rfl, hsk, hf1, hf, rfl, rfl, hcb', fun j hj f2 h3 h4 => ?_, fun f2 h3 h4 => ?_⟩⟩, bySame, byGet, byOm, by omega, by omega⟩ byO
     ·have := hb1 j hj f2 h3 h4; omega
     ·by_cases e : f2 = f
      ·subst e; omega
      ·have := hb2 f2 h3 byO; omega
    ·refine hK2 (f + 1) _ _ ⟨rfl, rfl, rfl, rfl, rfl, rfl, rfl, rfl, rfl, rfl, rfl, rfl, trivial⟩ ⟨byGet, byGet, byGet, byGet, ⟨i, highX t f', coef t (S.ln i) (highX t f'), byGet, .inr ⟨i, f', rfl, hi, hf3, hf4, rfl, rfl, hbd, hb1, fun f2 h3 h4 => ?_⟩⟩, bySame, byGet, byOm, by omega, by omega⟩ byO
     by_cases e : f2 = f
     ·subst e; omega
     ·exact hb2 f2 h3 byO
  ·have hfe : f = t.mh + 1 := by omega
   subst hfe
   (focus ((try with_reducible apply wpC.to); (repeat' ((conv => whnf); first | refine byEv ?_ | (apply Fork.mk <;> (intro _; try (exfalso; omega))) | ((apply q_call); (focus exact byNext); (focus exact byLo); (focus (first | exact kTDragH1 | exact kTDragG2 | exact kTDragG1 | exact kTDragF5 | exact kTDragF4 | exact kTDragF2 | exact kTDragD0 | exact kTDragC6)); first | ((apply q_allB) <;> (intro z_b _ _ _; first | exact Bool.noConfusion z_b | replace z_b := of_decide_eq_true z_b | replace z_b := of_decide_eq_false z_b | skip) <;> ((try simp only [AllOk, Bd.ok, and_true] at z_b); first | contradiction | (revert z_b; intros))) | ((apply q_alli) <;> intro _ _ _ _ <;> try contradiction) | (apply q_allv; intro _ _ _)) | fail)); all_goals ((conv => whnf); try with_reducible apply At.mk)))
   refine hK (s + 1) _ _ ⟨rfl, rfl, rfl, rfl, rfl, rfl, rfl, rfl, rfl, int_of rfl byO, trivial⟩ ⟨byGet, byGet, ⟨_, byGet⟩, byGet, ⟨bi, bx, bn, byGet, ?_⟩, bySame, byOm, by omega⟩ byO
   rcases hbest with ⟨rfl, rfl, rfl, hs0, hf0⟩ | ⟨i, f', rfl, hi, hf3, hf4, rfl, rfl, hbd, hb1, hb2⟩
   ·omega
   ·refine .inr ⟨i, f', rfl, hi, hf3, hf4, rfl, rfl, hbd, fun j hj f2 h3 h4 => ?_, fun f2 h3 h4 => by omega⟩
    by_cases e : j = s
    ·subst e; exact hb2 f2 h3 byO
    ·exact hb1 j byO f2 h3 h4
 ·have : s = S.k := by omega
  subst this
  rcases hbest with ⟨rfl, rfl, rfl, hs0, hf0⟩ | ⟨i, f', rfl, hi, hf3, hf4, rfl, rfl, hbd, hb1, hb2⟩
  ·omega
  unfold fCells at g2
  (focus ((try with_reducible apply wpC.to); (repeat' ((conv => whnf); first | refine byEv ?_ | (apply Fork.mk <;> (intro _; try (exfalso; omega))) | ((apply q_call); (focus exact byNext); (focus exact byLo); (focus (first | exact kTDragH1 | exact kTDragG2 | exact kTDragG1 | exact kTDragF5 | exact kTDragF4 | exact kTDragF2 | exact kTDragD0 | exact kTDragC6)); first | ((apply q_allB) <;> (intro z_b _ _ _; first | exact Bool.noConfusion z_b | replace z_b := of_decide_eq_true z_b | replace z_b := of_decide_eq_false z_b | skip) <;> ((try simp only [AllOk, Bd.ok, and_true] at z_b); first | contradiction | (revert z_b; intros))) | ((apply q_alli) <;> intro _ _ _ _ <;> try contradiction) | (apply q_allv; intro _ _ _)) | fail)); all_goals ((conv => whnf); try with_reducible apply At.mk)))
  (refine byFin ?_)
  refine ⟨i, f', hi, hf3, hf4, rfl, ?_⟩
  rintro c ⟨j, hj, f2, h3, h4, rfl⟩
  exact hb1 j hj f2 h3 h4
end AE.Tryz

/- Walks of drag: Span. -/
namespace AE.Tryz
open Go AE AE.Drag Go.Proofs
set_option maxRecDepth 100000

noncomputable def spanV (t : T) (S : Lines) : Value := .tuple #[.agg ⟨[.int .i64 (if spanErr t S = 0 then spanLo t S else 0), .int .i64 (if spanErr t S = 0 then spanHi t S else 0)]⟩, .int .i64 (spanErr t S)]
set_option maxHeartbeats 1000000 in
theorem span_w {h : H} {t : T} {S : Lines} {m : Nat} (hm : m ≤ h.next) (kn : Known t) (hS : S.Ok m h) : AW Tryz.prog 23 h.next h [.agg ⟨t.cells⟩, .slice S.b S.k S.c] (fun w _ => w = spanV t S) := by
 refine fun23.call rfl (Nat.le_refl _) ?_
 unfold a23 spanV
 by_cases he : spanErr t S = 0
 ·have F := spanErr_fine.1 he
  rw [if_pos he, if_pos he]
  (focus ((try with_reducible apply wpC.to); (repeat' ((conv => whnf); first | refine byEv ?_ | (apply Fork.mk <;> (intro _; try (exfalso; omega))) | ((apply q_call); (focus exact byNext); (focus exact byLo); (focus (first | exact kTDragH5 | exact kTDragH1 | exact kTDragG2 | exact kTDragF5 | exact kTDragF4 | exact kTDragF2 | exact kTDragD0 | exact kTDragC6)); first | ((apply q_allB) <;> (intro z_b _ _ _; first | exact Bool.noConfusion z_b | replace z_b := of_decide_eq_true z_b | replace z_b := of_decide_eq_false z_b | skip) <;> ((try simp only [AllOk, Bd.ok, and_true] at z_b); first | contradiction | (revert z_b; intros))) | ((apply q_alli) <;> intro _ _ _ _ <;> try contradiction) | (apply q_allv; intro _ _ _)) | fail)); all_goals ((conv => whnf); try with_reducible apply At.mk)))
  apply q_call
  focus (exact byNext)
  focus omega
  focus
   apply AW.arg1
   ·exact end_low (m := m) byOm (hS.same bySame (Nat.le_refl _)) F
   ·exact Is.rfl
  rintro _ h1 ⟨i, f, hi, hf1, hf2, e, hmin⟩ q hn
  subst e
  (focus ((try with_reducible apply wpC.to); (repeat' ((conv => whnf); first | refine byEv ?_ | (apply Fork.mk <;> (intro _; try (exfalso; omega))) | ((apply q_call); (focus exact byNext); (focus exact byLo); (focus (first | exact kTDragH5 | exact kTDragH1 | exact kTDragG2 | exact kTDragF5 | exact kTDragF4 | exact kTDragF2 | exact kTDragD0 | exact kTDragC6)); first | ((apply q_allB) <;> (intro z_b _ _ _; first | exact Bool.noConfusion z_b | replace z_b := of_decide_eq_true z_b | replace z_b := of_decide_eq_false z_b | skip) <;> ((try simp only [AllOk, Bd.ok, and_true] at z_b); first | contradiction | (revert z_b; intros))) | ((apply q_alli) <;> intro _ _ _ _ <;> try contradiction) | (apply q_allv; intro _ _ _)) | fail)); all_goals ((conv => whnf); try with_reducible apply At.mk)))
  apply q_call
  focus (exact byNext)
  focus omega
  focus
   apply AW.arg1
   ·exact end_high (m := m) byOm (hS.same bySame (Nat.le_refl _)) F
   ·exact Is.rfl
  rintro _ h2 ⟨i', f', hi', hf1', hf2', e, hmax⟩ q' hn'
  subst e
  (focus ((try with_reducible apply wpC.to); (repeat' ((conv => whnf); first | refine byEv ?_ | (apply Fork.mk <;> (intro _; try (exfalso; omega))) | ((apply q_call); (focus exact byNext); (focus exact byLo); (focus (first | exact kTDragH5 | exact kTDragH1 | exact kTDragG2 | exact kTDragF5 | exact kTDragF4 | exact kTDragF2 | exact kTDragD0 | exact kTDragC6)); first | ((apply q_allB) <;> (intro z_b _ _ _; first | exact Bool.noConfusion z_b | replace z_b := of_decide_eq_true z_b | replace z_b := of_decide_eq_false z_b | skip) <;> ((try simp only [AllOk, Bd.ok, and_true] at z_b); first | contradiction | (revert z_b; intros))) | ((apply q_alli) <;> intro _ _ _ _ <;> try contradiction) | (apply q_allv; intro _ _ _)) | fail)); all_goals ((conv => whnf); try with_reducible apply At.mk)))
  all_goals (refine byFin ?_)
  have e1 : spanLo t S = coef t (S.ln i) (lowX t f) := theMin_eq ⟨⟨i, hi, f, hf1, hf2, rfl⟩, hmin⟩
  have e2 : spanHi t S = coef t (S.ln i') (highX t f') := theMax_eq ⟨⟨i', hi', f', hf1', hf2', rfl⟩, hmax⟩
  rw [e1, e2, he]
 ·rw [if_neg he, if_neg he]
  (focus ((try with_reducible apply wpC.to); (repeat' ((conv => whnf); first | refine byEv ?_ | (apply Fork.mk <;> (intro _; try (exfalso; omega))) | ((apply q_call); (focus exact byNext); (focus exact byLo); (focus (first | exact kTDragH5 | exact kTDragH1 | exact kTDragG2 | exact kTDragF5 | exact kTDragF4 | exact kTDragF2 | exact kTDragD0 | exact kTDragC6)); first | ((apply q_allB) <;> (intro z_b _ _ _; first | exact Bool.noConfusion z_b | replace z_b := of_decide_eq_true z_b | replace z_b := of_decide_eq_false z_b | skip) <;> ((try simp only [AllOk, Bd.ok, and_true] at z_b); first | contradiction | (revert z_b; intros))) | ((apply q_alli) <;> intro _ _ _ _ <;> try contradiction) | (apply q_allv; intro _ _ _)) | fail)); all_goals ((conv => whnf); try with_reducible apply At.mk)))
  all_goals ((refine byFin ?_); rfl)
end AE.Tryz

/- The plain law of agree, for tanks without a bias and one hull. -/
set_option linter.unusedVariables false
namespace AgreeS
structure One (T : Table) : Prop where
 ok : T.Ok
 lo : T.blo = 0
 hi : T.bhi = 0
 hulls : T.hulls = 1
theorem One.hull {T : Table} (k : One T) {y : Test} (hy : y ∈ T.tests) : y.hull = 0 := by
 have := (k.ok.tests y hy).hull
 rw [k.hulls] at this
 omega
theorem One.fits {T : Table} (k : One T) {b x : Nat → Int} : Fits T b x ↔ (∀ i, i < T.tanks → b i = 0) ∧ ∀ y ∈ T.tests, y.lo ≤ x 0 ∧ x 0 ≤ y.hi := by
 constructor
 ·intro f
  have hb : ∀ i, i < T.tanks → b i = 0 := fun i hi => by
   have := f.bias i hi
   rw [k.lo, k.hi] at this
   omega
  refine ⟨hb, fun y hy => ?_⟩
  have := f.test y hy
  rw [hb _ (k.ok.tests y hy).tank, k.hull hy] at this
  omega
 ·rintro ⟨hb, hx⟩
  refine ⟨fun i hi => by rw [hb i hi, k.lo, k.hi]; omega, fun y hy => ?_⟩
  rw [hb _ (k.ok.tests y hy).tank, k.hull hy]
  have := hx y hy
  omega
theorem One.agrees {T : Table} (k : One T) : Agrees T ↔ ∃ n : Int, ∀ y ∈ T.tests, y.lo ≤ n ∧ n ≤ y.hi :=
 ⟨fun ⟨b, x, f⟩ => ⟨x 0, (k.fits.1 f).2⟩, fun ⟨n, h⟩ => ⟨fun _ => 0, fun _ => n, k.fits.2 ⟨fun _ _ => rfl, h⟩⟩⟩
theorem One.tested {T : Table} (k : One T) {y : Test} (hy : y ∈ T.tests) : Tested T 0 := ⟨y, hy, k.hull hy⟩
theorem One.is {T : Table} (k : One T) {lo hi : Int} (hle : lo ≤ hi) (ht : Tested T 0) (h : ∀ n : Int, (∀ y ∈ T.tests, y.lo ≤ n ∧ n ≤ y.hi) ↔ lo ≤ n ∧ n ≤ hi) : Agrees T ∧ lowX T 0 = lo ∧ highX T 0 = hi := by
 have ha : Agrees T := k.agrees.2 ⟨lo, (h lo).2 ⟨Int.le_refl _, hle⟩⟩
 have l := (h _).1 (k.fits.1 (low_fits k.ok ha)).2
 have g := (h _).1 (k.fits.1 (high_fits k.ok ha)).2
 have at_ : ∀ n, lo ≤ n → n ≤ hi → lowX T 0 ≤ n ∧ n ≤ highX T 0 := fun n h1 h2 => spread_holds k.ok (k.fits.2 ⟨fun _ _ => rfl, (h n).2 ⟨h1, h2⟩⟩ : Fits T (fun _ => 0) fun _ => n) ht
 have a := at_ lo byO byO
 have b := at_ hi byO byO
 exact ⟨ha, by omega, by omega⟩
theorem One.not {T : Table} (k : One T) (h : ∀ n : Int, ¬ ∀ y ∈ T.tests, y.lo ≤ n ∧ n ≤ y.hi) : ¬ Agrees T := fun a => let ⟨n, hn⟩ := k.agrees.1 a; h n hn
end AgreeS

/- The friction falls. -/
namespace AE.Drag
open Go AE

theorem fric_ge {L : Line} (v : Valid L) {x : Int} (h : inside L x) : L.cf (idx L x) ≤ fric L x := by
 unfold fric fr
 split
 ·omega
 ·rename_i hne
  have m := idx_mid v h hne
  have := m.q1; omega
theorem fric_le {L : Line} (v : Valid L) {x : Int} (h : inside L x) (hne : L.re (idx L x) ≠ x) : fric L x ≤ L.cf (idx L x - 1) := by
 unfold fric fr
 rw [if_neg hne]
 have m := idx_mid v h hne
 have := m.q0; omega
theorem idx_mono {L : Line} (v : Valid L) {x y : Int} (hx : inside L x) (hy : inside L y) (hxy : x ≤ y) : idx L x ≤ idx L y := by
 obtain ⟨h1, h2⟩ := idx_in v hy
 obtain ⟨s1, s2⟩ := idx_spec v x
 rcases Nat.lt_or_ge (idx L y) (idx L x) with h | h
 ·have := s1 _ h; omega
 ·exact h
theorem fric_falls {L : Line} (v : Valid L) {x y : Int} (hx : inside L x) (hy : inside L y) (hxy : x ≤ y) : fric L y ≤ fric L x := by
 by_cases e : x = y
 ·subst e; omega
 have hk := idx_mono v hx hy hxy
 have hyi := idx_in v hy
 have hge := fric_ge v hx
 by_cases hne : L.re (idx L y) = y
 ·have e2 : fric L y = L.cf (idx L y) := by unfold fric fr; rw [if_pos hne]
  have := v.cf_le hk hyi.1
  omega
 have hle := fric_le v hy hne
 by_cases hk2 : idx L x < idx L y
 ·have := v.cf_le (i := idx L x) (j := idx L y - 1) byO byO
  omega
 have hk3 : idx L x = idx L y := by omega
 have hxi := idx_in v hx
 have hnx : L.re (idx L x) ≠ x := by rw [hk3] at hxi ⊢; omega
 have mx := idx_mid v hx hnx
 have my := idx_mid v hy hne
 unfold fric fr
 rw [if_neg hne, if_neg hnx, hk3]
 rw [hk3] at mx
 have a := my.c1; have b := mx.lo; have c := mx.hi
 have : (L.cf (idx L y - 1) - L.cf (idx L y)) * (x - L.re (idx L y - 1)) / (L.re (idx L y) - L.re (idx L y - 1)) ≤ (L.cf (idx L y - 1) - L.cf (idx L y)) * (y - L.re (idx L y - 1)) / (L.re (idx L y) - L.re (idx L y - 1)) :=
  Int.ediv_le_ediv byO (Int.mul_le_mul_of_nonneg_left byO byO)
 omega
end AE.Drag

/- The stage's theorem, in plain words: the coefficient lies between its ends. -/
namespace AE.Drag
open Go AE

theorem exists_min {P : Int → Prop} (b : Int) (hb : ∀ w, P w → b ≤ w) (hx : ∃ v, P v) : ∃ v, IsMin P v := by
 have key : ∀ n : Nat, ∀ v, P v → (v - b).toNat ≤ n → ∃ v, IsMin P v := by
  intro n
  induction n with
  | zero =>
    intro v hv hn
    refine ⟨v, hv, fun w hw => ?_⟩
    have := hb v hv; have := hb w hw; omega
  | succ n ih =>
    intro v hv hn
    by_cases h : ∃ w, P w ∧ w < v
    ·obtain ⟨w, hw, hlt⟩ := h
     have := hb w hw
     exact ih w hw byO
    ·exact ⟨v, hv, fun w hw => by
      rcases Int.lt_or_le w v with hlt | hle
      ·exact absurd ⟨w, hw, hlt⟩ h
      ·exact hle⟩
 obtain ⟨v, hv⟩ := hx
 exact key _ v hv (Nat.le_refl _)
theorem exists_max {P : Int → Prop} (b : Int) (hb : ∀ w, P w → w ≤ b) (hx : ∃ v, P v) : ∃ v, IsMax P v := by
 obtain ⟨v, ⟨hv1, hv2⟩⟩ := exists_min (P := fun w => P (-w)) (-b) (fun w hw => by have := hb _ hw; omega) (by
  obtain ⟨v, hv⟩ := hx
  exact ⟨-v, by simpa using hv⟩)
 exact ⟨-v, hv1, fun w hw => by have := hv2 (-w) (by simpa using hw); omega⟩

theorem measured_mono {t : T} (k : t.Ok) {f g : Int} (h : f ≤ g) : measured t f ≤ measured t g := by
 have := k.prod.q3
 have : 20000000000 * f / (t.wet * t.speed * t.speed) ≤ 20000000000 * g / (t.wet * t.speed * t.speed) := Int.ediv_le_ediv byO byO
 unfold measured
 omega
theorem coefOf_mono {t : T} (k : t.Ok) {x y : X} {f g f' g' : Int} (hx : x.Bd) (hy : y.Bd) (h1 : x.force ≤ y.force) (h2 : y.block ≤ x.block) (h3 : x.form = y.form) (h4 : x.rough ≤ y.rough) (h5 : f' ≤ f) (h6 : g ≤ g') (hf : 0 ≤ f') (hg : 0 ≤ g) :
 coefOf t x f g ≤ coefOf t y f' g' := by
 have m := measured_mono k h1
 have m0 := (measured_bd k hx.f1).1
 have m1 := (measured_bd k hy.f1).1
 have b1 := hx.b2; have b2 := hy.b2; have b3 := hx.m1; have b4 := hy.m1
 have a1 : measured t x.force * (1000 - x.block) ≤ measured t y.force * (1000 - y.block) := Int.mul_le_mul m byO byO m1
 have a2 : (1000 + y.form) * f' ≤ (1000 + x.form) * f := by rw [h3]; exact Int.mul_le_mul_of_nonneg_left h5 byO
 have a3 : (1000 + x.form) * g ≤ (1000 + y.form) * g' := by rw [h3]; exact Int.mul_le_mul_of_nonneg_left h6 byO
 have e1 : measured t x.force * (1000 - x.block) / 1000 ≤ measured t y.force * (1000 - y.block) / 1000 := Int.ediv_le_ediv byO a1
 have e2 : (1000 + y.form) * f' / 1000 ≤ (1000 + x.form) * f / 1000 := Int.ediv_le_ediv byO a2
 have e3 : (1000 + x.form) * g / 1000 ≤ (1000 + y.form) * g' / 1000 := Int.ediv_le_ediv byO a3
 unfold coefOf
 omega

structure Among (t : T) (x : X) : Prop where
 f1 : t.fl ≤ x.force
 f2 : x.force ≤ t.fh
 t1 : t.tl ≤ x.tank
 t2 : x.tank ≤ t.th
 e1 : t.sl ≤ x.sea
 e2 : x.sea ≤ t.sh
 m1 : 0 ≤ x.form
 m2 : x.form ≤ 1000
 b1 : t.bl ≤ x.block
 b2 : x.block ≤ t.bh
 r1 : t.rl ≤ x.rough
 r2 : x.rough ≤ t.rh
theorem Among.bd {t : T} {x : X} (k : t.Ok) (h : Among t x) : x.Bd := by
 obtain ⟨s1, s2, l1, l2, w1, w2, a1, a2, f1, f2, f3, t1, t2, t3, e1, e2, e3, m1, m2, m3, b1, b2, b3, r1, r2, r3⟩ := k
 obtain ⟨x1, x2, x3, x4, x5, x6, x7, x8, x9, x10, x11, x12⟩ := h
 constructor <;> omega
theorem among_low {t : T} (k : t.Ok) {m : Int} (h1 : 0 ≤ m) (h2 : m ≤ 1000) : Among t (lowX t m) := by
 obtain ⟨s1, s2, l1, l2, w1, w2, a1, a2, f1, f2, f3, t1, t2, t3, e1, e2, e3, m1, m2, m3, b1, b2, b3, r1, r2, r3⟩ := k
 constructor <;> simp only [lowX] <;> omega
theorem among_high {t : T} (k : t.Ok) {m : Int} (h1 : 0 ≤ m) (h2 : m ≤ 1000) : Among t (highX t m) := by
 obtain ⟨s1, s2, l1, l2, w1, w2, a1, a2, f1, f2, f3, t1, t2, t3, e1, e2, e3, m1, m2, m3, b1, b2, b3, r1, r2, r3⟩ := k
 constructor <;> simp only [highX] <;> omega
theorem Among.both {t : T} (k : t.Ok) {L : Line} (r : reckons t L) {x : X} (h : Among t x) : both t L x := both_of k r h.t1 h.t2 h.e1 h.e2

theorem modelRe_anti {t : T} (k : t.Ok) {a b : Int} (h0 : 0 < a) (h : a ≤ b) : modelRe t b ≤ modelRe t a := ediv_anti k.prod.p1 h0 h
theorem shipRe_anti {t : T} (k : t.Ok) {a b : Int} (h0 : 0 < a) (h : a ≤ b) : shipRe t b ≤ shipRe t a := ediv_anti k.prod.p7 h0 h

theorem coef_mono {t : T} (k : t.Ok) {L : Line} (v : Valid L) (r : reckons t L) {x y : X} (hx : Among t x) (hy : Among t y) (h1 : x.force ≤ y.force) (h2 : y.block ≤ x.block) (h3 : x.form = y.form) (h4 : x.rough ≤ y.rough) (h5 : y.tank ≤ x.tank) (h6 : x.sea ≤ y.sea) : coef t L x ≤ coef t L y := by
 obtain ⟨a1, a2⟩ := hx.both k r
 obtain ⟨b1, b2⟩ := hy.both k r
 have t1 := k.t1; have e1 := k.e1; have c1 := hy.t1; have c2 := hx.e1
 refine coefOf_mono k (hx.bd k) (hy.bd k) h1 h2 h3 h4 (fric_falls v a1 b1 (modelRe_anti k byO h5)) (fric_falls v b2 a2 (shipRe_anti k byO h6)) (fric_bd v b1).1 (fric_bd v a2).1
theorem coef_low {t : T} (k : t.Ok) {L : Line} (v : Valid L) (r : reckons t L) {x : X} (h : Among t x) : coef t L (lowX t x.form) ≤ coef t L x :=
 coef_mono k v r (among_low k h.m1 h.m2) h h.f1 h.b2 rfl h.r1 h.t2 h.e1
theorem coef_high {t : T} (k : t.Ok) {L : Line} (v : Valid L) (r : reckons t L) {x : X} (h : Among t x) : coef t L x ≤ coef t L (highX t x.form) :=
 coef_mono k v r h (among_high k h.m1 h.m2) h.f2 h.b1 rfl h.r2 h.t1 h.e2
theorem coef_bd {t : T} (k : t.Ok) {L : Line} (v : Valid L) (r : reckons t L) {x : X} (h : Among t x) : -200000 ≤ coef t L x ∧ coef t L x ≤ 1000202000 := by
 obtain ⟨a1, a2⟩ := h.both k r
 exact coefOf_bd k (h.bd k) (fric_bd v a1) (fric_bd v a2)

theorem isMin_low {t : T} {S : Lines} (F : Fine t S) : IsMin (LowC t S) (spanLo t S) := by
 have hm := F.tk.m2; have h1 := F.tk.m1; have h3 := F.tk.m3; have hl := F.sv.lo
 have hx : ∃ v, IsMin (LowC t S) v := exists_min (-200000) (by
  rintro w ⟨i, hi, m, h4, h5, rfl⟩
  exact (coef_bd F.tk (F.sv.v i hi) (F.r i hi) (among_low F.tk byO byO)).1) ⟨_, 0, by omega, t.ml, Int.le_refl _, hm, rfl⟩
 obtain ⟨v, hv⟩ := hx
 unfold spanLo
 rw [theMin_eq hv]
 exact hv
theorem isMax_high {t : T} {S : Lines} (F : Fine t S) : IsMax (HighC t S) (spanHi t S) := by
 have hm := F.tk.m2; have h1 := F.tk.m1; have h3 := F.tk.m3; have hl := F.sv.lo
 have hx : ∃ v, IsMax (HighC t S) v := exists_max 1000202000 (by
  rintro w ⟨i, hi, m, h4, h5, rfl⟩
  exact (coef_bd F.tk (F.sv.v i hi) (F.r i hi) (among_high F.tk byO byO)).2) ⟨_, 0, by omega, t.ml, Int.le_refl _, hm, rfl⟩
 obtain ⟨v, hv⟩ := hx
 unfold spanHi
 rw [theMax_eq hv]
 exact hv
theorem boxed {t : T} {S : Lines} (F : Fine t S) {i : Nat} (hi : i < S.k) {x : X} (hx : Among t x) (h1 : t.ml ≤ x.form) (h2 : x.form ≤ t.mh) : spanLo t S ≤ coef t (S.ln i) x ∧ coef t (S.ln i) x ≤ spanHi t S := by
 have a := (isMin_low F).2 _ ⟨i, hi, x.form, h1, h2, rfl⟩
 have b := (isMax_high F).2 _ ⟨i, hi, x.form, h1, h2, rfl⟩
 have c := coef_low F.tk (F.sv.v i hi) (F.r i hi) hx
 have d := coef_high F.tk (F.sv.v i hi) (F.r i hi) hx
 omega
theorem span_bd {t : T} {S : Lines} (F : Fine t S) : -200000 ≤ spanLo t S ∧ spanLo t S ≤ spanHi t S ∧ spanHi t S ≤ 1000202000 := by
 have h1 := F.tk.m1; have h3 := F.tk.m3
 obtain ⟨⟨i, hi, m, h4, h5, e⟩, -⟩ := isMin_low F
 obtain ⟨⟨j, hj, m', h4', h5', e'⟩, -⟩ := isMax_high F
 have a := coef_bd F.tk (F.sv.v i hi) (F.r i hi) (among_low F.tk (m := m) byO byO)
 have b := coef_bd F.tk (F.sv.v j hj) (F.r j hj) (among_high F.tk (m := m') byO byO)
 have c := boxed F hi (among_low F.tk (m := m) byO byO) h4 h5
 omega
end AE.Drag
