/- Walks of agree: valid tables. -/
import Derived.Test.YtfdlkdjihmlbhaaAgreeA
set_option linter.unusedVariables false
set_option linter.unusedSimpArgs false
set_option linter.unusedSectionVars false
namespace AE.Try
open Go AE AE.Ag AgreeS Go.Proofs
set_option maxRecDepth 100000

def isR (lo hi : Int) : Prop := lo ≤ hi ∧ -1000000 ≤ lo ∧ hi ≤ 1000000
instance (lo hi : Int) : Decidable (isR lo hi) := by unfold isR; infer_instance

theorem isRange_w {h : H} {lo hi : Int} : AW Try.prog 50 h.next h [.agg ⟨[.int .i64 lo, .int .i64 hi]⟩] (fun v _ => v = .bool (decide (isR lo hi))) := by
  refine fun50.call rfl (Nat.le_refl _) ?_
  unfold a50
  (focus ((try with_reducible apply wpC.to); (repeat' ((conv => whnf); first | ((apply Start.mk); (focus exact byNext); (focus exact byLen)) | ((apply New.mk); (focus exact byNid)) | ((apply Need.mk); (focus exact byNeed)) | ((apply Fork.mk) <;> (intro _; try (exfalso; omega; done))) | ((apply Load1.mk); (focus exact byMem); (focus exact byVal)) | ((with_reducible apply Ix.pred); (focus first | assumption | exact fun _ => rfl); (focus omega); (focus omega)) | apply forceV_any | apply forceL_any)); all_goals (conv => whnf); all_goals (try with_reducible apply At.mk)))
  · apply q_callB
    focus (exact byNext)
    focus (exact byLo)
    focus
      refine within_w (T := ⟨2, fun i => if i = 0 then lo else hi, some ⟨h.next + 12, 0, none⟩, ⟨h.next + 12, 0, none⟩, 2⟩) (m := h.next + 13) (by (exact byOm)) ⟨fun _ => rfl, fun i hi => ?_, fun _ => by simp only; omega, by simp⟩ (by omega) (by omega)
      have : i = 0 ∨ i = 1 := by simp only at hi; omega
      rcases this with rfl | rfl
      · exact loadN_one (off := 0 + 0) (by (exact byGet)) rfl
      · exact loadN_one (off := 0 + 1) (by (exact byGet)) rfl
    · intro hb h2 q hn
      (focus ((try with_reducible apply wpC.to); (repeat' ((conv => whnf); first | ((apply Start.mk); (focus exact byNext); (focus exact byLen)) | ((apply New.mk); (focus exact byNid)) | ((apply Need.mk); (focus exact byNeed)) | ((apply Fork.mk) <;> (intro _; try (exfalso; omega; done))) | ((apply Load1.mk); (focus exact byMem); (focus exact byVal)) | ((with_reducible apply Ix.pred); (focus first | assumption | exact fun _ => rfl); (focus omega); (focus omega)) | apply forceV_any | apply forceL_any)); all_goals (conv => whnf); all_goals (try with_reducible apply At.mk)))
      (first | (apply fin1; (focus first | exact .inl rfl | exact .inr rfl); focus exact byR1) | (apply fin2; (focus first | exact .inl rfl | exact .inr rfl); (focus exact byR1); (focus exact byR1)) | (apply fin3; (focus first | exact .inl rfl | exact .inr rfl); (focus exact byR1); (focus exact byR1); (focus exact byR1)) | (apply fin0; (focus first | exact .inl rfl | exact .inr rfl)))
      have := of_decide_eq_true hb
      have h0 := this 0 (by simp)
      have h1 : -1000000 ≤ hi ∧ hi ≤ 1000000 := this 1 (by simp)
      simp only [if_true] at h0
      exact bool_t rfl (by unfold isR; omega)
    · intro hb h2 q hn
      (focus ((try with_reducible apply wpC.to); (repeat' ((conv => whnf); first | ((apply Start.mk); (focus exact byNext); (focus exact byLen)) | ((apply New.mk); (focus exact byNid)) | ((apply Need.mk); (focus exact byNeed)) | ((apply Fork.mk) <;> (intro _; try (exfalso; omega; done))) | ((apply Load1.mk); (focus exact byMem); (focus exact byVal)) | ((with_reducible apply Ix.pred); (focus first | assumption | exact fun _ => rfl); (focus omega); (focus omega)) | apply forceV_any | apply forceL_any)); all_goals (conv => whnf); all_goals (try with_reducible apply At.mk)))
      (first | (apply fin1; (focus first | exact .inl rfl | exact .inr rfl); focus exact byR1) | (apply fin2; (focus first | exact .inl rfl | exact .inr rfl); (focus exact byR1); (focus exact byR1)) | (apply fin3; (focus first | exact .inl rfl | exact .inr rfl); (focus exact byR1); (focus exact byR1); (focus exact byR1)) | (apply fin0; (focus first | exact .inl rfl | exact .inr rfl)))
      have := of_decide_eq_false hb
      refine bool_f rfl fun hr => this fun i _ => ?_
      unfold isR at hr
      simp only
      split <;> omega
  · (first | (apply fin1; (focus first | exact .inl rfl | exact .inr rfl); focus exact byR1) | (apply fin2; (focus first | exact .inl rfl | exact .inr rfl); (focus exact byR1); (focus exact byR1)) | (apply fin3; (focus first | exact .inl rfl | exact .inr rfl); (focus exact byR1); (focus exact byR1); (focus exact byR1)) | (apply fin0; (focus first | exact .inl rfl | exact .inr rfl)))
    exact bool_f rfl (by unfold isR; omega)

theorem is_w {h : H} {a b : Int} : AW Try.prog 49 h.next h [.int .i64 a, .int .i64 b] (fun v _ => v = .bool (decide (0 ≤ a ∧ a < b))) := by
  refine fun49.call rfl (Nat.le_refl _) ?_
  unfold a49
  (focus ((try with_reducible apply wpC.to); (repeat' ((conv => whnf); first | ((apply Start.mk); (focus exact byNext); (focus exact byLen)) | ((apply Fork.mk) <;> (intro _; try (exfalso; omega; done))) | ((with_reducible apply Ix.pred); (focus first | assumption | exact fun _ => rfl); (focus omega); (focus omega)) | apply forceV_any | apply forceL_any)); all_goals (conv => whnf); all_goals (try with_reducible apply At.mk)))
  all_goals (((first | (apply fin1; (focus first | exact .inl rfl | exact .inr rfl); focus exact byR1) | (apply fin2; (focus first | exact .inl rfl | exact .inr rfl); (focus exact byR1); (focus exact byR1)) | (apply fin3; (focus first | exact .inl rfl | exact .inr rfl); (focus exact byR1); (focus exact byR1); (focus exact byR1)) | (apply fin0; (focus first | exact .inl rfl | exact .inr rfl))); first | exact bool_t rfl (by omega) | exact bool_f rfl (by omega)))
theorem badTest_w {h : H} {x : RTest} {r s : Nat} {tanks hulls : Int} {cs : List Value} {e e' : TypeId} (hr : r < h.next) (hs' : s < h.next) (hg : h.get r = some (.cells [.func (.func 49) ⟨[]⟩ ⟨[]⟩] e)) (hs : h.get s = some (.cells (.int .i64 tanks :: .int .i64 hulls :: cs) e')) :
    AW Try.prog 51 h.next h [.agg ⟨x.cells⟩, .pointer (some ⟨r, 0, none⟩), .pointer (some ⟨s, 0, none⟩)] (fun v _ => v = .bool (decide (¬ ((0 ≤ x.tank ∧ x.tank < tanks) ∧ (0 ≤ x.hull ∧ x.hull < hulls))))) := by
  refine fun51.call rfl (Nat.le_refl _) ?_
  unfold a51
  (focus ((try with_reducible apply wpC.to); (repeat' ((conv => whnf); first | ((apply Start.mk); (focus exact byNext); (focus exact byLen)) | ((apply New.mk); (focus exact byNid)) | ((apply Load1.mk); (focus exact byMem); (focus exact byVal)) | ((with_reducible apply Ix.pred); (focus first | assumption | exact fun _ => rfl); (focus omega); (focus omega)) | ((apply q_call); (focus exact byNext); (focus exact byLo); (focus (exact is_w)); first | ((apply q_allB) <;> (intro z_b _ _ _; first | exact Bool.noConfusion z_b | replace z_b := of_decide_eq_true z_b | replace z_b := of_decide_eq_false z_b | skip) <;> (first | contradiction | (revert z_b; intros))) | ((apply q_alli) <;> (intro _ _ _ _; try contradiction)) | ((apply q_allv); intro _ _ _)) | apply callC_any | apply forceV_any | apply forceL_any)); all_goals (conv => whnf); all_goals (try with_reducible apply At.mk)))
  all_goals (((first | (apply fin1; (focus first | exact .inl rfl | exact .inr rfl); focus exact byR1) | (apply fin2; (focus first | exact .inl rfl | exact .inr rfl); (focus exact byR1); (focus exact byR1)) | (apply fin3; (focus first | exact .inl rfl | exact .inr rfl); (focus exact byR1); (focus exact byR1); (focus exact byR1)) | (apply fin0; (focus first | exact .inl rfl | exact .inr rfl))); first | exact bool_t rfl (by omega) | exact bool_f rfl (by omega)))
theorem badValue_w {h : H} {x : RTest} : AW Try.prog 52 h.next h [.agg ⟨x.cells⟩] (fun v _ => v = .bool (decide (¬ isR x.lo x.hi))) := by
  refine fun52.call rfl (Nat.le_refl _) ?_
  unfold a52
  (focus ((try with_reducible apply wpC.to); (repeat' ((conv => whnf); first | ((apply Start.mk); (focus exact byNext); (focus exact byLen)) | ((apply New.mk); (focus exact byNid)) | ((apply LoadN.mk); (focus exact byMem); (focus exact byList)) | ((with_reducible apply Ix.pred); (focus first | assumption | exact fun _ => rfl); (focus omega); (focus omega)) | ((apply q_call); (focus exact byNext); (focus exact byLo); (focus (exact isRange_w)); first | ((apply q_allB) <;> (intro z_b _ _ _; first | exact Bool.noConfusion z_b | replace z_b := of_decide_eq_true z_b | replace z_b := of_decide_eq_false z_b | skip) <;> (first | contradiction | (revert z_b; intros))) | ((apply q_alli) <;> (intro _ _ _ _; try contradiction)) | ((apply q_allv); intro _ _ _)) | apply forceV_any | apply forceL_any)); all_goals (conv => whnf); all_goals (try with_reducible apply At.mk)))
  all_goals (first | (apply fin1; (focus first | exact .inl rfl | exact .inr rfl); focus exact byR1) | (apply fin2; (focus first | exact .inl rfl | exact .inr rfl); (focus exact byR1); (focus exact byR1)) | (apply fin3; (focus first | exact .inl rfl | exact .inr rfl); (focus exact byR1); (focus exact byR1); (focus exact byR1)) | (apply fin0; (focus first | exact .inl rfl | exact .inr rfl)))
  all_goals first | exact bool_t rfl (by assumption) | exact bool_f rfl (by simpa using ‹isR x.lo x.hi›)

structure Tab.Valid (T : Tab) : Prop where
  n : T.n ≤ 24
  t1 : 1 ≤ T.tanks
  t2 : T.tanks ≤ 6
  h1 : 1 ≤ T.hulls
  h2 : T.hulls ≤ 6
  b : isR T.blo T.bhi
  f : ∀ i, i < T.n → (0 ≤ (T.f i).tank ∧ (T.f i).tank < T.tanks) ∧ (0 ≤ (T.f i).hull ∧ (T.f i).hull < T.hulls) ∧ isR (T.f i).lo (T.f i).hi

theorem checkTable_w {h : H} {T : Tab} {m : Nat} (hm : m ≤ h.next) (hT : T.Ok m h) (hv : T.Valid) : AW Try.prog 34 h.next h [.agg ⟨T.cells⟩] (fun v _ => v = .int .i64 0) := by
  obtain ⟨n24, t1, t2, h1, h2, hb, hf⟩ := hv
  refine fun34.call rfl (Nat.le_refl _) ?_
  unfold a34
  (focus ((try with_reducible apply wpC.to); (repeat' ((conv => whnf); first | ((apply Start.mk); (focus exact byNext); (focus exact byLen)) | ((apply New.mk); (focus exact byNid)) | ((apply Need.mk); (focus exact byNeed)) | ((apply Fork.mk) <;> (intro _; try (exfalso; omega; done))) | ((apply Load1.mk); (focus exact byMem); (focus exact byVal)) | ((apply LoadN.mk); (focus exact byMem); (focus exact byList)) | ((apply Sto.mk); (focus exact bySto); (focus exact byLo); (focus exact byGet); (focus exact rfl); (focus exact rfl); (focus exact rfl); (focus exact byList)) | ((with_reducible apply Ix.pred); (focus first | assumption | exact fun _ => rfl); (focus omega); (focus omega)) | ((apply q_call); (focus exact byNext); (focus exact byLo); (focus (first | exact is_w | exact isRange_w)); first | ((apply q_allB) <;> (intro z_b _ _ _; first | exact Bool.noConfusion z_b | replace z_b := of_decide_eq_true z_b | replace z_b := of_decide_eq_false z_b | skip) <;> (first | contradiction | (revert z_b; intros))) | ((apply q_alli) <;> (intro _ _ _ _; try contradiction)) | ((apply q_allv); intro _ _ _)) | apply forceV_any | apply forceL_any)); all_goals (conv => whnf); all_goals (try with_reducible apply At.mk)))
  apply q_callB
  focus (exact byNext)
  focus (exact byLo)
  focus
    refine anyTests_w (m := m) (p := fun i => decide (¬ ((0 ≤ (T.f i).tank ∧ (T.f i).tank < T.tanks) ∧ (0 ≤ (T.f i).hull ∧ (T.f i).hull < T.hulls)))) (by (exact byOm)) (hT.same (by (exact bySame)) (Nat.le_refl _)) fun i k1 hi q => ?_
    have hq := q.next
    exact acall_of (badTest_w (x := T.f i) (r := h.next + 2) (s := h.next) (e := 97) (e' := 26) (tanks := T.tanks) (hulls := T.hulls) (by (exact byOm)) (by (exact byOm)) ((q.same _ (by (exact byOm))).trans (by (exact byGet))) ((q.same _ (by (exact byOm))).trans (by (exact byGet)))) rfl
  · intro hb' h2 q hn
    exfalso
    obtain ⟨i, hi, hp⟩ := of_decide_eq_true hb'
    have := of_decide_eq_true hp
    have := hf i hi
    omega
  intro _ h2 q hn
  (focus ((try with_reducible apply wpC.to); (repeat' ((conv => whnf); first | ((apply Start.mk); (focus exact byNext); (focus exact byLen)) | ((apply New.mk); (focus exact byNid)) | ((apply Need.mk); (focus exact byNeed)) | ((apply Fork.mk) <;> (intro _; try (exfalso; omega; done))) | ((apply Load1.mk); (focus exact byMem); (focus exact byVal)) | ((apply LoadN.mk); (focus exact byMem); (focus exact byList)) | ((apply Sto.mk); (focus exact bySto); (focus exact byLo); (focus exact byGet); (focus exact rfl); (focus exact rfl); (focus exact rfl); (focus exact byList)) | ((with_reducible apply Ix.pred); (focus first | assumption | exact fun _ => rfl); (focus omega); (focus omega)) | ((apply q_call); (focus exact byNext); (focus exact byLo); (focus (first | exact is_w | exact isRange_w)); first | ((apply q_allB) <;> (intro z_b _ _ _; first | exact Bool.noConfusion z_b | replace z_b := of_decide_eq_true z_b | replace z_b := of_decide_eq_false z_b | skip) <;> (first | contradiction | (revert z_b; intros))) | ((apply q_alli) <;> (intro _ _ _ _; try contradiction)) | ((apply q_allv); intro _ _ _)) | apply forceV_any | apply forceL_any)); all_goals (conv => whnf); all_goals (try with_reducible apply At.mk)))
  apply q_callB
  focus (exact byNext)
  focus (exact byLo)
  focus
    refine anyTests_w (m := m) (p := fun i => decide (¬ isR (T.f i).lo (T.f i).hi)) (by (exact byOm)) (hT.same (by (exact bySame)) (Nat.le_refl _)) fun i k1 hi q => ?_
    exact acall_of (badValue_w (x := T.f i)) rfl
  · intro hb' h2 q hn
    exfalso
    obtain ⟨i, hi, hp⟩ := of_decide_eq_true hb'
    exact of_decide_eq_true hp (hf i hi).2.2
  intro _ h2 q hn
  (focus ((try with_reducible apply wpC.to); (repeat' ((conv => whnf); first | ((apply Start.mk); (focus exact byNext); (focus exact byLen)) | ((apply New.mk); (focus exact byNid)) | ((apply Need.mk); (focus exact byNeed)) | ((apply Fork.mk) <;> (intro _; try (exfalso; omega; done))) | ((apply Load1.mk); (focus exact byMem); (focus exact byVal)) | ((apply LoadN.mk); (focus exact byMem); (focus exact byList)) | ((apply Sto.mk); (focus exact bySto); (focus exact byLo); (focus exact byGet); (focus exact rfl); (focus exact rfl); (focus exact rfl); (focus exact byList)) | ((with_reducible apply Ix.pred); (focus first | assumption | exact fun _ => rfl); (focus omega); (focus omega)) | ((apply q_call); (focus exact byNext); (focus exact byLo); (focus (first | exact is_w | exact isRange_w)); first | ((apply q_allB) <;> (intro z_b _ _ _; first | exact Bool.noConfusion z_b | replace z_b := of_decide_eq_true z_b | replace z_b := of_decide_eq_false z_b | skip) <;> (first | contradiction | (revert z_b; intros))) | ((apply q_alli) <;> (intro _ _ _ _; try contradiction)) | ((apply q_allv); intro _ _ _)) | apply forceV_any | apply forceL_any)); all_goals (conv => whnf); all_goals (try with_reducible apply At.mk)))
  (first | (apply fin1; (focus first | exact .inl rfl | exact .inr rfl); focus exact byR1) | (apply fin2; (focus first | exact .inl rfl | exact .inr rfl); (focus exact byR1); (focus exact byR1)) | (apply fin3; (focus first | exact .inl rfl | exact .inr rfl); (focus exact byR1); (focus exact byR1); (focus exact byR1)) | (apply fin0; (focus first | exact .inl rfl | exact .inr rfl)))
  rfl

end AE.Try
