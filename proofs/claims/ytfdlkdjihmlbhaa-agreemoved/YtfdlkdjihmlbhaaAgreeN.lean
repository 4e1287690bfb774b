/- Walks of agree: the definitions' checks. -/
import Derived.Test.YtfdlkdjihmlbhaaAgreeM
set_option linter.unusedVariables false
set_option linter.unusedSimpArgs false
set_option linter.unusedSectionVars false
namespace AE.Try
set_option linter.unusedSimpArgs false
open Go AE AE.Ag AgreeS Go.Proofs
set_option maxRecDepth 100000

theorem values_w {h : H} {lo hi : Int} : AW Try.prog 43 h.next h [.agg ⟨[.int .i64 lo, .int .i64 hi]⟩] (fun v _ => v = .bool (decide (isR lo hi))) := by
  refine fun43.call rfl (Nat.le_refl _) ?_
  unfold a43
  (focus ((try with_reducible apply wpC.to); (repeat' ((conv => whnf); first | ((apply Start.mk); (focus exact byNext); (focus exact byLen)) | ((apply New.mk); (focus exact byNid)) | ((apply Fork.mk) <;> (intro _; try (exfalso; omega; done))) | ((apply Load1.mk); (focus exact byMem); (focus exact byVal)) | ((with_reducible apply Ix.pred); (focus first | assumption | exact fun _ => rfl); (focus omega); (focus omega)) | apply forceV_any | apply forceL_any)); all_goals (conv => whnf); all_goals (try with_reducible apply At.mk)))
  all_goals (first | (apply fin1; (focus first | exact .inl rfl | exact .inr rfl); focus exact byR1) | (apply fin2; (focus first | exact .inl rfl | exact .inr rfl); (focus exact byR1); (focus exact byR1)) | (apply fin3; (focus first | exact .inl rfl | exact .inr rfl); (focus exact byR1); (focus exact byR1); (focus exact byR1)) | (apply fin0; (focus first | exact .inl rfl | exact .inr rfl)))
  all_goals first | exact bool_t rfl (by unfold isR; omega) | exact bool_f rfl (by unfold isR; omega)

theorem great_w {h : H} {T : Tab} : AW Try.prog 24 h.next h [.agg ⟨T.cells⟩] (fun v _ => v = .bool (decide (30 < T.n))) := by
  refine fun24.call rfl (Nat.le_refl _) ?_
  unfold a24
  (focus ((try with_reducible apply wpC.to); (repeat' ((conv => whnf); first | ((apply Start.mk); (focus exact byNext); (focus exact byLen)) | ((apply New.mk); (focus exact byNid)) | ((apply Fork.mk) <;> (intro _; try (exfalso; omega; done))) | ((apply Load1.mk); (focus exact byMem); (focus exact byVal)) | ((with_reducible apply Ix.pred); (focus first | assumption | exact fun _ => rfl); (focus omega); (focus omega)) | apply forceV_any | apply forceL_any)); all_goals (conv => whnf); all_goals (try with_reducible apply At.mk)))
  all_goals (((first | (apply fin1; (focus first | exact .inl rfl | exact .inr rfl); focus exact byR1) | (apply fin2; (focus first | exact .inl rfl | exact .inr rfl); (focus exact byR1); (focus exact byR1)) | (apply fin3; (focus first | exact .inl rfl | exact .inr rfl); (focus exact byR1); (focus exact byR1); (focus exact byR1)) | (apply fin0; (focus first | exact .inl rfl | exact .inr rfl))); first | exact bool_t rfl (by omega) | exact bool_f rfl (by omega)))

set_option maxHeartbeats 1000000 in
theorem refTable_w {h : H} {T : Tab} {m : Nat} (hm : m ≤ h.next) (hT : T.Ok m h) :
    AW Try.prog 25 h.next h [.agg ⟨T.cells⟩] (fun v _ => ∃ e, v = .int .i64 e ∧ (e = 0 ↔ T.Valid)) := by
  obtain ⟨te, ti, tr, tl⟩ := hT
  refine fun25.call rfl (Nat.le_refl _) ?_
  unfold a25
  (focus ((try with_reducible apply wpC.to); (repeat' ((conv => whnf); first | ((apply Start.mk); (focus exact byNext); (focus exact byLen)) | ((apply New.mk); (focus exact byNid)) | ((apply Need.mk); (focus exact byNeed)) | ((apply Fork.mk) <;> (intro _; try (exfalso; omega; done))) | ((apply Load1.mk); (focus exact byMem); (focus exact byVal)) | ((apply LoadN.mk); (focus exact byMem); (focus exact byList)) | ((apply Sto.mk); (focus exact bySto); (focus exact byLo); (focus exact byGet); (focus exact rfl); (focus exact rfl); (focus exact rfl); (focus exact byList)) | ((with_reducible apply Ix.nat); (focus exact rfl); (focus omega)) | ((with_reducible apply Ix.natp); (focus assumption); (focus omega)) | ((with_reducible apply Ix.pred); (focus first | assumption | exact fun _ => rfl); (focus omega); (focus omega)) | ((with_reducible apply Ix.lit); (focus exact byLit); (focus first | assumption | exact fun _ => rfl); (focus omega); (focus omega)) | ((with_reducible apply Ix.int); (focus exact rfl); (focus omega); (focus omega)) | ((with_reducible apply Ix.intp); (focus assumption); (focus omega); (focus omega)) | ((apply q_call); (focus exact byNext); (focus exact byLo); (focus (exact values_w)); first | ((apply q_allB) <;> (intro z_b _ _ _; first | exact Bool.noConfusion z_b | replace z_b := of_decide_eq_true z_b | replace z_b := of_decide_eq_false z_b | skip) <;> (first | contradiction | (revert z_b; intros))) | ((apply q_alli) <;> (intro _ _ _ _; try contradiction)) | ((apply q_allv); intro _ _ _)) | apply forceV_any | apply forceL_any)); all_goals (conv => whnf); all_goals (try with_reducible apply At.mk)))
  · (first | (apply fin1; (focus first | exact .inl rfl | exact .inr rfl); focus exact byR1) | (apply fin2; (focus first | exact .inl rfl | exact .inr rfl); (focus exact byR1); (focus exact byR1)) | (apply fin3; (focus first | exact .inl rfl | exact .inr rfl); (focus exact byR1); (focus exact byR1); (focus exact byR1)) | (apply fin0; (focus first | exact .inl rfl | exact .inr rfl)))
    exact ⟨6, rfl, by omega, fun k => by have := k.n; omega⟩
  · (first | (apply fin1; (focus first | exact .inl rfl | exact .inr rfl); focus exact byR1) | (apply fin2; (focus first | exact .inl rfl | exact .inr rfl); (focus exact byR1); (focus exact byR1)) | (apply fin3; (focus first | exact .inl rfl | exact .inr rfl); (focus exact byR1); (focus exact byR1); (focus exact byR1)) | (apply fin0; (focus first | exact .inl rfl | exact .inr rfl)))
    exact ⟨2, rfl, by omega, fun k => by have := k.t1; omega⟩
  · (first | (apply fin1; (focus first | exact .inl rfl | exact .inr rfl); focus exact byR1) | (apply fin2; (focus first | exact .inl rfl | exact .inr rfl); (focus exact byR1); (focus exact byR1)) | (apply fin3; (focus first | exact .inl rfl | exact .inr rfl); (focus exact byR1); (focus exact byR1); (focus exact byR1)) | (apply fin0; (focus first | exact .inl rfl | exact .inr rfl)))
    exact ⟨2, rfl, by omega, fun k => by have := k.t2; omega⟩
  · (first | (apply fin1; (focus first | exact .inl rfl | exact .inr rfl); focus exact byR1) | (apply fin2; (focus first | exact .inl rfl | exact .inr rfl); (focus exact byR1); (focus exact byR1)) | (apply fin3; (focus first | exact .inl rfl | exact .inr rfl); (focus exact byR1); (focus exact byR1); (focus exact byR1)) | (apply fin0; (focus first | exact .inl rfl | exact .inr rfl)))
    exact ⟨2, rfl, by omega, fun k => by have := k.h1; omega⟩
  · (first | (apply fin1; (focus first | exact .inl rfl | exact .inr rfl); focus exact byR1) | (apply fin2; (focus first | exact .inl rfl | exact .inr rfl); (focus exact byR1); (focus exact byR1)) | (apply fin3; (focus first | exact .inl rfl | exact .inr rfl); (focus exact byR1); (focus exact byR1); (focus exact byR1)) | (apply fin0; (focus first | exact .inl rfl | exact .inr rfl)))
    exact ⟨2, rfl, by omega, fun k => by have := k.h2; omega⟩
  rotate_left
  · (first | (apply fin1; (focus first | exact .inl rfl | exact .inr rfl); focus exact byR1) | (apply fin2; (focus first | exact .inl rfl | exact .inr rfl); (focus exact byR1); (focus exact byR1)) | (apply fin3; (focus first | exact .inl rfl | exact .inr rfl); (focus exact byR1); (focus exact byR1); (focus exact byR1)) | (apply fin0; (focus first | exact .inl rfl | exact .inr rfl)))
    exact ⟨2, rfl, by omega, fun k => absurd k.b (by assumption)⟩
  rename_i hR h1 q1 hn1
  refine wp_loop (fun s : Nat => [(1, .pointer (some ⟨h.next, 0, none⟩)), (3, .int .i64 s)])
    (fun s h4 => Same h.next h h4 ∧ h.next + 1 ≤ h4.next ∧ s ≤ T.n ∧ h4.get h.next = some (.cells T.cells 26) ∧ ∀ i, i < s → (0 ≤ (T.f i).tank ∧ (T.f i).tank < T.tanks) ∧ (0 ≤ (T.f i).hull ∧ (T.f i).hull < T.hulls)) (fun s => T.n - s) 0
    ⟨rfl, rfl, trivial⟩ ⟨by (exact bySame), by (exact byOm), by omega, by (exact byGet), fun i hi => by omega⟩ ?_
  rintro s g h4 ⟨sm, hn4, hs, g1, hti⟩ K hK
  have ti4 : Els h4 T.a T.n 4 (fun i => (T.f i).cells) := ti.same (sm.mono hm) tr
  (focus ((try with_reducible apply wpC.to); (repeat' ((conv => whnf); first | ((apply Start.mk); (focus exact byNext); (focus exact byLen)) | ((apply New.mk); (focus exact byNid)) | ((apply Need.mk); (focus exact byNeed)) | ((apply Fork.mk) <;> (intro _; try (exfalso; omega; done))) | ((apply Load1.mk); (focus exact byMem); (focus exact byVal)) | ((apply LoadN.mk); (focus exact byMem); (focus exact byList)) | ((apply Sto.mk); (focus exact bySto); (focus exact byLo); (focus exact byGet); (focus exact rfl); (focus exact rfl); (focus exact rfl); (focus exact byList)) | ((with_reducible apply Ix.nat); (focus exact rfl); (focus omega)) | ((with_reducible apply Ix.natp); (focus assumption); (focus omega)) | ((with_reducible apply Ix.pred); (focus first | assumption | exact fun _ => rfl); (focus omega); (focus omega)) | ((with_reducible apply Ix.lit); (focus exact byLit); (focus first | assumption | exact fun _ => rfl); (focus omega); (focus omega)) | ((with_reducible apply Ix.int); (focus exact rfl); (focus omega); (focus omega)) | ((with_reducible apply Ix.intp); (focus assumption); (focus omega); (focus omega)) | ((apply q_call); (focus exact byNext); (focus exact byLo); (focus (exact values_w)); first | ((apply q_allB) <;> (intro z_b _ _ _; first | exact Bool.noConfusion z_b | replace z_b := of_decide_eq_true z_b | replace z_b := of_decide_eq_false z_b | skip) <;> (first | contradiction | (revert z_b; intros))) | ((apply q_alli) <;> (intro _ _ _ _; try contradiction)) | ((apply q_allv); intro _ _ _)) | apply forceV_any | apply forceL_any)); all_goals (conv => whnf); all_goals (try with_reducible apply At.mk)))
  · (first | (apply fin1; (focus first | exact .inl rfl | exact .inr rfl); focus exact byR1) | (apply fin2; (focus first | exact .inl rfl | exact .inr rfl); (focus exact byR1); (focus exact byR1)) | (apply fin3; (focus first | exact .inl rfl | exact .inr rfl); (focus exact byR1); (focus exact byR1); (focus exact byR1)) | (apply fin0; (focus first | exact .inl rfl | exact .inr rfl)))
    exact ⟨3, rfl, by omega, fun k => by have := k.f s (by omega); omega⟩
  · (first | (apply fin1; (focus first | exact .inl rfl | exact .inr rfl); focus exact byR1) | (apply fin2; (focus first | exact .inl rfl | exact .inr rfl); (focus exact byR1); (focus exact byR1)) | (apply fin3; (focus first | exact .inl rfl | exact .inr rfl); (focus exact byR1); (focus exact byR1); (focus exact byR1)) | (apply fin0; (focus first | exact .inl rfl | exact .inr rfl)))
    exact ⟨3, rfl, by omega, fun k => by have := k.f s (by omega); omega⟩
  · (first | (apply fin1; (focus first | exact .inl rfl | exact .inr rfl); focus exact byR1) | (apply fin2; (focus first | exact .inl rfl | exact .inr rfl); (focus exact byR1); (focus exact byR1)) | (apply fin3; (focus first | exact .inl rfl | exact .inr rfl); (focus exact byR1); (focus exact byR1); (focus exact byR1)) | (apply fin0; (focus first | exact .inl rfl | exact .inr rfl)))
    exact ⟨3, rfl, by omega, fun k => by have := k.f s (by omega); omega⟩
  · (first | (apply fin1; (focus first | exact .inl rfl | exact .inr rfl); focus exact byR1) | (apply fin2; (focus first | exact .inl rfl | exact .inr rfl); (focus exact byR1); (focus exact byR1)) | (apply fin3; (focus first | exact .inl rfl | exact .inr rfl); (focus exact byR1); (focus exact byR1); (focus exact byR1)) | (apply fin0; (focus first | exact .inl rfl | exact .inr rfl)))
    exact ⟨3, rfl, by omega, fun k => by have := k.f s (by omega); omega⟩
  · refine hK (s + 1) _ _ ⟨rfl, int_of rfl (by omega), trivial⟩ ⟨by (exact bySame), by (exact byOm), by omega, by (exact byGet), fun i hi => ?_⟩ (by omega)
    by_cases e : i = s
    · subst e; omega
    · exact hti i (by omega)
  have : s = T.n := by omega
  subst this
  clear hK K
  refine wp_loop (fun u : Nat => [(1, .pointer (some ⟨h.next, 0, none⟩)), (5, .int .i64 u)])
    (fun u h4 => Same h.next h h4 ∧ h.next + 1 ≤ h4.next ∧ u ≤ T.n ∧ h4.get h.next = some (.cells T.cells 26) ∧ ∀ i, i < u → isR (T.f i).lo (T.f i).hi) (fun u => T.n - u) 0
    ⟨rfl, rfl, trivial⟩ ⟨by (exact bySame), by (exact byOm), by omega, by (exact byGet), fun i hi => by omega⟩ ?_
  clear g1 hn4 sm g ti4
  rintro u g h5 ⟨sm, hn5, hu, g1, hri⟩ K hK
  have ti5 : Els h5 T.a T.n 4 (fun i => (T.f i).cells) := ti.same (sm.mono hm) tr
  (focus ((try with_reducible apply wpC.to); (repeat' ((conv => whnf); first | ((apply Start.mk); (focus exact byNext); (focus exact byLen)) | ((apply New.mk); (focus exact byNid)) | ((apply Need.mk); (focus exact byNeed)) | ((apply Fork.mk) <;> (intro _; try (exfalso; omega; done))) | ((apply Load1.mk); (focus exact byMem); (focus exact byVal)) | ((apply LoadN.mk); (focus exact byMem); (focus exact byList)) | ((apply Sto.mk); (focus exact bySto); (focus exact byLo); (focus exact byGet); (focus exact rfl); (focus exact rfl); (focus exact rfl); (focus exact byList)) | ((with_reducible apply Ix.nat); (focus exact rfl); (focus omega)) | ((with_reducible apply Ix.natp); (focus assumption); (focus omega)) | ((with_reducible apply Ix.pred); (focus first | assumption | exact fun _ => rfl); (focus omega); (focus omega)) | ((with_reducible apply Ix.lit); (focus exact byLit); (focus first | assumption | exact fun _ => rfl); (focus omega); (focus omega)) | ((with_reducible apply Ix.int); (focus exact rfl); (focus omega); (focus omega)) | ((with_reducible apply Ix.intp); (focus assumption); (focus omega); (focus omega)) | ((apply q_call); (focus exact byNext); (focus exact byLo); (focus (exact values_w)); first | ((apply q_allB) <;> (intro z_b _ _ _; first | exact Bool.noConfusion z_b | replace z_b := of_decide_eq_true z_b | replace z_b := of_decide_eq_false z_b | skip) <;> (first | contradiction | (revert z_b; intros))) | ((apply q_alli) <;> (intro _ _ _ _; try contradiction)) | ((apply q_allv); intro _ _ _)) | apply forceV_any | apply forceL_any)); all_goals (conv => whnf); all_goals (try with_reducible apply At.mk)))
  · refine LoadN.mk (l := [.int .i64 (T.f u).lo, .int .i64 (T.f u).hi]) (load_part (l := (T.f u).cells) (by (exact byOld)) rfl) Is.rfl ?_
    (focus ((try with_reducible apply wpC.to); (repeat' ((conv => whnf); first | ((apply Start.mk); (focus exact byNext); (focus exact byLen)) | ((apply New.mk); (focus exact byNid)) | ((apply Need.mk); (focus exact byNeed)) | ((apply Fork.mk) <;> (intro _; try (exfalso; omega; done))) | ((apply Load1.mk); (focus exact byMem); (focus exact byVal)) | ((apply LoadN.mk); (focus exact byMem); (focus exact byList)) | ((apply Sto.mk); (focus exact bySto); (focus exact byLo); (focus exact byGet); (focus exact rfl); (focus exact rfl); (focus exact rfl); (focus exact byList)) | ((with_reducible apply Ix.nat); (focus exact rfl); (focus omega)) | ((with_reducible apply Ix.natp); (focus assumption); (focus omega)) | ((with_reducible apply Ix.pred); (focus first | assumption | exact fun _ => rfl); (focus omega); (focus omega)) | ((with_reducible apply Ix.lit); (focus exact byLit); (focus first | assumption | exact fun _ => rfl); (focus omega); (focus omega)) | ((with_reducible apply Ix.int); (focus exact rfl); (focus omega); (focus omega)) | ((with_reducible apply Ix.intp); (focus assumption); (focus omega); (focus omega)) | ((apply q_call); (focus exact byNext); (focus exact byLo); (focus (exact values_w)); first | ((apply q_allB) <;> (intro z_b _ _ _; first | exact Bool.noConfusion z_b | replace z_b := of_decide_eq_true z_b | replace z_b := of_decide_eq_false z_b | skip) <;> (first | contradiction | (revert z_b; intros))) | ((apply q_alli) <;> (intro _ _ _ _; try contradiction)) | ((apply q_allv); intro _ _ _)) | apply forceV_any | apply forceL_any)); all_goals (conv => whnf); all_goals (try with_reducible apply At.mk)))
    · refine hK (u + 1) _ _ ⟨rfl, int_of rfl (by omega), trivial⟩ ⟨by (exact bySame), by (exact byOm), by omega, by (exact byGet), fun i hi => ?_⟩ (by omega)
      by_cases e : i = u
      · subst e; assumption
      · exact hri i (by omega)
    · (first | (apply fin1; (focus first | exact .inl rfl | exact .inr rfl); focus exact byR1) | (apply fin2; (focus first | exact .inl rfl | exact .inr rfl); (focus exact byR1); (focus exact byR1)) | (apply fin3; (focus first | exact .inl rfl | exact .inr rfl); (focus exact byR1); (focus exact byR1); (focus exact byR1)) | (apply fin0; (focus first | exact .inl rfl | exact .inr rfl)))
      exact ⟨2, rfl, by omega, fun k => absurd (k.f u (by omega)).2.2 (by assumption)⟩
  · (first | (apply fin1; (focus first | exact .inl rfl | exact .inr rfl); focus exact byR1) | (apply fin2; (focus first | exact .inl rfl | exact .inr rfl); (focus exact byR1); (focus exact byR1)) | (apply fin3; (focus first | exact .inl rfl | exact .inr rfl); (focus exact byR1); (focus exact byR1); (focus exact byR1)) | (apply fin0; (focus first | exact .inl rfl | exact .inr rfl)))
    refine ⟨0, rfl, fun _ => ⟨by omega, by omega, by omega, by omega, by omega, by assumption, fun i hi => ⟨(hti i hi).1, (hti i hi).2, hri i (by omega)⟩⟩, fun _ => rfl⟩

theorem fine_w {h : H} {T : Tab} {m : Nat} (hm : m ≤ h.next) (hT : T.Ok m h) : AW Try.prog 9 h.next h [.agg ⟨T.cells⟩] (fun v _ => ∃ b, v = .bool b ∧ (b = true ↔ T.Valid)) := by
  refine fun9.call rfl (Nat.le_refl _) ?_
  unfold a9
  (focus ((try with_reducible apply wpC.to); (repeat' ((conv => whnf); first | ((apply Start.mk); (focus exact byNext); (focus exact byLen)) | ((apply New.mk); (focus exact byNid)) | ((apply Fork.mk) <;> (intro _; try (exfalso; omega; done))) | ((apply LoadN.mk); (focus exact byMem); (focus exact byList)) | ((with_reducible apply Ix.pred); (focus first | assumption | exact fun _ => rfl); (focus omega); (focus omega)) | apply forceV_any | apply forceL_any)); all_goals (conv => whnf); all_goals (try with_reducible apply At.mk)))
  apply q_callB
  focus (exact byNext)
  focus (exact byLo)
  focus exact great_w (T := T)
  · intro hb h2 q2 hn2
    have hb := of_decide_eq_true hb
    (focus ((try with_reducible apply wpC.to); (repeat' ((conv => whnf); first | ((apply Start.mk); (focus exact byNext); (focus exact byLen)) | ((apply New.mk); (focus exact byNid)) | ((apply Fork.mk) <;> (intro _; try (exfalso; omega; done))) | ((apply LoadN.mk); (focus exact byMem); (focus exact byList)) | ((with_reducible apply Ix.pred); (focus first | assumption | exact fun _ => rfl); (focus omega); (focus omega)) | apply forceV_any | apply forceL_any)); all_goals (conv => whnf); all_goals (try with_reducible apply At.mk)))
    (first | (apply fin1; (focus first | exact .inl rfl | exact .inr rfl); focus exact byR1) | (apply fin2; (focus first | exact .inl rfl | exact .inr rfl); (focus exact byR1); (focus exact byR1)) | (apply fin3; (focus first | exact .inl rfl | exact .inr rfl); (focus exact byR1); (focus exact byR1); (focus exact byR1)) | (apply fin0; (focus first | exact .inl rfl | exact .inr rfl)))
    exact ⟨false, rfl, by simp, fun k => by have := k.n; omega⟩
  intro hb h2 q2 hn2
  (focus ((try with_reducible apply wpC.to); (repeat' ((conv => whnf); first | ((apply Start.mk); (focus exact byNext); (focus exact byLen)) | ((apply New.mk); (focus exact byNid)) | ((apply Fork.mk) <;> (intro _; try (exfalso; omega; done))) | ((apply LoadN.mk); (focus exact byMem); (focus exact byList)) | ((with_reducible apply Ix.pred); (focus first | assumption | exact fun _ => rfl); (focus omega); (focus omega)) | apply forceV_any | apply forceL_any)); all_goals (conv => whnf); all_goals (try with_reducible apply At.mk)))
  apply q_call
  focus (exact byNext)
  focus (exact byLo)
  focus exact refTable_w (T := T) (m := m) (by (exact byOm)) (hT.same (by (exact bySame)) (Nat.le_refl _))
  rintro _ h3 ⟨e, rfl, he⟩ q3 hn3
  (focus ((try with_reducible apply wpC.to); (repeat' ((conv => whnf); first | ((apply Start.mk); (focus exact byNext); (focus exact byLen)) | ((apply New.mk); (focus exact byNid)) | ((apply Fork.mk) <;> (intro _; try (exfalso; omega; done))) | ((apply LoadN.mk); (focus exact byMem); (focus exact byList)) | ((with_reducible apply Ix.pred); (focus first | assumption | exact fun _ => rfl); (focus omega); (focus omega)) | apply forceV_any | apply forceL_any)); all_goals (conv => whnf); all_goals (try with_reducible apply At.mk)))
  · (first | (apply fin1; (focus first | exact .inl rfl | exact .inr rfl); focus exact byR1) | (apply fin2; (focus first | exact .inl rfl | exact .inr rfl); (focus exact byR1); (focus exact byR1)) | (apply fin3; (focus first | exact .inl rfl | exact .inr rfl); (focus exact byR1); (focus exact byR1); (focus exact byR1)) | (apply fin0; (focus first | exact .inl rfl | exact .inr rfl)))
    exact ⟨true, rfl, fun _ => he.1 (by assumption), fun _ => rfl⟩
  · (first | (apply fin1; (focus first | exact .inl rfl | exact .inr rfl); focus exact byR1) | (apply fin2; (focus first | exact .inl rfl | exact .inr rfl); (focus exact byR1); (focus exact byR1)) | (apply fin3; (focus first | exact .inl rfl | exact .inr rfl); (focus exact byR1); (focus exact byR1); (focus exact byR1)) | (apply fin0; (focus first | exact .inl rfl | exact .inr rfl)))
    exact ⟨false, rfl, by simp, fun k => absurd (he.2 k) (by assumption)⟩

/-- A table that is valid. -/
theorem refTable_ok {h : H} {T : Tab} {m : Nat} (hm : m ≤ h.next) (hT : T.Ok m h) (hv : T.Valid) : AW Try.prog 25 h.next h [.agg ⟨T.cells⟩] (fun v _ => v = .int .i64 0) :=
  let ⟨v, h', ⟨e, h1, h2⟩, a⟩ := refTable_w hm hT
  ⟨v, h', by rw [h1, h2.2 hv], a⟩

theorem refWithin_w {h : H} {L : Arr} {m : Nat} (hm : m ≤ h.next) (hL : L.Ok m h) : AW Try.prog 33 h.next h [.slice L.b L.n L.c] (fun v _ => v = .bool (decide (∀ i, i < L.n → -1099511627776 ≤ L.f i ∧ L.f i ≤ 1099511627776))) := by
  obtain ⟨le, li, lr, ll⟩ := hL
  refine fun33.call rfl (Nat.le_refl _) ?_
  unfold a33
  (focus ((try with_reducible apply wpC.to); (repeat' ((conv => whnf); first | ((apply Start.mk); (focus exact byNext); (focus exact byLen)) | ((apply Need.mk); (focus exact byNeed)) | ((apply Fork.mk) <;> (intro _; try (exfalso; omega; done))) | ((apply Load1.mk); (focus exact byMem); (focus exact byVal)) | ((with_reducible apply Ix.nat); (focus exact rfl); (focus omega)) | ((with_reducible apply Ix.natp); (focus assumption); (focus omega)) | ((with_reducible apply Ix.pred); (focus first | assumption | exact fun _ => rfl); (focus omega); (focus omega)) | ((with_reducible apply Ix.lit); (focus exact byLit); (focus first | assumption | exact fun _ => rfl); (focus omega); (focus omega)) | ((with_reducible apply Ix.int); (focus exact rfl); (focus omega); (focus omega)) | ((with_reducible apply Ix.intp); (focus assumption); (focus omega); (focus omega)) | apply forceV_any | apply forceL_any)); all_goals (conv => whnf); all_goals (try with_reducible apply At.mk)))
  refine wp_loop (fun s : Nat => [(0, .slice L.b L.n L.c), (3, .int .i64 s)]) (fun s h1 => Quiet h.next h h1 ∧ s ≤ L.n ∧ ∀ i, i < s → -1099511627776 ≤ L.f i ∧ L.f i ≤ 1099511627776) (fun s => L.n - s) 0 ⟨rfl, rfl, trivial⟩ ⟨by (exact byQuiet), by omega, fun i hi => by omega⟩ ?_
  rintro s g h1 ⟨q, hs, hp⟩ K hK
  have hnx := q.next
  (focus ((try with_reducible apply wpC.to); (repeat' ((conv => whnf); first | ((apply Start.mk); (focus exact byNext); (focus exact byLen)) | ((apply Need.mk); (focus exact byNeed)) | ((apply Fork.mk) <;> (intro _; try (exfalso; omega; done))) | ((apply Load1.mk); (focus exact byMem); (focus exact byVal)) | ((with_reducible apply Ix.nat); (focus exact rfl); (focus omega)) | ((with_reducible apply Ix.natp); (focus assumption); (focus omega)) | ((with_reducible apply Ix.pred); (focus first | assumption | exact fun _ => rfl); (focus omega); (focus omega)) | ((with_reducible apply Ix.lit); (focus exact byLit); (focus first | assumption | exact fun _ => rfl); (focus omega); (focus omega)) | ((with_reducible apply Ix.int); (focus exact rfl); (focus omega); (focus omega)) | ((with_reducible apply Ix.intp); (focus assumption); (focus omega); (focus omega)) | apply forceV_any | apply forceL_any)); all_goals (conv => whnf); all_goals (try with_reducible apply At.mk)))
  · (first | (apply fin1; (focus first | exact .inl rfl | exact .inr rfl); focus exact byR1) | (apply fin2; (focus first | exact .inl rfl | exact .inr rfl); (focus exact byR1); (focus exact byR1)) | (apply fin3; (focus first | exact .inl rfl | exact .inr rfl); (focus exact byR1); (focus exact byR1); (focus exact byR1)) | (apply fin0; (focus first | exact .inl rfl | exact .inr rfl)))
    exact bool_f rfl fun k => by have := k s (by omega); omega
  · (first | (apply fin1; (focus first | exact .inl rfl | exact .inr rfl); focus exact byR1) | (apply fin2; (focus first | exact .inl rfl | exact .inr rfl); (focus exact byR1); (focus exact byR1)) | (apply fin3; (focus first | exact .inl rfl | exact .inr rfl); (focus exact byR1); (focus exact byR1); (focus exact byR1)) | (apply fin0; (focus first | exact .inl rfl | exact .inr rfl)))
    exact bool_f rfl fun k => by have := k s (by omega); omega
  · refine hK (s + 1) _ _ ⟨rfl, int_of rfl (by omega), trivial⟩ ⟨by (exact byQuiet), by omega, fun i hi => ?_⟩ (by omega)
    by_cases e : i = s
    · subst e; omega
    · exact hp i (by omega)
  · (first | (apply fin1; (focus first | exact .inl rfl | exact .inr rfl); focus exact byR1) | (apply fin2; (focus first | exact .inl rfl | exact .inr rfl); (focus exact byR1); (focus exact byR1)) | (apply fin3; (focus first | exact .inl rfl | exact .inr rfl); (focus exact byR1); (focus exact byR1); (focus exact byR1)) | (apply fin0; (focus first | exact .inl rfl | exact .inr rfl)))
    exact bool_t rfl fun i hi => hp i (by omega)

set_option maxHeartbeats 1000000 in
theorem refTruth_w {h : H} {T : Tab} {t : Tru} {m : Nat} (hm : m ≤ h.next) (hT : T.Ok m h) (hv : T.Valid) (ht : t.Ok m h) :
    AW Try.prog 14 h.next h [.agg ⟨T.cells⟩, .agg ⟨t.cells⟩] (fun v _ => ∃ e, v = .int .i64 e ∧ (e = 0 ↔ TruthOk T t)) := by
  obtain ⟨te, ti, tr, tl⟩ := hT
  have hT : T.Ok m h := ⟨te, ti, tr, tl⟩
  obtain ⟨⟨ae, ai, ar, al⟩, ⟨ce, ci, cr, cl⟩⟩ := ht
  have hA : t.A.Ok m h := ⟨ae, ai, ar, al⟩
  have hC : t.C.Ok m h := ⟨ce, ci, cr, cl⟩
  refine fun14.call rfl (Nat.le_refl _) ?_
  unfold a14
  (focus ((try with_reducible apply wpC.to); (repeat' ((conv => whnf); first | ((apply Start.mk); (focus exact byNext); (focus exact byLen)) | ((apply New.mk); (focus exact byNid)) | ((apply Need.mk); (focus exact byNeed)) | ((apply Fork.mk) <;> (intro _; try (exfalso; omega; done))) | ((apply Load1.mk); (focus exact byMem); (focus exact byVal)) | ((apply LoadN.mk); (focus exact byMem); (focus exact byList)) | ((apply Sto.mk); (focus exact bySto); (focus exact byLo); (focus exact byGet); (focus exact rfl); (focus exact rfl); (focus exact rfl); (focus exact byList)) | ((with_reducible apply Ix.nat); (focus exact rfl); (focus omega)) | ((with_reducible apply Ix.natp); (focus assumption); (focus omega)) | ((with_reducible apply Ix.pred); (focus first | assumption | exact fun _ => rfl); (focus omega); (focus omega)) | ((with_reducible apply Ix.lit); (focus exact byLit); (focus first | assumption | exact fun _ => rfl); (focus omega); (focus omega)) | ((with_reducible apply Ix.int); (focus exact rfl); (focus omega); (focus omega)) | ((with_reducible apply Ix.intp); (focus assumption); (focus omega); (focus omega)) | apply forceV_any | apply forceL_any)); all_goals (conv => whnf); all_goals (try with_reducible apply At.mk)))
  apply q_callv
  focus (exact byNext)
  focus (exact byLo)
  focus exact refTable_ok (m := m) (by (exact byOm)) (hT.same (by (exact bySame)) (Nat.le_refl _)) hv
  intro h1 q1 hn1
  (focus ((try with_reducible apply wpC.to); (repeat' ((conv => whnf); first | ((apply Start.mk); (focus exact byNext); (focus exact byLen)) | ((apply New.mk); (focus exact byNid)) | ((apply Need.mk); (focus exact byNeed)) | ((apply Fork.mk) <;> (intro _; try (exfalso; omega; done))) | ((apply Load1.mk); (focus exact byMem); (focus exact byVal)) | ((apply LoadN.mk); (focus exact byMem); (focus exact byList)) | ((apply Sto.mk); (focus exact bySto); (focus exact byLo); (focus exact byGet); (focus exact rfl); (focus exact rfl); (focus exact rfl); (focus exact byList)) | ((with_reducible apply Ix.nat); (focus exact rfl); (focus omega)) | ((with_reducible apply Ix.natp); (focus assumption); (focus omega)) | ((with_reducible apply Ix.pred); (focus first | assumption | exact fun _ => rfl); (focus omega); (focus omega)) | ((with_reducible apply Ix.lit); (focus exact byLit); (focus first | assumption | exact fun _ => rfl); (focus omega); (focus omega)) | ((with_reducible apply Ix.int); (focus exact rfl); (focus omega); (focus omega)) | ((with_reducible apply Ix.intp); (focus assumption); (focus omega); (focus omega)) | apply forceV_any | apply forceL_any)); all_goals (conv => whnf); all_goals (try with_reducible apply At.mk)))
  · (first | (apply fin1; (focus first | exact .inl rfl | exact .inr rfl); focus exact byR1) | (apply fin2; (focus first | exact .inl rfl | exact .inr rfl); (focus exact byR1); (focus exact byR1)) | (apply fin3; (focus first | exact .inl rfl | exact .inr rfl); (focus exact byR1); (focus exact byR1); (focus exact byR1)) | (apply fin0; (focus first | exact .inl rfl | exact .inr rfl)))
    exact ⟨15, rfl, by omega, fun k => by have := k.an; omega⟩
  · (first | (apply fin1; (focus first | exact .inl rfl | exact .inr rfl); focus exact byR1) | (apply fin2; (focus first | exact .inl rfl | exact .inr rfl); (focus exact byR1); (focus exact byR1)) | (apply fin3; (focus first | exact .inl rfl | exact .inr rfl); (focus exact byR1); (focus exact byR1); (focus exact byR1)) | (apply fin0; (focus first | exact .inl rfl | exact .inr rfl)))
    exact ⟨15, rfl, by omega, fun k => by have := k.cn; omega⟩
  apply q_callB
  focus (exact byNext)
  focus (exact byLo)
  focus exact refWithin_w (L := t.A) (m := m) (by (exact byOm)) (hA.same (by (exact bySame)) (Nat.le_refl _))
  rotate_left
  · intro hb h2 q2 hn2
    (focus ((try with_reducible apply wpC.to); (repeat' ((conv => whnf); first | ((apply Start.mk); (focus exact byNext); (focus exact byLen)) | ((apply New.mk); (focus exact byNid)) | ((apply Need.mk); (focus exact byNeed)) | ((apply Fork.mk) <;> (intro _; try (exfalso; omega; done))) | ((apply Load1.mk); (focus exact byMem); (focus exact byVal)) | ((apply LoadN.mk); (focus exact byMem); (focus exact byList)) | ((apply Sto.mk); (focus exact bySto); (focus exact byLo); (focus exact byGet); (focus exact rfl); (focus exact rfl); (focus exact rfl); (focus exact byList)) | ((with_reducible apply Ix.nat); (focus exact rfl); (focus omega)) | ((with_reducible apply Ix.natp); (focus assumption); (focus omega)) | ((with_reducible apply Ix.pred); (focus first | assumption | exact fun _ => rfl); (focus omega); (focus omega)) | ((with_reducible apply Ix.lit); (focus exact byLit); (focus first | assumption | exact fun _ => rfl); (focus omega); (focus omega)) | ((with_reducible apply Ix.int); (focus exact rfl); (focus omega); (focus omega)) | ((with_reducible apply Ix.intp); (focus assumption); (focus omega); (focus omega)) | apply forceV_any | apply forceL_any)); all_goals (conv => whnf); all_goals (try with_reducible apply At.mk)))
    (first | (apply fin1; (focus first | exact .inl rfl | exact .inr rfl); focus exact byR1) | (apply fin2; (focus first | exact .inl rfl | exact .inr rfl); (focus exact byR1); (focus exact byR1)) | (apply fin3; (focus first | exact .inl rfl | exact .inr rfl); (focus exact byR1); (focus exact byR1); (focus exact byR1)) | (apply fin0; (focus first | exact .inl rfl | exact .inr rfl)))
    exact ⟨3, rfl, by omega, fun k => absurd k.aw (of_decide_eq_false hb)⟩
  intro hb h2 q2 hn2
  (focus ((try with_reducible apply wpC.to); (repeat' ((conv => whnf); first | ((apply Start.mk); (focus exact byNext); (focus exact byLen)) | ((apply New.mk); (focus exact byNid)) | ((apply Need.mk); (focus exact byNeed)) | ((apply Fork.mk) <;> (intro _; try (exfalso; omega; done))) | ((apply Load1.mk); (focus exact byMem); (focus exact byVal)) | ((apply LoadN.mk); (focus exact byMem); (focus exact byList)) | ((apply Sto.mk); (focus exact bySto); (focus exact byLo); (focus exact byGet); (focus exact rfl); (focus exact rfl); (focus exact rfl); (focus exact byList)) | ((with_reducible apply Ix.nat); (focus exact rfl); (focus omega)) | ((with_reducible apply Ix.natp); (focus assumption); (focus omega)) | ((with_reducible apply Ix.pred); (focus first | assumption | exact fun _ => rfl); (focus omega); (focus omega)) | ((with_reducible apply Ix.lit); (focus exact byLit); (focus first | assumption | exact fun _ => rfl); (focus omega); (focus omega)) | ((with_reducible apply Ix.int); (focus exact rfl); (focus omega); (focus omega)) | ((with_reducible apply Ix.intp); (focus assumption); (focus omega); (focus omega)) | apply forceV_any | apply forceL_any)); all_goals (conv => whnf); all_goals (try with_reducible apply At.mk)))
  apply q_callB
  focus (exact byNext)
  focus (exact byLo)
  focus exact refWithin_w (L := t.C) (m := m) (by (exact byOm)) (hC.same (by (exact bySame)) (Nat.le_refl _))
  rotate_left
  · intro hc h3 q3 hn3
    (focus ((try with_reducible apply wpC.to); (repeat' ((conv => whnf); first | ((apply Start.mk); (focus exact byNext); (focus exact byLen)) | ((apply New.mk); (focus exact byNid)) | ((apply Need.mk); (focus exact byNeed)) | ((apply Fork.mk) <;> (intro _; try (exfalso; omega; done))) | ((apply Load1.mk); (focus exact byMem); (focus exact byVal)) | ((apply LoadN.mk); (focus exact byMem); (focus exact byList)) | ((apply Sto.mk); (focus exact bySto); (focus exact byLo); (focus exact byGet); (focus exact rfl); (focus exact rfl); (focus exact rfl); (focus exact byList)) | ((with_reducible apply Ix.nat); (focus exact rfl); (focus omega)) | ((with_reducible apply Ix.natp); (focus assumption); (focus omega)) | ((with_reducible apply Ix.pred); (focus first | assumption | exact fun _ => rfl); (focus omega); (focus omega)) | ((with_reducible apply Ix.lit); (focus exact byLit); (focus first | assumption | exact fun _ => rfl); (focus omega); (focus omega)) | ((with_reducible apply Ix.int); (focus exact rfl); (focus omega); (focus omega)) | ((with_reducible apply Ix.intp); (focus assumption); (focus omega); (focus omega)) | apply forceV_any | apply forceL_any)); all_goals (conv => whnf); all_goals (try with_reducible apply At.mk)))
    (first | (apply fin1; (focus first | exact .inl rfl | exact .inr rfl); focus exact byR1) | (apply fin2; (focus first | exact .inl rfl | exact .inr rfl); (focus exact byR1); (focus exact byR1)) | (apply fin3; (focus first | exact .inl rfl | exact .inr rfl); (focus exact byR1); (focus exact byR1); (focus exact byR1)) | (apply fin0; (focus first | exact .inl rfl | exact .inr rfl)))
    exact ⟨3, rfl, by omega, fun k => absurd k.cw (of_decide_eq_false hc)⟩
  intro hc h3 q3 hn3
  have hb := of_decide_eq_true hb
  have hc := of_decide_eq_true hc
  (focus ((try with_reducible apply wpC.to); (repeat' ((conv => whnf); first | ((apply Start.mk); (focus exact byNext); (focus exact byLen)) | ((apply New.mk); (focus exact byNid)) | ((apply Need.mk); (focus exact byNeed)) | ((apply Fork.mk) <;> (intro _; try (exfalso; omega; done))) | ((apply Load1.mk); (focus exact byMem); (focus exact byVal)) | ((apply LoadN.mk); (focus exact byMem); (focus exact byList)) | ((apply Sto.mk); (focus exact bySto); (focus exact byLo); (focus exact byGet); (focus exact rfl); (focus exact rfl); (focus exact rfl); (focus exact byList)) | ((with_reducible apply Ix.nat); (focus exact rfl); (focus omega)) | ((with_reducible apply Ix.natp); (focus assumption); (focus omega)) | ((with_reducible apply Ix.pred); (focus first | assumption | exact fun _ => rfl); (focus omega); (focus omega)) | ((with_reducible apply Ix.lit); (focus exact byLit); (focus first | assumption | exact fun _ => rfl); (focus omega); (focus omega)) | ((with_reducible apply Ix.int); (focus exact rfl); (focus omega); (focus omega)) | ((with_reducible apply Ix.intp); (focus assumption); (focus omega); (focus omega)) | apply forceV_any | apply forceL_any)); all_goals (conv => whnf); all_goals (try with_reducible apply At.mk)))
  refine wp_loop (fun s : Nat => [(2, .pointer (some ⟨h.next, 0, none⟩)), (3, .pointer (some ⟨h.next + 1, 0, none⟩)), (5, .int .i64 s)])
    (fun s h4 => Same h.next h h4 ∧ h.next + 2 ≤ h4.next ∧ s ≤ t.A.n ∧ h4.get h.next = some (.cells T.cells 26) ∧ h4.get (h.next + 1) = some (.cells t.cells 29) ∧ ∀ i, i < s → T.blo ≤ t.A.f i ∧ t.A.f i ≤ T.bhi) (fun s => t.A.n - s) 0
    ⟨rfl, rfl, rfl, trivial⟩ ⟨by (exact bySame), by (exact byOm), by omega, by (exact byGet), by (exact byGet), fun i hi => by omega⟩ ?_
  rintro s g h4 ⟨sm, hn4, hs, g1, g2, hbi⟩ K hK
  have ai4 : Ints h4 t.A.a t.A.n t.A.f := ai.same (sm.mono hm) ar
  (focus ((try with_reducible apply wpC.to); (repeat' ((conv => whnf); first | ((apply Start.mk); (focus exact byNext); (focus exact byLen)) | ((apply New.mk); (focus exact byNid)) | ((apply Need.mk); (focus exact byNeed)) | ((apply Fork.mk) <;> (intro _; try (exfalso; omega; done))) | ((apply Load1.mk); (focus exact byMem); (focus exact byVal)) | ((apply LoadN.mk); (focus exact byMem); (focus exact byList)) | ((apply Sto.mk); (focus exact bySto); (focus exact byLo); (focus exact byGet); (focus exact rfl); (focus exact rfl); (focus exact rfl); (focus exact byList)) | ((with_reducible apply Ix.nat); (focus exact rfl); (focus omega)) | ((with_reducible apply Ix.natp); (focus assumption); (focus omega)) | ((with_reducible apply Ix.pred); (focus first | assumption | exact fun _ => rfl); (focus omega); (focus omega)) | ((with_reducible apply Ix.lit); (focus exact byLit); (focus first | assumption | exact fun _ => rfl); (focus omega); (focus omega)) | ((with_reducible apply Ix.int); (focus exact rfl); (focus omega); (focus omega)) | ((with_reducible apply Ix.intp); (focus assumption); (focus omega); (focus omega)) | apply forceV_any | apply forceL_any)); all_goals (conv => whnf); all_goals (try with_reducible apply At.mk)))
  · (first | (apply fin1; (focus first | exact .inl rfl | exact .inr rfl); focus exact byR1) | (apply fin2; (focus first | exact .inl rfl | exact .inr rfl); (focus exact byR1); (focus exact byR1)) | (apply fin3; (focus first | exact .inl rfl | exact .inr rfl); (focus exact byR1); (focus exact byR1); (focus exact byR1)) | (apply fin0; (focus first | exact .inl rfl | exact .inr rfl)))
    exact ⟨20, rfl, by omega, fun k => by have := k.b s (by omega); omega⟩
  · (first | (apply fin1; (focus first | exact .inl rfl | exact .inr rfl); focus exact byR1) | (apply fin2; (focus first | exact .inl rfl | exact .inr rfl); (focus exact byR1); (focus exact byR1)) | (apply fin3; (focus first | exact .inl rfl | exact .inr rfl); (focus exact byR1); (focus exact byR1); (focus exact byR1)) | (apply fin0; (focus first | exact .inl rfl | exact .inr rfl)))
    exact ⟨20, rfl, by omega, fun k => by have := k.b s (by omega); omega⟩
  · refine hK (s + 1) _ _ ⟨rfl, rfl, int_of rfl (by omega), trivial⟩ ⟨by (exact bySame), by (exact byOm), by omega, by (exact byGet), by (exact byGet), fun i hi => ?_⟩ (by omega)
    by_cases e : i = s
    · subst e; omega
    · exact hbi i (by omega)
  have : s = t.A.n := by omega
  subst this
  clear hK K
  refine wp_loop (fun u : Nat => [(2, .pointer (some ⟨h.next, 0, none⟩)), (3, .pointer (some ⟨h.next + 1, 0, none⟩)), (6, .int .i64 u)])
    (fun u h5 => Same h.next h h5 ∧ h.next + 2 ≤ h5.next ∧ u ≤ T.n ∧ h5.get h.next = some (.cells T.cells 26) ∧ h5.get (h.next + 1) = some (.cells t.cells 29) ∧ ∀ i, i < u → (T.f i).lo ≤ t.A.f (T.f i).tank.toNat + t.C.f (T.f i).hull.toNat ∧ t.A.f (T.f i).tank.toNat + t.C.f (T.f i).hull.toNat ≤ (T.f i).hi) (fun u => T.n - u) 0
    ⟨rfl, rfl, rfl, trivial⟩ ⟨by (exact bySame), by (exact byOm), by omega, by (exact byGet), by (exact byGet), fun i hi => by omega⟩ ?_
  clear g1 g2 ai4 hn4 sm g
  rintro u g h5 ⟨sm, hn5, hu, g1, g2, hti⟩ K hK
  have ai5 : Ints h5 t.A.a t.A.n t.A.f := ai.same (sm.mono hm) ar
  have ci5 : Ints h5 t.C.a t.C.n t.C.f := ci.same (sm.mono hm) cr
  have ti5 : Els h5 T.a T.n 4 (fun i => (T.f i).cells) := ti.same (sm.mono hm) tr
  have hfu : u < T.n → 0 ≤ (T.f u).tank ∧ (T.f u).tank < T.tanks ∧ 0 ≤ (T.f u).hull ∧ (T.f u).hull < T.hulls := fun h => by have := hv.f u h; omega
  have hbu : u < T.n → (-1099511627776 ≤ t.A.f (T.f u).tank.toNat ∧ t.A.f (T.f u).tank.toNat ≤ 1099511627776) ∧ (-1099511627776 ≤ t.C.f (T.f u).hull.toNat ∧ t.C.f (T.f u).hull.toNat ≤ 1099511627776) := fun h => ⟨hb _ (by have := hfu h; omega), hc _ (by have := hfu h; omega)⟩
  (focus ((try with_reducible apply wpC.to); (repeat' ((conv => whnf); first | ((apply Start.mk); (focus exact byNext); (focus exact byLen)) | ((apply New.mk); (focus exact byNid)) | ((apply Need.mk); (focus exact byNeed)) | ((apply Fork.mk) <;> (intro _; try (exfalso; omega; done))) | ((apply Load1.mk); (focus exact byMem); (focus exact byVal)) | ((apply LoadN.mk); (focus exact byMem); (focus exact byList)) | ((apply Sto.mk); (focus exact bySto); (focus exact byLo); (focus exact byGet); (focus exact rfl); (focus exact rfl); (focus exact rfl); (focus exact byList)) | ((with_reducible apply Ix.nat); (focus exact rfl); (focus omega)) | ((with_reducible apply Ix.natp); (focus assumption); (focus omega)) | ((with_reducible apply Ix.pred); (focus first | assumption | exact fun _ => rfl); (focus omega); (focus omega)) | ((with_reducible apply Ix.lit); (focus exact byLit); (focus first | assumption | exact fun _ => rfl); (focus omega); (focus omega)) | ((with_reducible apply Ix.int); (focus exact rfl); (focus omega); (focus omega)) | ((with_reducible apply Ix.intp); (focus assumption); (focus omega); (focus omega)) | apply forceV_any | apply forceL_any)); all_goals (conv => whnf); all_goals (try with_reducible apply At.mk)))
  · (first | (apply fin1; (focus first | exact .inl rfl | exact .inr rfl); focus exact byR1) | (apply fin2; (focus first | exact .inl rfl | exact .inr rfl); (focus exact byR1); (focus exact byR1)) | (apply fin3; (focus first | exact .inl rfl | exact .inr rfl); (focus exact byR1); (focus exact byR1); (focus exact byR1)) | (apply fin0; (focus first | exact .inl rfl | exact .inr rfl)))
    exact ⟨20, rfl, by omega, fun k => by have := k.t u (by omega); omega⟩
  · (first | (apply fin1; (focus first | exact .inl rfl | exact .inr rfl); focus exact byR1) | (apply fin2; (focus first | exact .inl rfl | exact .inr rfl); (focus exact byR1); (focus exact byR1)) | (apply fin3; (focus first | exact .inl rfl | exact .inr rfl); (focus exact byR1); (focus exact byR1); (focus exact byR1)) | (apply fin0; (focus first | exact .inl rfl | exact .inr rfl)))
    exact ⟨20, rfl, by omega, fun k => by have := k.t u (by omega); omega⟩
  · refine hK (u + 1) _ _ ⟨rfl, rfl, int_of rfl (by omega), trivial⟩ ⟨by (exact bySame), by (exact byOm), by omega, by (exact byGet), by (exact byGet), fun i hi => ?_⟩ (by omega)
    by_cases e : i = u
    · subst e; omega
    · exact hti i (by omega)
  · (first | (apply fin1; (focus first | exact .inl rfl | exact .inr rfl); focus exact byR1) | (apply fin2; (focus first | exact .inl rfl | exact .inr rfl); (focus exact byR1); (focus exact byR1)) | (apply fin3; (focus first | exact .inl rfl | exact .inr rfl); (focus exact byR1); (focus exact byR1); (focus exact byR1)) | (apply fin0; (focus first | exact .inl rfl | exact .inr rfl)))
    exact ⟨0, rfl, fun _ => ⟨by omega, by omega, hb, hc, hbi, fun i hi => hti i (by omega)⟩, fun _ => rfl⟩

end AE.Try
