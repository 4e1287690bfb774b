/- Walks of agree: odd tanks. -/
import Derived.Test.YtfdlkdjihmlbhaaAgreeX
import Derived.Test.YtfdlkdjihmlbhaaAgreeV
import Derived.Test.YtfdlkdjihmlbhaaAgreeFit
set_option linter.unusedVariables false
set_option linter.unusedSimpArgs false
set_option linter.unusedSectionVars false
namespace AE.Try
set_option linter.unusedSimpArgs false
set_option linter.unusedVariables false
open Go AE AE.Ag AE.AgreeIn AgreeS Go.Proofs
set_option maxRecDepth 100000

theorem Tru.Ok.frame {t : Tru} {m m' : Nat} {h : H} (k : t.Ok m h) (hm : m ≤ m') : t.Ok m' h := ⟨k.a.frame (b := 0) (fun _ => Nat.zero_le _) hm fun _ _ _ => rfl, k.c.frame (b := 0) (fun _ => Nat.zero_le _) hm fun _ _ _ => rfl⟩
theorem mod_tanks {T : Tab} (hv : T.Valid) (z : Int) : 0 ≤ z % T.tanks ∧ z % T.tanks < T.tanks := by
  have := hv.t1
  exact ⟨Int.emod_nonneg _ (by omega), Int.emod_lt_of_pos _ (by omega)⟩
theorem tErr_val (T : Table) : tErr T = 0 ∨ tErr T = 20 := by
  unfold tErr
  by_cases ha : Agrees T <;> simp [ha]
theorem oErr_val (T : Table) : (tErr T = 0 ∧ oErr T = 5) ∨ (tErr T = 20 ∧ oErr T = 0) := by
  unfold tErr oErr
  by_cases ha : Agrees T <;> simp [ha]
/-- A table that agrees agrees without a tank. -/
theorem agrees_wo {T : Table} (k : Nat) (h : Agrees T) : Agrees (woT T k) := by
  obtain ⟨b, x, hb, ht⟩ := h
  exact ⟨b, x, hb, fun y hy => ht y (List.mem_filter.1 hy).1⟩
/-- What is in the list of odd tanks. -/
theorem mem_oddL {T : Table} {k : Nat} : k ∈ oddL T ↔ ¬ Agrees T ∧ k < T.tanks ∧ Agrees (woT T k) := by
  unfold oddL
  by_cases ha : Agrees T
  · rw [if_pos ha]; simp [ha]
  · rw [if_neg ha]
    unfold oddTo
    simp [ha]
theorem oddL_lt {T : Table} {i j : Nat} (hij : i < j) (hj : j < (oddL T).length) : (oddL T).getD i 0 < (oddL T).getD j 0 := by
  have hp : (oddL T).Pairwise (· < ·) := by
    unfold oddL
    split
    · exact List.Pairwise.nil
    · unfold oddTo
      exact List.Pairwise.filter _ List.pairwise_lt_range
  have := List.pairwise_iff_getElem.1 hp i j (by omega) hj hij
  simpa [List.getD_eq_getElem?_getD, List.getElem?_eq_getElem (show i < (oddL T).length by omega), List.getElem?_eq_getElem hj] using this
theorem oddL_get {T : Table} {i : Nat} (hi : i < (oddL T).length) : (oddL T).getD i 0 < T.tanks ∧ (oddL T).getD i 0 ∈ oddL T := by
  have : (oddL T).getD i 0 ∈ oddL T := by
    rw [List.getD_eq_getElem?_getD, List.getElem?_eq_getElem hi]
    exact List.getElem_mem hi
  exact ⟨(mem_oddL.1 this).2.1, this⟩

set_option maxHeartbeats 4000000 in
theorem oddLaw_w {h : H} {T : Tab} {X : Tru} {wh : Int} {m : Nat} (hm : m ≤ h.next) (hI : T.In m h) (hX : X.Ok m h) (h2 : 0 ≤ wh ∧ wh < 256) : AW Try.prog 7 h.next h [.agg ⟨T.cells⟩, .agg ⟨X.cells⟩, .int .u8 wh] (fun v _ => v = .bool true) := by
  have hT := hI.ok
  refine fun7.call rfl (Nat.le_refl _) ?_
  unfold a7
  (focus ((try with_reducible apply wpC.to); (repeat' ((conv => whnf); first | ((apply Start.mk); (focus exact byNext); (focus exact byLen)) | ((apply New.mk); (focus exact byNid)) | ((apply Need.mk); (focus exact byNeed)) | ((apply Fork.mk) <;> (intro _; try (exfalso; omega; done))) | ((apply Load1.mk); (focus exact byMem); (focus exact byVal)) | ((apply LoadN.mk); (focus exact byMem); (focus exact byList)) | ((apply Sto.mk); (focus exact bySto); (focus exact byLo); (focus exact byGet); (focus exact rfl); (focus exact rfl); (focus exact rfl); (focus exact byList)) | ((with_reducible apply Ix.nat); (focus exact rfl); (focus omega)) | ((with_reducible apply Ix.natp); (focus assumption); (focus omega)) | ((with_reducible apply Ix.pred); (focus first | assumption | exact fun _ => rfl); (focus omega); (focus omega)) | ((with_reducible apply Ix.lit); (focus exact byLit); (focus first | assumption | exact fun _ => rfl); (focus omega); (focus omega)) | ((with_reducible apply Ix.int); (focus exact rfl); (focus omega); (focus omega)) | ((with_reducible apply Ix.intp); (focus assumption); (focus omega); (focus omega)) | ((apply Wrap.mk); (focus exact byWrap)) | ((apply q_call); (focus exact byNext); (focus exact byLo); (focus (exact works_w)); first | ((apply q_allB) <;> (intro z_b _ _ _; first | exact Bool.noConfusion z_b | replace z_b := of_decide_eq_true z_b | replace z_b := of_decide_eq_false z_b | skip) <;> (first | contradiction | (revert z_b; intros))) | ((apply q_alli) <;> (intro _ _ _ _; try contradiction)) | ((apply q_allv); intro _ _ _)) | ((apply OpE.val); (focus exact rfl); (focus exact byVal)) | apply forceV_any | apply forceL_any)); all_goals (conv => whnf); all_goals (try with_reducible apply At.mk)))
  apply q_call
  focus (exact byNext)
  focus (exact byLo)
  focus exact fine_w (T := T) (m := m) (by (exact byOm)) (hT.same (by (exact bySame)) (Nat.le_refl _))
  rintro _ h1 ⟨b, rfl, hbv⟩ q1 hn1
  cases b with
  | false =>
    (focus ((try with_reducible apply wpC.to); (repeat' ((conv => whnf); first | ((apply Start.mk); (focus exact byNext); (focus exact byLen)) | ((apply New.mk); (focus exact byNid)) | ((apply Need.mk); (focus exact byNeed)) | ((apply Fork.mk) <;> (intro _; try (exfalso; omega; done))) | ((apply Load1.mk); (focus exact byMem); (focus exact byVal)) | ((apply LoadN.mk); (focus exact byMem); (focus exact byList)) | ((apply Sto.mk); (focus exact bySto); (focus exact byLo); (focus exact byGet); (focus exact rfl); (focus exact rfl); (focus exact rfl); (focus exact byList)) | ((with_reducible apply Ix.nat); (focus exact rfl); (focus omega)) | ((with_reducible apply Ix.natp); (focus assumption); (focus omega)) | ((with_reducible apply Ix.pred); (focus first | assumption | exact fun _ => rfl); (focus omega); (focus omega)) | ((with_reducible apply Ix.lit); (focus exact byLit); (focus first | assumption | exact fun _ => rfl); (focus omega); (focus omega)) | ((with_reducible apply Ix.int); (focus exact rfl); (focus omega); (focus omega)) | ((with_reducible apply Ix.intp); (focus assumption); (focus omega); (focus omega)) | ((apply Wrap.mk); (focus exact byWrap)) | ((apply q_call); (focus exact byNext); (focus exact byLo); (focus (exact works_w)); first | ((apply q_allB) <;> (intro z_b _ _ _; first | exact Bool.noConfusion z_b | replace z_b := of_decide_eq_true z_b | replace z_b := of_decide_eq_false z_b | skip) <;> (first | contradiction | (revert z_b; intros))) | ((apply q_alli) <;> (intro _ _ _ _; try contradiction)) | ((apply q_allv); intro _ _ _)) | ((apply OpE.val); (focus exact rfl); (focus exact byVal)) | apply forceV_any | apply forceL_any)); all_goals (conv => whnf); all_goals (try with_reducible apply At.mk)))
    (first | (apply fin1; (focus first | exact .inl rfl | exact .inr rfl); focus exact byR1) | (apply fin2; (focus first | exact .inl rfl | exact .inr rfl); (focus exact byR1); (focus exact byR1)) | (apply fin3; (focus first | exact .inl rfl | exact .inr rfl); (focus exact byR1); (focus exact byR1); (focus exact byR1)) | (apply fin0; (focus first | exact .inl rfl | exact .inr rfl)))
    rfl
  | true =>
  have hv := hbv.1 rfl
  have hok := hv.ok
  have hp := hv.t1
  have za := mod_tanks hv wh
  (focus ((try with_reducible apply wpC.to); (repeat' ((conv => whnf); first | ((apply Start.mk); (focus exact byNext); (focus exact byLen)) | ((apply New.mk); (focus exact byNid)) | ((apply Need.mk); (focus exact byNeed)) | ((apply Fork.mk) <;> (intro _; try (exfalso; omega; done))) | ((apply Load1.mk); (focus exact byMem); (focus exact byVal)) | ((apply LoadN.mk); (focus exact byMem); (focus exact byList)) | ((apply Sto.mk); (focus exact bySto); (focus exact byLo); (focus exact byGet); (focus exact rfl); (focus exact rfl); (focus exact rfl); (focus exact byList)) | ((with_reducible apply Ix.nat); (focus exact rfl); (focus omega)) | ((with_reducible apply Ix.natp); (focus assumption); (focus omega)) | ((with_reducible apply Ix.pred); (focus first | assumption | exact fun _ => rfl); (focus omega); (focus omega)) | ((with_reducible apply Ix.lit); (focus exact byLit); (focus first | assumption | exact fun _ => rfl); (focus omega); (focus omega)) | ((with_reducible apply Ix.int); (focus exact rfl); (focus omega); (focus omega)) | ((with_reducible apply Ix.intp); (focus assumption); (focus omega); (focus omega)) | ((apply Wrap.mk); (focus exact byWrap)) | ((apply q_call); (focus exact byNext); (focus exact byLo); (focus (exact works_w)); first | ((apply q_allB) <;> (intro z_b _ _ _; first | exact Bool.noConfusion z_b | replace z_b := of_decide_eq_true z_b | replace z_b := of_decide_eq_false z_b | skip) <;> (first | contradiction | (revert z_b; intros))) | ((apply q_alli) <;> (intro _ _ _ _; try contradiction)) | ((apply q_allv); intro _ _ _)) | ((apply OpE.val); (focus exact rfl); (focus exact byVal)) | apply forceV_any | apply forceL_any)); all_goals (conv => whnf); all_goals (try with_reducible apply At.mk)))
  · (first | (apply fin1; (focus first | exact .inl rfl | exact .inr rfl); focus exact byR1) | (apply fin2; (focus first | exact .inl rfl | exact .inr rfl); (focus exact byR1); (focus exact byR1)) | (apply fin3; (focus first | exact .inl rfl | exact .inr rfl); (focus exact byR1); (focus exact byR1); (focus exact byR1)) | (apply fin0; (focus first | exact .inl rfl | exact .inr rfl)))
    rfl
  · (first | (apply fin1; (focus first | exact .inl rfl | exact .inr rfl); focus exact byR1) | (apply fin2; (focus first | exact .inl rfl | exact .inr rfl); (focus exact byR1); (focus exact byR1)) | (apply fin3; (focus first | exact .inl rfl | exact .inr rfl); (focus exact byR1); (focus exact byR1); (focus exact byR1)) | (apply fin0; (focus first | exact .inl rfl | exact .inr rfl)))
    rfl
  generalize wh % T.tanks = A0 at za ⊢
  obtain ⟨A, rfl⟩ : ∃ a : Nat, A0 = a := ⟨A0.toNat, by omega⟩
  have hTf : ∀ h' : H, Same m h h' → T.Ok m h' := fun h' s => hT.same s (Nat.le_refl _)
  have hXf : ∀ h' : H, Same m h h' → X.Ok m h' := fun h' s => hX.same s (Nat.le_refl _)
  have hOn0 : Agrees T.toTable → oddL T.toTable = [] := fun ha => by unfold oddL; rw [if_pos ha]
  apply q_call
  focus (exact byNext)
  focus (exact byLo)
  focus exact odd_w (T := T) (m := m) (by (exact byOm)) (hTf _ (by (exact bySame))) hv
  rintro _ h2 ⟨O, rfl, ⟨hOn, hOf⟩, ⟨Oe, Oi, Or, Ol⟩, hOb⟩ q2 hn2
  try simp only [put_next, bump_next] at hOb
  rcases oErr_val T.toTable with ⟨v1, v2⟩ | ⟨v1, v2⟩
  · have ha := tErr_ok.1 v1
    rw [hOn0 ha] at hOn
    have hOn : O.n = 0 := hOn
    rw [v2]
    (focus ((try with_reducible apply wpC.to); (repeat' ((conv => whnf); first | ((apply Start.mk); (focus exact byNext); (focus exact byLen)) | ((apply New.mk); (focus exact byNid)) | ((apply Need.mk); (focus exact byNeed)) | ((apply Fork.mk) <;> (intro _; try (exfalso; omega; done))) | ((apply Load1.mk); (focus exact byMem); (focus exact byVal)) | ((apply LoadN.mk); (focus exact byMem); (focus exact byList)) | ((apply Sto.mk); (focus exact bySto); (focus exact byLo); (focus exact byGet); (focus exact rfl); (focus exact rfl); (focus exact rfl); (focus exact byList)) | ((with_reducible apply Ix.nat); (focus exact rfl); (focus omega)) | ((with_reducible apply Ix.natp); (focus assumption); (focus omega)) | ((with_reducible apply Ix.pred); (focus first | assumption | exact fun _ => rfl); (focus omega); (focus omega)) | ((with_reducible apply Ix.lit); (focus exact byLit); (focus first | assumption | exact fun _ => rfl); (focus omega); (focus omega)) | ((with_reducible apply Ix.int); (focus exact rfl); (focus omega); (focus omega)) | ((with_reducible apply Ix.intp); (focus assumption); (focus omega); (focus omega)) | ((apply Wrap.mk); (focus exact byWrap)) | ((apply q_call); (focus exact byNext); (focus exact byLo); (focus (exact works_w)); first | ((apply q_allB) <;> (intro z_b _ _ _; first | exact Bool.noConfusion z_b | replace z_b := of_decide_eq_true z_b | replace z_b := of_decide_eq_false z_b | skip) <;> (first | contradiction | (revert z_b; intros))) | ((apply q_alli) <;> (intro _ _ _ _; try contradiction)) | ((apply q_allv); intro _ _ _)) | ((apply OpE.val); (focus exact rfl); (focus exact byVal)) | apply forceV_any | apply forceL_any)); all_goals (conv => whnf); all_goals (try with_reducible apply At.mk)))
    apply q_call
    focus (exact byNext)
    focus (exact byLo)
    focus exact truthOf_w (T := T) (m := m) (by (exact byOm)) (hTf _ (by (exact bySame))) hv
    rintro _ h3 ⟨t3, rfl, -⟩ q3 hn3
    rw [v1]
    (focus ((try with_reducible apply wpC.to); (repeat' ((conv => whnf); first | ((apply Start.mk); (focus exact byNext); (focus exact byLen)) | ((apply New.mk); (focus exact byNid)) | ((apply Need.mk); (focus exact byNeed)) | ((apply Fork.mk) <;> (intro _; try (exfalso; omega; done))) | ((apply Load1.mk); (focus exact byMem); (focus exact byVal)) | ((apply LoadN.mk); (focus exact byMem); (focus exact byList)) | ((apply Sto.mk); (focus exact bySto); (focus exact byLo); (focus exact byGet); (focus exact rfl); (focus exact rfl); (focus exact rfl); (focus exact byList)) | ((with_reducible apply Ix.nat); (focus exact rfl); (focus omega)) | ((with_reducible apply Ix.natp); (focus assumption); (focus omega)) | ((with_reducible apply Ix.pred); (focus first | assumption | exact fun _ => rfl); (focus omega); (focus omega)) | ((with_reducible apply Ix.lit); (focus exact byLit); (focus first | assumption | exact fun _ => rfl); (focus omega); (focus omega)) | ((with_reducible apply Ix.int); (focus exact rfl); (focus omega); (focus omega)) | ((with_reducible apply Ix.intp); (focus assumption); (focus omega); (focus omega)) | ((apply Wrap.mk); (focus exact byWrap)) | ((apply q_call); (focus exact byNext); (focus exact byLo); (focus (exact works_w)); first | ((apply q_allB) <;> (intro z_b _ _ _; first | exact Bool.noConfusion z_b | replace z_b := of_decide_eq_true z_b | replace z_b := of_decide_eq_false z_b | skip) <;> (first | contradiction | (revert z_b; intros))) | ((apply q_alli) <;> (intro _ _ _ _; try contradiction)) | ((apply q_allv); intro _ _ _)) | ((apply OpE.val); (focus exact rfl); (focus exact byVal)) | apply forceV_any | apply forceL_any)); all_goals (conv => whnf); all_goals (try with_reducible apply At.mk)))
    refine wp_loop (fun s : Nat => [(2, .int .u8 wh), (3, .pointer (some ⟨h.next, 0, none⟩)), (4, .pointer (some ⟨h.next + 1, 0, none⟩)), (7, .int .i64 A), (8, .slice O.b O.n O.c), (9, .int .i64 5), (12, .bool false), (13, .int .i64 s)]) (fun s h4 => Same m h h4 ∧ h3.next ≤ h4.next ∧ h4.get h.next = some (.cells T.cells 26) ∧ h4.get (h.next + 1) = some (.cells X.cells 29)) (fun s => 1 - s) 0
      ⟨rfl, rfl, rfl, rfl, rfl, rfl, rfl, rfl, trivial⟩ ⟨by (exact bySame), by (exact byOm), by (exact byGet), by (exact byGet)⟩ ?_
    rintro s g h4 ⟨sm, hn4, g1, g2⟩ K hK
    (focus ((try with_reducible apply wpC.to); (repeat' ((conv => whnf); first | ((apply Start.mk); (focus exact byNext); (focus exact byLen)) | ((apply New.mk); (focus exact byNid)) | ((apply Need.mk); (focus exact byNeed)) | ((apply Fork.mk) <;> (intro _; try (exfalso; omega; done))) | ((apply Load1.mk); (focus exact byMem); (focus exact byVal)) | ((apply LoadN.mk); (focus exact byMem); (focus exact byList)) | ((apply Sto.mk); (focus exact bySto); (focus exact byLo); (focus exact byGet); (focus exact rfl); (focus exact rfl); (focus exact rfl); (focus exact byList)) | ((with_reducible apply Ix.nat); (focus exact rfl); (focus omega)) | ((with_reducible apply Ix.natp); (focus assumption); (focus omega)) | ((with_reducible apply Ix.pred); (focus first | assumption | exact fun _ => rfl); (focus omega); (focus omega)) | ((with_reducible apply Ix.lit); (focus exact byLit); (focus first | assumption | exact fun _ => rfl); (focus omega); (focus omega)) | ((with_reducible apply Ix.int); (focus exact rfl); (focus omega); (focus omega)) | ((with_reducible apply Ix.intp); (focus assumption); (focus omega); (focus omega)) | ((apply Wrap.mk); (focus exact byWrap)) | ((apply q_call); (focus exact byNext); (focus exact byLo); (focus (exact works_w)); first | ((apply q_allB) <;> (intro z_b _ _ _; first | exact Bool.noConfusion z_b | replace z_b := of_decide_eq_true z_b | replace z_b := of_decide_eq_false z_b | skip) <;> (first | contradiction | (revert z_b; intros))) | ((apply q_alli) <;> (intro _ _ _ _; try contradiction)) | ((apply q_allv); intro _ _ _)) | ((apply OpE.val); (focus exact rfl); (focus exact byVal)) | apply forceV_any | apply forceL_any)); all_goals (conv => whnf); all_goals (try with_reducible apply At.mk)))
    apply q_call
    focus (exact byNext)
    focus (exact byLo)
    focus exact without_w (T := T) (m := m) (k := A) (by (exact byOm)) (hTf _ (by (exact bySame))) hv
    rintro _ h5 ⟨R, rfl, hw, hR, hRb⟩ q5 hn5
    have hvR := hv.wo hw
    have htab := wo_table hv hw
    have hRf : ∀ h' : H, (∀ r, h4.next + 9 ≤ r → r < h5.next → h'.get r = h5.get r) → R.Ok h5.next h' := fun h' hh => hR.frame (fun h0 => by have := hRb h0; simp only [put_next, bump_next] at this; omega) (Nat.le_refl _) hh
    (focus ((try with_reducible apply wpC.to); (repeat' ((conv => whnf); first | ((apply Start.mk); (focus exact byNext); (focus exact byLen)) | ((apply New.mk); (focus exact byNid)) | ((apply Need.mk); (focus exact byNeed)) | ((apply Fork.mk) <;> (intro _; try (exfalso; omega; done))) | ((apply Load1.mk); (focus exact byMem); (focus exact byVal)) | ((apply LoadN.mk); (focus exact byMem); (focus exact byList)) | ((apply Sto.mk); (focus exact bySto); (focus exact byLo); (focus exact byGet); (focus exact rfl); (focus exact rfl); (focus exact rfl); (focus exact byList)) | ((with_reducible apply Ix.nat); (focus exact rfl); (focus omega)) | ((with_reducible apply Ix.natp); (focus assumption); (focus omega)) | ((with_reducible apply Ix.pred); (focus first | assumption | exact fun _ => rfl); (focus omega); (focus omega)) | ((with_reducible apply Ix.lit); (focus exact byLit); (focus first | assumption | exact fun _ => rfl); (focus omega); (focus omega)) | ((with_reducible apply Ix.int); (focus exact rfl); (focus omega); (focus omega)) | ((with_reducible apply Ix.intp); (focus assumption); (focus omega); (focus omega)) | ((apply Wrap.mk); (focus exact byWrap)) | ((apply q_call); (focus exact byNext); (focus exact byLo); (focus (exact works_w)); first | ((apply q_allB) <;> (intro z_b _ _ _; first | exact Bool.noConfusion z_b | replace z_b := of_decide_eq_true z_b | replace z_b := of_decide_eq_false z_b | skip) <;> (first | contradiction | (revert z_b; intros))) | ((apply q_alli) <;> (intro _ _ _ _; try contradiction)) | ((apply q_allv); intro _ _ _)) | ((apply OpE.val); (focus exact rfl); (focus exact byVal)) | apply forceV_any | apply forceL_any)); all_goals (conv => whnf); all_goals (try with_reducible apply At.mk)))
    apply q_call
    focus (exact byNext)
    focus (exact byLo)
    focus exact truthOf_w (T := R) (m := h5.next) (by (exact byOm)) (hRf _ fun r hr1 hr2 => get_of fun y hy => by (exact byGet)) hvR
    rintro _ h6 ⟨t6, rfl, -⟩ q6 hn6
    rw [htab]
    rw [tErr_ok.2 (agrees_wo A ha)]
    (focus ((try with_reducible apply wpC.to); (repeat' ((conv => whnf); first | ((apply Start.mk); (focus exact byNext); (focus exact byLen)) | ((apply New.mk); (focus exact byNid)) | ((apply Need.mk); (focus exact byNeed)) | ((apply Fork.mk) <;> (intro _; try (exfalso; omega; done))) | ((apply Load1.mk); (focus exact byMem); (focus exact byVal)) | ((apply LoadN.mk); (focus exact byMem); (focus exact byList)) | ((apply Sto.mk); (focus exact bySto); (focus exact byLo); (focus exact byGet); (focus exact rfl); (focus exact rfl); (focus exact rfl); (focus exact byList)) | ((with_reducible apply Ix.nat); (focus exact rfl); (focus omega)) | ((with_reducible apply Ix.natp); (focus assumption); (focus omega)) | ((with_reducible apply Ix.pred); (focus first | assumption | exact fun _ => rfl); (focus omega); (focus omega)) | ((with_reducible apply Ix.lit); (focus exact byLit); (focus first | assumption | exact fun _ => rfl); (focus omega); (focus omega)) | ((with_reducible apply Ix.int); (focus exact rfl); (focus omega); (focus omega)) | ((with_reducible apply Ix.intp); (focus assumption); (focus omega); (focus omega)) | ((apply Wrap.mk); (focus exact byWrap)) | ((apply q_call); (focus exact byNext); (focus exact byLo); (focus (exact works_w)); first | ((apply q_allB) <;> (intro z_b _ _ _; first | exact Bool.noConfusion z_b | replace z_b := of_decide_eq_true z_b | replace z_b := of_decide_eq_false z_b | skip) <;> (first | contradiction | (revert z_b; intros))) | ((apply q_alli) <;> (intro _ _ _ _; try contradiction)) | ((apply q_allv); intro _ _ _)) | ((apply OpE.val); (focus exact rfl); (focus exact byVal)) | apply forceV_any | apply forceL_any)); all_goals (conv => whnf); all_goals (try with_reducible apply At.mk)))
    (first | (apply fin1; (focus first | exact .inl rfl | exact .inr rfl); focus exact byR1) | (apply fin2; (focus first | exact .inl rfl | exact .inr rfl); (focus exact byR1); (focus exact byR1)) | (apply fin3; (focus first | exact .inl rfl | exact .inr rfl); (focus exact byR1); (focus exact byR1); (focus exact byR1)) | (apply fin0; (focus first | exact .inl rfl | exact .inr rfl)))
    rfl
  · have hna : ¬ Agrees T.toTable := fun ha => by have := tErr_ok.2 ha; omega
    have hOl : ∀ i, i < O.n → 0 ≤ O.f i ∧ O.f i < T.tanks := fun i hi => by
      have h1 := oddL_get (T := T.toTable) (i := i) (by omega)
      have h2 : (oddL T.toTable).getD i 0 < T.tanks.toNat := h1.1
      rw [hOf i hi]
      omega
    have hOi : ∀ i, i + 1 < O.n → O.f i < O.f (i + 1) := fun i hi => by
      have := oddL_lt (T := T.toTable) (i := i) (j := i + 1) (by omega) (by omega)
      rw [hOf i (by omega), hOf (i + 1) hi]
      exact Int.ofNat_lt.2 this
    have hOa : (∃ i, i < O.n ∧ O.f i = A) ↔ Agrees (woT T.toTable A) := by
      constructor
      · rintro ⟨i, hi, e⟩
        have h1 := (oddL_get (T := T.toTable) (i := i) (by omega)).2
        rw [hOf i hi] at e
        rw [show (oddL T.toTable).getD i 0 = A by omega] at h1
        exact (mem_oddL.1 h1).2.2
      · intro hw
        have h1 : A ∈ oddL T.toTable := mem_oddL.2 ⟨hna, by simp only [Tab.toTable]; omega, hw⟩
        obtain ⟨i, hi, e⟩ := List.mem_iff_getElem.1 h1
        refine ⟨i, by omega, ?_⟩
        rw [hOf i (by omega), List.getD_eq_getElem?_getD, List.getElem?_eq_getElem hi]
        simp [e]
    rw [v2]
    (focus ((try with_reducible apply wpC.to); (repeat' ((conv => whnf); first | ((apply Start.mk); (focus exact byNext); (focus exact byLen)) | ((apply New.mk); (focus exact byNid)) | ((apply Need.mk); (focus exact byNeed)) | ((apply Fork.mk) <;> (intro _; try (exfalso; omega; done))) | ((apply Load1.mk); (focus exact byMem); (focus exact byVal)) | ((apply LoadN.mk); (focus exact byMem); (focus exact byList)) | ((apply Sto.mk); (focus exact bySto); (focus exact byLo); (focus exact byGet); (focus exact rfl); (focus exact rfl); (focus exact rfl); (focus exact byList)) | ((with_reducible apply Ix.nat); (focus exact rfl); (focus omega)) | ((with_reducible apply Ix.natp); (focus assumption); (focus omega)) | ((with_reducible apply Ix.pred); (focus first | assumption | exact fun _ => rfl); (focus omega); (focus omega)) | ((with_reducible apply Ix.lit); (focus exact byLit); (focus first | assumption | exact fun _ => rfl); (focus omega); (focus omega)) | ((with_reducible apply Ix.int); (focus exact rfl); (focus omega); (focus omega)) | ((with_reducible apply Ix.intp); (focus assumption); (focus omega); (focus omega)) | ((apply Wrap.mk); (focus exact byWrap)) | ((apply q_call); (focus exact byNext); (focus exact byLo); (focus (exact works_w)); first | ((apply q_allB) <;> (intro z_b _ _ _; first | exact Bool.noConfusion z_b | replace z_b := of_decide_eq_true z_b | replace z_b := of_decide_eq_false z_b | skip) <;> (first | contradiction | (revert z_b; intros))) | ((apply q_alli) <;> (intro _ _ _ _; try contradiction)) | ((apply q_allv); intro _ _ _)) | ((apply OpE.val); (focus exact rfl); (focus exact byVal)) | apply forceV_any | apply forceL_any)); all_goals (conv => whnf); all_goals (try with_reducible apply At.mk)))
    apply q_call
    focus (exact byNext)
    focus (exact byLo)
    focus exact truthOf_w (T := T) (m := m) (by (exact byOm)) (hTf _ (by (exact bySame))) hv
    rintro _ h3 ⟨t3, rfl, -⟩ q3 hn3
    rw [v1]
    (focus ((try with_reducible apply wpC.to); (repeat' ((conv => whnf); first | ((apply Start.mk); (focus exact byNext); (focus exact byLen)) | ((apply New.mk); (focus exact byNid)) | ((apply Need.mk); (focus exact byNeed)) | ((apply Fork.mk) <;> (intro _; try (exfalso; omega; done))) | ((apply Load1.mk); (focus exact byMem); (focus exact byVal)) | ((apply LoadN.mk); (focus exact byMem); (focus exact byList)) | ((apply Sto.mk); (focus exact bySto); (focus exact byLo); (focus exact byGet); (focus exact rfl); (focus exact rfl); (focus exact rfl); (focus exact byList)) | ((with_reducible apply Ix.nat); (focus exact rfl); (focus omega)) | ((with_reducible apply Ix.natp); (focus assumption); (focus omega)) | ((with_reducible apply Ix.pred); (focus first | assumption | exact fun _ => rfl); (focus omega); (focus omega)) | ((with_reducible apply Ix.lit); (focus exact byLit); (focus first | assumption | exact fun _ => rfl); (focus omega); (focus omega)) | ((with_reducible apply Ix.int); (focus exact rfl); (focus omega); (focus omega)) | ((with_reducible apply Ix.intp); (focus assumption); (focus omega); (focus omega)) | ((apply Wrap.mk); (focus exact byWrap)) | ((apply q_call); (focus exact byNext); (focus exact byLo); (focus (exact works_w)); first | ((apply q_allB) <;> (intro z_b _ _ _; first | exact Bool.noConfusion z_b | replace z_b := of_decide_eq_true z_b | replace z_b := of_decide_eq_false z_b | skip) <;> (first | contradiction | (revert z_b; intros))) | ((apply q_alli) <;> (intro _ _ _ _; try contradiction)) | ((apply q_allv); intro _ _ _)) | ((apply OpE.val); (focus exact rfl); (focus exact byVal)) | apply forceV_any | apply forceL_any)); all_goals (conv => whnf); all_goals (try with_reducible apply At.mk)))
    refine wp_loop (fun s : Nat × Bool => [(2, .int .u8 wh), (3, .pointer (some ⟨h.next, 0, none⟩)), (4, .pointer (some ⟨h.next + 1, 0, none⟩)), (7, .int .i64 A), (8, .slice O.b O.n O.c), (9, .int .i64 0), (12, .bool s.2), (13, .int .i64 s.1)]) (fun s h4 => Same m h h4 ∧ Same h2.next h2 h4 ∧ h3.next ≤ h4.next ∧ h4.get h.next = some (.cells T.cells 26) ∧ h4.get (h.next + 1) = some (.cells X.cells 29) ∧ s.1 ≤ O.n ∧ (s.2 = true ↔ ∃ i, i < s.1 ∧ O.f i = A)) (fun s => O.n - s.1) (0, false)
      ⟨rfl, rfl, rfl, rfl, rfl, rfl, rfl, rfl, trivial⟩ ⟨by (exact bySame), by (exact bySame), by (exact byOm), by (exact byGet), by (exact byGet), by simp only; omega, by simp⟩ ?_
    rintro ⟨s, b⟩ g h4 ⟨sm, sm2, hn4, g1, g2, hs, hb⟩ K hK
    simp only at hs hb hK
    have Oi4 : Ints h4 O.a O.n O.f := Oi.same (m := h2.next) sm2 Or
    have hl1 : s < O.n → 0 ≤ O.f s ∧ O.f s < T.tanks := hOl s
    have hl2 : 0 < s → s < O.n → O.f (s - 1) < O.f s := fun h0 h1 => by have := hOi (s - 1) (by omega); rwa [show s - 1 + 1 = s by omega] at this
    dsimp only
    cases b with
    | true =>
      (focus ((try with_reducible apply wpC.to); (repeat' ((conv => whnf); first | ((apply Start.mk); (focus exact byNext); (focus exact byLen)) | ((apply New.mk); (focus exact byNid)) | ((apply Need.mk); (focus exact byNeed)) | ((apply Fork.mk) <;> (intro _; try (exfalso; omega; done))) | ((apply Load1.mk); (focus exact byMem); (focus exact byVal)) | ((apply LoadN.mk); (focus exact byMem); (focus exact byList)) | ((apply Sto.mk); (focus exact bySto); (focus exact byLo); (focus exact byGet); (focus exact rfl); (focus exact rfl); (focus exact rfl); (focus exact byList)) | ((with_reducible apply Ix.nat); (focus exact rfl); (focus omega)) | ((with_reducible apply Ix.natp); (focus assumption); (focus omega)) | ((with_reducible apply Ix.pred); (focus first | assumption | exact fun _ => rfl); (focus omega); (focus omega)) | ((with_reducible apply Ix.lit); (focus exact byLit); (focus first | assumption | exact fun _ => rfl); (focus omega); (focus omega)) | ((with_reducible apply Ix.int); (focus exact rfl); (focus omega); (focus omega)) | ((with_reducible apply Ix.intp); (focus assumption); (focus omega); (focus omega)) | ((apply Wrap.mk); (focus exact byWrap)) | ((apply q_call); (focus exact byNext); (focus exact byLo); (focus (exact works_w)); first | ((apply q_allB) <;> (intro z_b _ _ _; first | exact Bool.noConfusion z_b | replace z_b := of_decide_eq_true z_b | replace z_b := of_decide_eq_false z_b | skip) <;> (first | contradiction | (revert z_b; intros))) | ((apply q_alli) <;> (intro _ _ _ _; try contradiction)) | ((apply q_allv); intro _ _ _)) | ((apply OpE.val); (focus exact rfl); (focus exact byVal)) | apply forceV_any | apply forceL_any)); all_goals (conv => whnf); all_goals (try with_reducible apply At.mk)))
      · refine hK (s + 1, true) _ _ ⟨rfl, rfl, rfl, rfl, rfl, rfl, rfl, int_of rfl (by simp only; omega), trivial⟩ ⟨sm, sm2, by (exact byOm), by (exact byGet), by (exact byGet), by simp only; omega, fun _ => by
          obtain ⟨i, hi, e⟩ := hb.1 rfl
          exact ⟨i, by simp only; omega, e⟩, fun _ => rfl⟩ (by simp only; omega)
      · refine hK (s + 1, true) _ _ ⟨rfl, rfl, rfl, rfl, rfl, rfl, rfl, int_of rfl (by simp only; omega), trivial⟩ ⟨sm, sm2, by (exact byOm), by (exact byGet), by (exact byGet), by simp only; omega, fun _ => by
          obtain ⟨i, hi, e⟩ := hb.1 rfl
          exact ⟨i, by simp only; omega, e⟩, fun _ => rfl⟩ (by simp only; omega)
      · have hsn : s = O.n := by omega
        subst hsn
        have hag := hOa.1 (hb.1 rfl)
        apply q_call
        focus (exact byNext)
        focus (exact byLo)
        focus exact without_w (T := T) (m := m) (k := A) (by (exact byOm)) (hTf _ (by (exact bySame))) hv
        rintro _ h5 ⟨R, rfl, hw, hR, hRb⟩ q5 hn5
        have hvR := hv.wo hw
        have htab := wo_table hv hw
        have hRf : ∀ h' : H, (∀ r, h4.next + 9 ≤ r → r < h5.next → h'.get r = h5.get r) → R.Ok h5.next h' := fun h' hh => hR.frame (fun h0 => by have := hRb h0; simp only [put_next, bump_next] at this; omega) (Nat.le_refl _) hh
        (focus ((try with_reducible apply wpC.to); (repeat' ((conv => whnf); first | ((apply Start.mk); (focus exact byNext); (focus exact byLen)) | ((apply New.mk); (focus exact byNid)) | ((apply Need.mk); (focus exact byNeed)) | ((apply Fork.mk) <;> (intro _; try (exfalso; omega; done))) | ((apply Load1.mk); (focus exact byMem); (focus exact byVal)) | ((apply LoadN.mk); (focus exact byMem); (focus exact byList)) | ((apply Sto.mk); (focus exact bySto); (focus exact byLo); (focus exact byGet); (focus exact rfl); (focus exact rfl); (focus exact rfl); (focus exact byList)) | ((with_reducible apply Ix.nat); (focus exact rfl); (focus omega)) | ((with_reducible apply Ix.natp); (focus assumption); (focus omega)) | ((with_reducible apply Ix.pred); (focus first | assumption | exact fun _ => rfl); (focus omega); (focus omega)) | ((with_reducible apply Ix.lit); (focus exact byLit); (focus first | assumption | exact fun _ => rfl); (focus omega); (focus omega)) | ((with_reducible apply Ix.int); (focus exact rfl); (focus omega); (focus omega)) | ((with_reducible apply Ix.intp); (focus assumption); (focus omega); (focus omega)) | ((apply Wrap.mk); (focus exact byWrap)) | ((apply q_call); (focus exact byNext); (focus exact byLo); (focus (exact works_w)); first | ((apply q_allB) <;> (intro z_b _ _ _; first | exact Bool.noConfusion z_b | replace z_b := of_decide_eq_true z_b | replace z_b := of_decide_eq_false z_b | skip) <;> (first | contradiction | (revert z_b; intros))) | ((apply q_alli) <;> (intro _ _ _ _; try contradiction)) | ((apply q_allv); intro _ _ _)) | ((apply OpE.val); (focus exact rfl); (focus exact byVal)) | apply forceV_any | apply forceL_any)); all_goals (conv => whnf); all_goals (try with_reducible apply At.mk)))
        apply q_call
        focus (exact byNext)
        focus (exact byLo)
        focus exact truthOf_w (T := R) (m := h5.next) (by (exact byOm)) (hRf _ fun r hr1 hr2 => get_of fun y hy => by (exact byGet)) hvR
        rintro _ h6 ⟨t6, rfl, -⟩ q6 hn6
        rw [htab]
        rw [tErr_ok.2 hag]
        (focus ((try with_reducible apply wpC.to); (repeat' ((conv => whnf); first | ((apply Start.mk); (focus exact byNext); (focus exact byLen)) | ((apply New.mk); (focus exact byNid)) | ((apply Need.mk); (focus exact byNeed)) | ((apply Fork.mk) <;> (intro _; try (exfalso; omega; done))) | ((apply Load1.mk); (focus exact byMem); (focus exact byVal)) | ((apply LoadN.mk); (focus exact byMem); (focus exact byList)) | ((apply Sto.mk); (focus exact bySto); (focus exact byLo); (focus exact byGet); (focus exact rfl); (focus exact rfl); (focus exact rfl); (focus exact byList)) | ((with_reducible apply Ix.nat); (focus exact rfl); (focus omega)) | ((with_reducible apply Ix.natp); (focus assumption); (focus omega)) | ((with_reducible apply Ix.pred); (focus first | assumption | exact fun _ => rfl); (focus omega); (focus omega)) | ((with_reducible apply Ix.lit); (focus exact byLit); (focus first | assumption | exact fun _ => rfl); (focus omega); (focus omega)) | ((with_reducible apply Ix.int); (focus exact rfl); (focus omega); (focus omega)) | ((with_reducible apply Ix.intp); (focus assumption); (focus omega); (focus omega)) | ((apply Wrap.mk); (focus exact byWrap)) | ((apply q_call); (focus exact byNext); (focus exact byLo); (focus (exact works_w)); first | ((apply q_allB) <;> (intro z_b _ _ _; first | exact Bool.noConfusion z_b | replace z_b := of_decide_eq_true z_b | replace z_b := of_decide_eq_false z_b | skip) <;> (first | contradiction | (revert z_b; intros))) | ((apply q_alli) <;> (intro _ _ _ _; try contradiction)) | ((apply q_allv); intro _ _ _)) | ((apply OpE.val); (focus exact rfl); (focus exact byVal)) | apply forceV_any | apply forceL_any)); all_goals (conv => whnf); all_goals (try with_reducible apply At.mk)))
        apply q_call
        focus (exact byNext)
        focus (exact byLo)
        focus exact refTruth_w (T := R) (t := X) (m := h5.next) (by (exact byOm)) (hRf _ fun r hr1 hr2 => get_of fun y hy => by (exact byGet)) hvR ((hXf _ (by (exact bySame))).frame (by (exact byOm)))
        rintro _ h7 ⟨e7, rfl, he7⟩ q7 hn7
        (focus ((try with_reducible apply wpC.to); (repeat' ((conv => whnf); first | ((apply Start.mk); (focus exact byNext); (focus exact byLen)) | ((apply New.mk); (focus exact byNid)) | ((apply Need.mk); (focus exact byNeed)) | ((apply Fork.mk) <;> (intro _; try (exfalso; omega; done))) | ((apply Load1.mk); (focus exact byMem); (focus exact byVal)) | ((apply LoadN.mk); (focus exact byMem); (focus exact byList)) | ((apply Sto.mk); (focus exact bySto); (focus exact byLo); (focus exact byGet); (focus exact rfl); (focus exact rfl); (focus exact rfl); (focus exact byList)) | ((with_reducible apply Ix.nat); (focus exact rfl); (focus omega)) | ((with_reducible apply Ix.natp); (focus assumption); (focus omega)) | ((with_reducible apply Ix.pred); (focus first | assumption | exact fun _ => rfl); (focus omega); (focus omega)) | ((with_reducible apply Ix.lit); (focus exact byLit); (focus first | assumption | exact fun _ => rfl); (focus omega); (focus omega)) | ((with_reducible apply Ix.int); (focus exact rfl); (focus omega); (focus omega)) | ((with_reducible apply Ix.intp); (focus assumption); (focus omega); (focus omega)) | ((apply Wrap.mk); (focus exact byWrap)) | ((apply q_call); (focus exact byNext); (focus exact byLo); (focus (exact works_w)); first | ((apply q_allB) <;> (intro z_b _ _ _; first | exact Bool.noConfusion z_b | replace z_b := of_decide_eq_true z_b | replace z_b := of_decide_eq_false z_b | skip) <;> (first | contradiction | (revert z_b; intros))) | ((apply q_alli) <;> (intro _ _ _ _; try contradiction)) | ((apply q_allv); intro _ _ _)) | ((apply OpE.val); (focus exact rfl); (focus exact byVal)) | apply forceV_any | apply forceL_any)); all_goals (conv => whnf); all_goals (try with_reducible apply At.mk)))
        all_goals (first | (apply fin1; (focus first | exact .inl rfl | exact .inr rfl); focus exact byR1) | (apply fin2; (focus first | exact .inl rfl | exact .inr rfl); (focus exact byR1); (focus exact byR1)) | (apply fin3; (focus first | exact .inl rfl | exact .inr rfl); (focus exact byR1); (focus exact byR1); (focus exact byR1)) | (apply fin0; (focus first | exact .inl rfl | exact .inr rfl)))
        all_goals rfl
    | false =>
      (focus ((try with_reducible apply wpC.to); (repeat' ((conv => whnf); first | ((apply Start.mk); (focus exact byNext); (focus exact byLen)) | ((apply New.mk); (focus exact byNid)) | ((apply Need.mk); (focus exact byNeed)) | ((apply Fork.mk) <;> (intro _; try (exfalso; omega; done))) | ((apply Load1.mk); (focus exact byMem); (focus exact byVal)) | ((apply LoadN.mk); (focus exact byMem); (focus exact byList)) | ((apply Sto.mk); (focus exact bySto); (focus exact byLo); (focus exact byGet); (focus exact rfl); (focus exact rfl); (focus exact rfl); (focus exact byList)) | ((with_reducible apply Ix.nat); (focus exact rfl); (focus omega)) | ((with_reducible apply Ix.natp); (focus assumption); (focus omega)) | ((with_reducible apply Ix.pred); (focus first | assumption | exact fun _ => rfl); (focus omega); (focus omega)) | ((with_reducible apply Ix.lit); (focus exact byLit); (focus first | assumption | exact fun _ => rfl); (focus omega); (focus omega)) | ((with_reducible apply Ix.int); (focus exact rfl); (focus omega); (focus omega)) | ((with_reducible apply Ix.intp); (focus assumption); (focus omega); (focus omega)) | ((apply Wrap.mk); (focus exact byWrap)) | ((apply q_call); (focus exact byNext); (focus exact byLo); (focus (exact works_w)); first | ((apply q_allB) <;> (intro z_b _ _ _; first | exact Bool.noConfusion z_b | replace z_b := of_decide_eq_true z_b | replace z_b := of_decide_eq_false z_b | skip) <;> (first | contradiction | (revert z_b; intros))) | ((apply q_alli) <;> (intro _ _ _ _; try contradiction)) | ((apply q_allv); intro _ _ _)) | ((apply OpE.val); (focus exact rfl); (focus exact byVal)) | apply forceV_any | apply forceL_any)); all_goals (conv => whnf); all_goals (try with_reducible apply At.mk)))
      · refine hK (s + 1, true) _ _ ⟨rfl, rfl, rfl, rfl, rfl, rfl, rfl, int_of rfl (by simp only; omega), trivial⟩ ⟨sm, sm2, by (exact byOm), by (exact byGet), by (exact byGet), by simp only; omega, fun _ => ⟨s, by simp only; omega, by assumption⟩, fun _ => rfl⟩ (by simp only; omega)
      · refine hK (s + 1, true) _ _ ⟨rfl, rfl, rfl, rfl, rfl, rfl, rfl, int_of rfl (by simp only; omega), trivial⟩ ⟨sm, sm2, by (exact byOm), by (exact byGet), by (exact byGet), by simp only; omega, fun _ => ⟨s, by simp only; omega, by assumption⟩, fun _ => rfl⟩ (by simp only; omega)
      · exfalso
        have := hl2 (by omega) (by omega)
        omega
      · refine hK (s + 1, false) _ _ ⟨rfl, rfl, rfl, rfl, rfl, rfl, rfl, int_of rfl (by simp only; omega), trivial⟩ ⟨sm, sm2, by (exact byOm), by (exact byGet), by (exact byGet), by simp only; omega, ?_⟩ (by simp only; omega)
        refine ⟨fun h => (by cases h), fun ⟨i, hi, e⟩ => ?_⟩
        by_cases his : i = s
        · subst his; contradiction
        · exact hb.2 ⟨i, by simp only at hi; omega, e⟩
      · refine hK (s + 1, false) _ _ ⟨rfl, rfl, rfl, rfl, rfl, rfl, rfl, int_of rfl (by simp only; omega), trivial⟩ ⟨sm, sm2, by (exact byOm), by (exact byGet), by (exact byGet), by simp only; omega, ?_⟩ (by simp only; omega)
        refine ⟨fun h => (by cases h), fun ⟨i, hi, e⟩ => ?_⟩
        by_cases his : i = s
        · subst his; contradiction
        · exact hb.2 ⟨i, by simp only at hi; omega, e⟩
      · have hsn : s = O.n := by omega
        subst hsn
        have hnag : ¬ Agrees (woT T.toTable A) := fun h => by have := hb.2 (hOa.2 h); cases this
        have htE : tErr (woT T.toTable A) = 20 := (tErr_val _).resolve_left fun h => hnag (tErr_ok.1 h)
        apply q_call
        focus (exact byNext)
        focus (exact byLo)
        focus exact without_w (T := T) (m := m) (k := A) (by (exact byOm)) (hTf _ (by (exact bySame))) hv
        rintro _ h5 ⟨R, rfl, hw, hR, hRb⟩ q5 hn5
        have hvR := hv.wo hw
        have htab := wo_table hv hw
        have hRf : ∀ h' : H, (∀ r, h4.next + 9 ≤ r → r < h5.next → h'.get r = h5.get r) → R.Ok h5.next h' := fun h' hh => hR.frame (fun h0 => by have := hRb h0; simp only [put_next, bump_next] at this; omega) (Nat.le_refl _) hh
        (focus ((try with_reducible apply wpC.to); (repeat' ((conv => whnf); first | ((apply Start.mk); (focus exact byNext); (focus exact byLen)) | ((apply New.mk); (focus exact byNid)) | ((apply Need.mk); (focus exact byNeed)) | ((apply Fork.mk) <;> (intro _; try (exfalso; omega; done))) | ((apply Load1.mk); (focus exact byMem); (focus exact byVal)) | ((apply LoadN.mk); (focus exact byMem); (focus exact byList)) | ((apply Sto.mk); (focus exact bySto); (focus exact byLo); (focus exact byGet); (focus exact rfl); (focus exact rfl); (focus exact rfl); (focus exact byList)) | ((with_reducible apply Ix.nat); (focus exact rfl); (focus omega)) | ((with_reducible apply Ix.natp); (focus assumption); (focus omega)) | ((with_reducible apply Ix.pred); (focus first | assumption | exact fun _ => rfl); (focus omega); (focus omega)) | ((with_reducible apply Ix.lit); (focus exact byLit); (focus first | assumption | exact fun _ => rfl); (focus omega); (focus omega)) | ((with_reducible apply Ix.int); (focus exact rfl); (focus omega); (focus omega)) | ((with_reducible apply Ix.intp); (focus assumption); (focus omega); (focus omega)) | ((apply Wrap.mk); (focus exact byWrap)) | ((apply q_call); (focus exact byNext); (focus exact byLo); (focus (exact works_w)); first | ((apply q_allB) <;> (intro z_b _ _ _; first | exact Bool.noConfusion z_b | replace z_b := of_decide_eq_true z_b | replace z_b := of_decide_eq_false z_b | skip) <;> (first | contradiction | (revert z_b; intros))) | ((apply q_alli) <;> (intro _ _ _ _; try contradiction)) | ((apply q_allv); intro _ _ _)) | ((apply OpE.val); (focus exact rfl); (focus exact byVal)) | apply forceV_any | apply forceL_any)); all_goals (conv => whnf); all_goals (try with_reducible apply At.mk)))
        apply q_call
        focus (exact byNext)
        focus (exact byLo)
        focus exact truthOf_w (T := R) (m := h5.next) (by (exact byOm)) (hRf _ fun r hr1 hr2 => get_of fun y hy => by (exact byGet)) hvR
        rintro _ h6 ⟨t6, rfl, -⟩ q6 hn6
        rw [htab]
        rw [htE]
        (focus ((try with_reducible apply wpC.to); (repeat' ((conv => whnf); first | ((apply Start.mk); (focus exact byNext); (focus exact byLen)) | ((apply New.mk); (focus exact byNid)) | ((apply Need.mk); (focus exact byNeed)) | ((apply Fork.mk) <;> (intro _; try (exfalso; omega; done))) | ((apply Load1.mk); (focus exact byMem); (focus exact byVal)) | ((apply LoadN.mk); (focus exact byMem); (focus exact byList)) | ((apply Sto.mk); (focus exact bySto); (focus exact byLo); (focus exact byGet); (focus exact rfl); (focus exact rfl); (focus exact rfl); (focus exact byList)) | ((with_reducible apply Ix.nat); (focus exact rfl); (focus omega)) | ((with_reducible apply Ix.natp); (focus assumption); (focus omega)) | ((with_reducible apply Ix.pred); (focus first | assumption | exact fun _ => rfl); (focus omega); (focus omega)) | ((with_reducible apply Ix.lit); (focus exact byLit); (focus first | assumption | exact fun _ => rfl); (focus omega); (focus omega)) | ((with_reducible apply Ix.int); (focus exact rfl); (focus omega); (focus omega)) | ((with_reducible apply Ix.intp); (focus assumption); (focus omega); (focus omega)) | ((apply Wrap.mk); (focus exact byWrap)) | ((apply q_call); (focus exact byNext); (focus exact byLo); (focus (exact works_w)); first | ((apply q_allB) <;> (intro z_b _ _ _; first | exact Bool.noConfusion z_b | replace z_b := of_decide_eq_true z_b | replace z_b := of_decide_eq_false z_b | skip) <;> (first | contradiction | (revert z_b; intros))) | ((apply q_alli) <;> (intro _ _ _ _; try contradiction)) | ((apply q_allv); intro _ _ _)) | ((apply OpE.val); (focus exact rfl); (focus exact byVal)) | apply forceV_any | apply forceL_any)); all_goals (conv => whnf); all_goals (try with_reducible apply At.mk)))
        apply q_call
        focus (exact byNext)
        focus (exact byLo)
        focus exact refTruth_w (T := R) (t := X) (m := h5.next) (by (exact byOm)) (hRf _ fun r hr1 hr2 => get_of fun y hy => by (exact byGet)) hvR ((hXf _ (by (exact bySame))).frame (by (exact byOm)))
        rintro _ h7 ⟨e7, rfl, he7⟩ q7 hn7
        have hne7 : e7 ≠ 0 := fun h => hnag (htab ▸ ⟨_, _, truthOk_fits hvR (he7.1 h)⟩)
        (focus ((try with_reducible apply wpC.to); (repeat' ((conv => whnf); first | ((apply Start.mk); (focus exact byNext); (focus exact byLen)) | ((apply New.mk); (focus exact byNid)) | ((apply Need.mk); (focus exact byNeed)) | ((apply Fork.mk) <;> (intro _; try (exfalso; omega; done))) | ((apply Load1.mk); (focus exact byMem); (focus exact byVal)) | ((apply LoadN.mk); (focus exact byMem); (focus exact byList)) | ((apply Sto.mk); (focus exact bySto); (focus exact byLo); (focus exact byGet); (focus exact rfl); (focus exact rfl); (focus exact rfl); (focus exact byList)) | ((with_reducible apply Ix.nat); (focus exact rfl); (focus omega)) | ((with_reducible apply Ix.natp); (focus assumption); (focus omega)) | ((with_reducible apply Ix.pred); (focus first | assumption | exact fun _ => rfl); (focus omega); (focus omega)) | ((with_reducible apply Ix.lit); (focus exact byLit); (focus first | assumption | exact fun _ => rfl); (focus omega); (focus omega)) | ((with_reducible apply Ix.int); (focus exact rfl); (focus omega); (focus omega)) | ((with_reducible apply Ix.intp); (focus assumption); (focus omega); (focus omega)) | ((apply Wrap.mk); (focus exact byWrap)) | ((apply q_call); (focus exact byNext); (focus exact byLo); (focus (exact works_w)); first | ((apply q_allB) <;> (intro z_b _ _ _; first | exact Bool.noConfusion z_b | replace z_b := of_decide_eq_true z_b | replace z_b := of_decide_eq_false z_b | skip) <;> (first | contradiction | (revert z_b; intros))) | ((apply q_alli) <;> (intro _ _ _ _; try contradiction)) | ((apply q_allv); intro _ _ _)) | ((apply OpE.val); (focus exact rfl); (focus exact byVal)) | apply forceV_any | apply forceL_any)); all_goals (conv => whnf); all_goals (try with_reducible apply At.mk)))
        all_goals (first | (apply fin1; (focus first | exact .inl rfl | exact .inr rfl); focus exact byR1) | (apply fin2; (focus first | exact .inl rfl | exact .inr rfl); (focus exact byR1); (focus exact byR1)) | (apply fin3; (focus first | exact .inl rfl | exact .inr rfl); (focus exact byR1); (focus exact byR1); (focus exact byR1)) | (apply fin0; (focus first | exact .inl rfl | exact .inr rfl)))
        all_goals rfl

end AE.Try
