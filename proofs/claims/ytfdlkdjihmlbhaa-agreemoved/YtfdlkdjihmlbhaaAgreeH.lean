/- Walks of agree: heights from the floor, one height. -/
import Derived.Test.YtfdlkdjihmlbhaaAgreeG
set_option linter.unusedVariables false
set_option linter.unusedSimpArgs false
set_option linter.unusedSectionVars false
namespace AE.Try
open Go AE AE.Ag AgreeS Go.Proofs
set_option maxRecDepth 100000

theorem at_w {h : H} {hr r mr t : Nat} {ti : Int} {x : St} {e : TypeId} (ht : t < 13) (hti : ti = (t : Int)) (hg : h.get hr = some (.cells (hCells r mr x) e)) : AW Try.prog 48 h.next h [.pointer (some ⟨hr, 0, none⟩), .int .i64 ti] (fun v _ => v = .int .i64 (hts x.known t)) := by
  subst hti
  have hx : ∀ h1 : H, h1.get hr = some (.cells (hCells r mr x) e) → h1.loadN ⟨hr, 0 + 1 + t * 2 + 1, none⟩ 1 = some [.int .i64 (hts x.known t)] := fun h1 h1g => by
    have h2 := h_load ht h1g
    simp only [H.loadN, h1g, Option.bind_some, loadRow] at h2 ⊢
    refine cut_cut h2 ?_
    unfold hts
    cases x.known t <;> rfl
  refine fun48.call rfl (Nat.le_refl _) ?_
  unfold a48
  (focus ((try with_reducible apply wpC.to); (repeat' ((conv => whnf); first | ((apply Start.mk); (focus exact byNext); (focus exact byLen)) | ((apply Load1.mk); (focus exact byMem); (focus exact byVal)) | ((with_reducible apply Ix.pred); (focus first | assumption | exact fun _ => rfl); (focus omega); (focus omega)) | ((with_reducible apply IxA.nat); (focus omega)) | ((with_reducible apply IxA.lit); (focus exact byLit); (focus omega); (focus omega)) | ((with_reducible apply IxA.int); (focus omega); (focus omega)) | apply forceV_any | apply forceL_any)); all_goals (conv => whnf); all_goals (try with_reducible apply At.mk)))
  refine Load1.mk (hx _ (by (exact byGet))) rfl ?_
  (focus ((try with_reducible apply wpC.to); (repeat' ((conv => whnf); first | ((apply Start.mk); (focus exact byNext); (focus exact byLen)) | ((apply Load1.mk); (focus exact byMem); (focus exact byVal)) | ((with_reducible apply Ix.pred); (focus first | assumption | exact fun _ => rfl); (focus omega); (focus omega)) | ((with_reducible apply IxA.nat); (focus omega)) | ((with_reducible apply IxA.lit); (focus exact byLit); (focus omega); (focus omega)) | ((with_reducible apply IxA.int); (focus omega); (focus omega)) | apply forceV_any | apply forceL_any)); all_goals (conv => whnf); all_goals (try with_reducible apply At.mk)))
  (first | (apply fin1; (focus first | exact .inl rfl | exact .inr rfl); focus exact byR1) | (apply fin2; (focus first | exact .inl rfl | exact .inr rfl); (focus exact byR1); (focus exact byR1)) | (apply fin3; (focus first | exact .inl rfl | exact .inr rfl); (focus exact byR1); (focus exact byR1); (focus exact byR1)) | (apply fin0; (focus first | exact .inl rfl | exact .inr rfl)))
  rfl

/-- Heights that were found lie so. -/
def Lies (h0 : H) (r : Nat) (x : St) (hr : Nat) (h' : H) : Prop := ∃ mr e', h0.next ≤ hr ∧ hr < h'.next ∧ h0.next ≤ mr ∧ mr < h'.next ∧ hr ≠ mr ∧ h'.get hr = some (.cells (hCells r mr x) e') ∧ h'.get mr = some (.map (ents x.before 0) x.before.length)

theorem heights_w {h : H} {T : Tab} {r : Nat} {B : Net} {e : TypeId} (hv : T.Valid) (hr : r < h.next) (hB : Lim T.toTable.many B) (hg : h.get r = some (.cells (T.head ++ netRows B) e)) :
    AW Try.prog 30 h.next h [.pointer (some ⟨r, 0, none⟩)] (fun v h' => ∃ hr, v = .tuple #[.pointer (some ⟨hr, 0, none⟩), .bool (decide ((AgreeS.found B T.toTable.many 0).last < 0))] ∧ Lies h r (AgreeS.found B T.toTable.many 0) hr h') := by
  refine fun30.call rfl (Nat.le_refl _) ?_
  unfold a30
  (focus ((try with_reducible apply wpC.to); (repeat' ((conv => whnf); first | ((apply Start.mk); (focus exact byNext); (focus exact byLen)) | ((with_reducible apply Ix.pred); (focus first | assumption | exact fun _ => rfl); (focus omega); (focus omega)) | apply forceV_any | apply forceL_any)); all_goals (conv => whnf); all_goals (try with_reducible apply At.mk)))
  apply q_call
  focus (exact byNext)
  focus (exact byLo)
  focus exact from_w (a := 0) hv (by (exact byOm)) hB (by (exact byGet)) (by have := hv.ok.many; omega) rfl
  rintro _ h1 ⟨hr, mr, e', rfl, a1, a2, a3, a4, a5, a6, a7⟩ q hn
  (focus ((try with_reducible apply wpC.to); (repeat' ((conv => whnf); first | ((apply Start.mk); (focus exact byNext); (focus exact byLen)) | ((with_reducible apply Ix.pred); (focus first | assumption | exact fun _ => rfl); (focus omega); (focus omega)) | apply forceV_any | apply forceL_any)); all_goals (conv => whnf); all_goals (try with_reducible apply At.mk)))
  (first | (apply fin1; (focus first | exact .inl rfl | exact .inr rfl); focus exact byR1) | (apply fin2; (focus first | exact .inl rfl | exact .inr rfl); (focus exact byR1); (focus exact byR1)) | (apply fin3; (focus first | exact .inl rfl | exact .inr rfl); (focus exact byR1); (focus exact byR1); (focus exact byR1)) | (apply fin0; (focus first | exact .inl rfl | exact .inr rfl)))
  simp only [bump_next] at a1 a3
  exact ⟨hr, rfl, mr, e', by omega, by (exact byOm), by omega, by (exact byOm), a5, by (exact byGet), by (exact byGet)⟩

theorem far_w {h : H} {T : Tab} {r a b : Nat} {ai bi : Int} {B : Net} {e : TypeId} (hv : T.Valid) (hr : r < h.next) (hB : Lim T.toTable.many B) (hg : h.get r = some (.cells (T.head ++ netRows B) e)) (ha : a < T.toTable.many) (hb : b < 13) (hai : ai = (a : Int)) (hbi : bi = (b : Int)) :
    AW Try.prog 32 h.next h [.pointer (some ⟨r, 0, none⟩), .int .i64 ai, .int .i64 bi] (fun v _ => v = .int .i64 (hts (AgreeS.found B T.toTable.many a).known b)) := by
  refine fun32.call rfl (Nat.le_refl _) ?_
  unfold a32
  (focus ((try with_reducible apply wpC.to); (repeat' ((conv => whnf); first | ((apply Start.mk); (focus exact byNext); (focus exact byLen)) | ((with_reducible apply Ix.pred); (focus first | assumption | exact fun _ => rfl); (focus omega); (focus omega)) | ((apply q_call); (focus exact byNext); (focus exact byLo); (focus (exact is_w)); first | ((apply q_allB) <;> (intro z_b _ _ _; first | exact Bool.noConfusion z_b | replace z_b := of_decide_eq_true z_b | replace z_b := of_decide_eq_false z_b | skip) <;> (first | contradiction | (revert z_b; intros))) | ((apply q_alli) <;> (intro _ _ _ _; try contradiction)) | ((apply q_allv); intro _ _ _)) | apply callC_any | apply forceV_any | apply forceL_any)); all_goals (conv => whnf); all_goals (try with_reducible apply At.mk)))
  apply q_call
  focus (exact byNext)
  focus (exact byLo)
  focus exact from_w (a := a) hv (by (exact byOm)) hB (by (exact byGet)) ha hai
  rintro _ h1 ⟨hr, mr, e', rfl, a1, a2, a3, a4, a5, a6, a7⟩ q hn
  (focus ((try with_reducible apply wpC.to); (repeat' ((conv => whnf); first | ((apply Start.mk); (focus exact byNext); (focus exact byLen)) | ((with_reducible apply Ix.pred); (focus first | assumption | exact fun _ => rfl); (focus omega); (focus omega)) | ((apply q_call); (focus exact byNext); (focus exact byLo); (focus (exact is_w)); first | ((apply q_allB) <;> (intro z_b _ _ _; first | exact Bool.noConfusion z_b | replace z_b := of_decide_eq_true z_b | replace z_b := of_decide_eq_false z_b | skip) <;> (first | contradiction | (revert z_b; intros))) | ((apply q_alli) <;> (intro _ _ _ _; try contradiction)) | ((apply q_allv); intro _ _ _)) | apply callC_any | apply forceV_any | apply forceL_any)); all_goals (conv => whnf); all_goals (try with_reducible apply At.mk)))
  apply q_callv
  focus (exact byNext)
  focus (exact byLo)
  focus exact at_w hb hbi (by (exact byGet))
  intro h2 q2 hn2
  (focus ((try with_reducible apply wpC.to); (repeat' ((conv => whnf); first | ((apply Start.mk); (focus exact byNext); (focus exact byLen)) | ((with_reducible apply Ix.pred); (focus first | assumption | exact fun _ => rfl); (focus omega); (focus omega)) | ((apply q_call); (focus exact byNext); (focus exact byLo); (focus (exact is_w)); first | ((apply q_allB) <;> (intro z_b _ _ _; first | exact Bool.noConfusion z_b | replace z_b := of_decide_eq_true z_b | replace z_b := of_decide_eq_false z_b | skip) <;> (first | contradiction | (revert z_b; intros))) | ((apply q_alli) <;> (intro _ _ _ _; try contradiction)) | ((apply q_allv); intro _ _ _)) | apply callC_any | apply forceV_any | apply forceL_any)); all_goals (conv => whnf); all_goals (try with_reducible apply At.mk)))
  (first | (apply fin1; (focus first | exact .inl rfl | exact .inr rfl); focus exact byR1) | (apply fin2; (focus first | exact .inl rfl | exact .inr rfl); (focus exact byR1); (focus exact byR1)) | (apply fin3; (focus first | exact .inl rfl | exact .inr rfl); (focus exact byR1); (focus exact byR1); (focus exact byR1)) | (apply fin0; (focus first | exact .inl rfl | exact .inr rfl)))
  rfl

end AE.Try
