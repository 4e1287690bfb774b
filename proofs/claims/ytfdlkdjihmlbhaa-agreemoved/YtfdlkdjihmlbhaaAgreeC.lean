/- Walks of agree: nets. -/
import Derived.Test.YtfdlkdjihmlbhaaAgreeB
set_option linter.unusedVariables false
set_option linter.unusedSimpArgs false
set_option linter.unusedSectionVars false
namespace AE.Try
open Go AE AE.Ag AgreeS Go.Proofs
set_option maxRecDepth 100000

theorem old_w {h : H} {r : Nat} {x : Int} {b : Bool} {e : TypeId} (hr : r < h.next) (hg : h.get r = some (.cells [.bool b, .int .i64 x] e)) : AW Try.prog 63 h.next h [.pointer (some ⟨r, 0, none⟩)] (fun v _ => v = .tuple #[.int .i64 x, .bool b]) := by
  refine fun63.call rfl (Nat.le_refl _) ?_
  unfold a63
  (focus ((try with_reducible apply wpC.to); (repeat' ((conv => whnf); first | ((apply Start.mk); (focus exact byNext); (focus exact byLen)) | ((apply Load1.mk); (focus exact byMem); (focus exact byVal)) | ((with_reducible apply Ix.pred); (focus first | assumption | exact fun _ => rfl); (focus omega); (focus omega)) | apply forceV_any | apply forceL_any)); all_goals (conv => whnf); all_goals (try with_reducible apply At.mk)))
  all_goals (first | (apply fin1; (focus first | exact .inl rfl | exact .inr rfl); focus exact byR1) | (apply fin2; (focus first | exact .inl rfl | exact .inr rfl); (focus exact byR1); (focus exact byR1)) | (apply fin3; (focus first | exact .inl rfl | exact .inr rfl); (focus exact byR1); (focus exact byR1); (focus exact byR1)) | (apply fin0; (focus first | exact .inl rfl | exact .inr rfl)))
  all_goals rfl
theorem lesser_w {h : H} {a x : Int} {b : Bool} {fv : Value} (hy : ∀ h1, Quiet h.next h h1 → ∃ v h2, v = .tuple #[.int .i64 x, .bool b] ∧ ACall Try.prog fv h1.next h1 [] v h2) : AW Try.prog 62 h.next h [.int .i64 a, fv] (fun v _ => v = .int .i64 (if b then min a x else a)) := by
  refine fun62.call rfl (Nat.le_refl _) ?_
  unfold a62
  (focus ((try with_reducible apply wpC.to); (repeat' ((conv => whnf); first | ((apply Start.mk); (focus exact byNext); (focus exact byLen)) | ((with_reducible apply Ix.pred); (focus first | assumption | exact fun _ => rfl); (focus omega); (focus omega)) | ((apply q_call); (focus exact byNext); (focus exact byLo); (focus (exact is_w)); first | ((apply q_allB) <;> (intro z_b _ _ _; first | exact Bool.noConfusion z_b | replace z_b := of_decide_eq_true z_b | replace z_b := of_decide_eq_false z_b | skip) <;> (first | contradiction | (revert z_b; intros))) | ((apply q_alli) <;> (intro _ _ _ _; try contradiction)) | ((apply q_allv); intro _ _ _)) | apply callC_any | apply forceV_any | apply forceL_any)); all_goals (conv => whnf); all_goals (try with_reducible apply At.mk)))
  apply q_calla
  focus exact acall_mono (hy _ (by (exact byQuiet))) (by (exact byOm))
  rintro _ h2 rfl q
  cases b with
  | true =>
    (focus ((try with_reducible apply wpC.to); (repeat' ((conv => whnf); first | ((apply Start.mk); (focus exact byNext); (focus exact byLen)) | ((with_reducible apply Ix.pred); (focus first | assumption | exact fun _ => rfl); (focus omega); (focus omega)) | ((apply q_call); (focus exact byNext); (focus exact byLo); (focus (exact is_w)); first | ((apply q_allB) <;> (intro z_b _ _ _; first | exact Bool.noConfusion z_b | replace z_b := of_decide_eq_true z_b | replace z_b := of_decide_eq_false z_b | skip) <;> (first | contradiction | (revert z_b; intros))) | ((apply q_alli) <;> (intro _ _ _ _; try contradiction)) | ((apply q_allv); intro _ _ _)) | apply callC_any | apply forceV_any | apply forceL_any)); all_goals (conv => whnf); all_goals (try with_reducible apply At.mk)))
    all_goals (first | (apply fin1; (focus first | exact .inl rfl | exact .inr rfl); focus exact byR1) | (apply fin2; (focus first | exact .inl rfl | exact .inr rfl); (focus exact byR1); (focus exact byR1)) | (apply fin3; (focus first | exact .inl rfl | exact .inr rfl); (focus exact byR1); (focus exact byR1); (focus exact byR1)) | (apply fin0; (focus first | exact .inl rfl | exact .inr rfl)))
    all_goals exact int_of rfl (by first | (simp only [if_true]; done) | (simp only [if_true]; omega))
  | false =>
    (focus ((try with_reducible apply wpC.to); (repeat' ((conv => whnf); first | ((apply Start.mk); (focus exact byNext); (focus exact byLen)) | ((with_reducible apply Ix.pred); (focus first | assumption | exact fun _ => rfl); (focus omega); (focus omega)) | ((apply q_call); (focus exact byNext); (focus exact byLo); (focus (exact is_w)); first | ((apply q_allB) <;> (intro z_b _ _ _; first | exact Bool.noConfusion z_b | replace z_b := of_decide_eq_true z_b | replace z_b := of_decide_eq_false z_b | skip) <;> (first | contradiction | (revert z_b; intros))) | ((apply q_alli) <;> (intro _ _ _ _; try contradiction)) | ((apply q_allv); intro _ _ _)) | apply callC_any | apply forceV_any | apply forceL_any)); all_goals (conv => whnf); all_goals (try with_reducible apply At.mk)))
    (first | (apply fin1; (focus first | exact .inl rfl | exact .inr rfl); focus exact byR1) | (apply fin2; (focus first | exact .inl rfl | exact .inr rfl); (focus exact byR1); (focus exact byR1)) | (apply fin3; (focus first | exact .inl rfl | exact .inr rfl); (focus exact byR1); (focus exact byR1); (focus exact byR1)) | (apply fin0; (focus first | exact .inl rfl | exact .inr rfl)))
    exact int_of rfl (by simp)

theorem is_eq {l m : List Value} (h : l = m) : Is l m := h ▸ Is.rfl

theorem put_w {h : H} {lo r f t : Nat} {m : Int} {hd : List Value} {B : Net} {e : TypeId} (hlo : lo ≤ r) (hr : r < h.next) (hd6 : hd.length = 6) (hf : f < 13) (ht : t < 13) (hg : h.get r = some (.cells (hd ++ netRows B) e)) :
    AW Try.prog 55 lo h [.pointer (some ⟨r, 0, none⟩), .int .i64 f, .int .i64 t, .int .i64 m] (fun _ h' => h'.get r = some (.cells (hd ++ netRows (AgreeS.put B f t m)) e) ∧ ∀ s, s < h.next → s ≠ r → h'.get s = h.get s) := by
  refine fun55.call rfl (by omega) ?_
  unfold a55
  obtain ⟨b, x, hbx, hmin⟩ : ∃ b x, boundV (B f t) = [.bool b, .int .i64 x] ∧ AgreeS.put B f t m f t = some (if b then min m x else m) := by
    cases hb : B f t with
    | none => exact ⟨false, 0, rfl, by simp [AgreeS.put, hb]⟩
    | some o => exact ⟨true, o, rfl, by simp [AgreeS.put, hb]⟩
  have hld : ∀ h1 : H, h1.get r = some (.cells (hd ++ netRows B) e) → h1.loadN ⟨r, 0 + 6 + f * 26 + t * 2, none⟩ 2 = some [.bool b, .int .i64 x] := fun h1 h1g =>
    loadN_cells h1g (by
      have := netRows_get B hf ht hd [] (a := 0 + 6 + f * 26 + t * 2) (by omega)
      rw [← hbx]
      simpa using this)
  have hst : splice (hd ++ netRows B) (0 + 6 + f * 26 + t * 2) [.bool true, .int .i64 (if b then min m x else m)] = hd ++ netRows (AgreeS.put B f t m) := by
    have := netRows_set (B := B) (B' := AgreeS.put B f t m) (v := some (if b then min m x else m)) (a := 0 + 6 + f * 26 + t * 2) (fun i j => by
      by_cases hij : i = f ∧ j = t
      · obtain ⟨rfl, rfl⟩ := hij; rw [hmin]; simp
      · simp [AgreeS.put, hij]) hf ht hd [] (by omega)
    simpa [boundV] using this
  (focus ((try with_reducible apply wpC.to); (repeat' ((conv => whnf); first | ((apply Start.mk); (focus exact byNext); (focus exact byLen)) | ((apply New.mk); (focus exact byNid)) | ((apply Need.mk); (focus exact byNeed)) | ((apply LoadN.mk); (focus exact byMem); (focus exact byList)) | ((apply Sto.mk); (focus exact bySto); (focus exact byLo); (focus exact byGet); (focus exact rfl); (focus exact rfl); (focus exact rfl); (focus exact byList)) | ((with_reducible apply Ix.pred); (focus first | assumption | exact fun _ => rfl); (focus omega); (focus omega)) | ((with_reducible apply IxA.nat); (focus omega)) | ((with_reducible apply IxA.lit); (focus exact byLit); (focus omega); (focus omega)) | ((with_reducible apply IxA.int); (focus omega); (focus omega)) | apply forceV_any | apply forceL_any)); all_goals (conv => whnf); all_goals (try with_reducible apply At.mk)))
  refine LoadN.mk (hld _ (by (exact byGet))) Is.rfl ?_
  (focus ((try with_reducible apply wpC.to); (repeat' ((conv => whnf); first | ((apply Start.mk); (focus exact byNext); (focus exact byLen)) | ((apply New.mk); (focus exact byNid)) | ((apply Need.mk); (focus exact byNeed)) | ((apply LoadN.mk); (focus exact byMem); (focus exact byList)) | ((apply Sto.mk); (focus exact bySto); (focus exact byLo); (focus exact byGet); (focus exact rfl); (focus exact rfl); (focus exact rfl); (focus exact byList)) | ((with_reducible apply Ix.pred); (focus first | assumption | exact fun _ => rfl); (focus omega); (focus omega)) | ((with_reducible apply IxA.nat); (focus omega)) | ((with_reducible apply IxA.lit); (focus exact byLit); (focus omega); (focus omega)) | ((with_reducible apply IxA.int); (focus omega); (focus omega)) | apply forceV_any | apply forceL_any)); all_goals (conv => whnf); all_goals (try with_reducible apply At.mk)))
  apply q_callv
  focus (exact byNext)
  focus (exact byLo)
  focus exact lesser_w (b := b) (x := x) fun h1 q => acall_of (old_w (e := 78) (r := h.next + 8) (by have := q.next; (exact byOm)) ((q.same _ (by (exact byOm))).trans (by (exact byGet)))) rfl
  intro h2 q hn
  (focus ((try with_reducible apply wpC.to); (repeat' ((conv => whnf); first | ((apply Start.mk); (focus exact byNext); (focus exact byLen)) | ((apply New.mk); (focus exact byNid)) | ((apply Need.mk); (focus exact byNeed)) | ((apply LoadN.mk); (focus exact byMem); (focus exact byList)) | ((apply Sto.mk); (focus exact bySto); (focus exact byLo); (focus exact byGet); (focus exact rfl); (focus exact rfl); (focus exact rfl); (focus exact byList)) | ((with_reducible apply Ix.pred); (focus first | assumption | exact fun _ => rfl); (focus omega); (focus omega)) | ((with_reducible apply IxA.nat); (focus omega)) | ((with_reducible apply IxA.lit); (focus exact byLit); (focus omega); (focus omega)) | ((with_reducible apply IxA.int); (focus omega); (focus omega)) | apply forceV_any | apply forceL_any)); all_goals (conv => whnf); all_goals (try with_reducible apply At.mk)))
  refine Sto.mk (r := r) (off := 0 + 6 + f * 26 + t * 2) rfl hlo (by (exact byGet)) rfl rfl (Nat.ble_eq_true_of_le (by simp [hd6, netRows_len]; omega)) (is_eq hst) ?_
  (focus ((try with_reducible apply wpC.to); (repeat' ((conv => whnf); first | ((apply Start.mk); (focus exact byNext); (focus exact byLen)) | ((apply New.mk); (focus exact byNid)) | ((apply Need.mk); (focus exact byNeed)) | ((apply LoadN.mk); (focus exact byMem); (focus exact byList)) | ((apply Sto.mk); (focus exact bySto); (focus exact byLo); (focus exact byGet); (focus exact rfl); (focus exact rfl); (focus exact rfl); (focus exact byList)) | ((with_reducible apply Ix.pred); (focus first | assumption | exact fun _ => rfl); (focus omega); (focus omega)) | ((with_reducible apply IxA.nat); (focus omega)) | ((with_reducible apply IxA.lit); (focus exact byLit); (focus omega); (focus omega)) | ((with_reducible apply IxA.int); (focus omega); (focus omega)) | apply forceV_any | apply forceL_any)); all_goals (conv => whnf); all_goals (try with_reducible apply At.mk)))
  (first | (apply fin1; (focus first | exact .inl rfl | exact .inr rfl); focus exact byR1) | (apply fin2; (focus first | exact .inl rfl | exact .inr rfl); (focus exact byR1); (focus exact byR1)) | (apply fin3; (focus first | exact .inl rfl | exact .inr rfl); (focus exact byR1); (focus exact byR1); (focus exact byR1)) | (apply fin0; (focus first | exact .inl rfl | exact .inr rfl)))
  refine ⟨by (exact byGet), fun s hs hne => ?_⟩
  generalize hx : h.get s = y
  (exact byGet)

end AE.Try
