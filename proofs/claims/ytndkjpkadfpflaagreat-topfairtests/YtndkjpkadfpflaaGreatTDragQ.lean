/- Walks of the reference: the span by all ends. -/
import Derived.Test.YtndkjpkadfpflaaGreatTDragH
import Derived.Test.YtndkjpkadfpflaaGreatDragSpec7
set_option linter.unusedVariables false
set_option linter.unusedSimpArgs false
set_option linter.unusedSectionVars false
namespace AE.Tryz
open Go AE AE.Drag Go.Proofs
set_option maxRecDepth 100000

theorem refReynolds_ok {h : H} {t : T} (k : t.Ok) : AW Tryz.prog 63 h.next h [.agg ⟨t.cells⟩] (fun w _ => w = .tuple #[.agg ⟨[.int .i64 (modelRe t t.th), .int .i64 (modelRe t t.tl)]⟩, .agg ⟨[.int .i64 (shipRe t t.sh), .int .i64 (shipRe t t.sl)]⟩, .int .i64 0]) := by
  have := refReynolds_api (h := h) (t := t) .mk
  unfold reynV reynR at this
  rwa [if_pos (testErr_0 k)] at this
theorem kTDragQ0 {G : Prop} (g : G := by ((apply AW.arg1; (focus (apply refReynolds_ok; (focus assumption))); (focus exact Is.rfl)))) : G := g
/-- Reckoned. -/
theorem refReckoned_w {h : H} {t : T} {S : Lines} {m : Nat} (hm : m ≤ h.next) (k : t.Ok) (hS : S.Ok m h) (v : S.Valid) : AW Tryz.prog 26 h.next h [.agg ⟨t.cells⟩, .slice S.b S.k S.c] (fun w _ => w = .bool (decide (Reckoned t S))) := by
  obtain ⟨e1, i1, r1, ok, l1⟩ := hS
  refine fun26.call rfl (Nat.le_refl _) ?_
  unfold a26
  (focus ((try with_reducible apply wpC.to); (repeat' ((conv => whnf); first | refine byEv ?_ | (apply Fork.mk <;> (intro _; try (exfalso; omega))) | ((apply q_call); (focus exact byNext); (focus exact byLo); (focus (first | exact kTDragQ0 | exact kTDragG2 | exact kTDragF5 | exact kTDragF4 | exact kTDragD0 | exact kTDragC6)); first | ((apply q_allB) <;> (intro z_b _ _ _; first | exact Bool.noConfusion z_b | replace z_b := of_decide_eq_true z_b | replace z_b := of_decide_eq_false z_b | skip) <;> ((try simp only [AllOk, Bd.ok, and_true] at z_b); first | contradiction | (revert z_b; intros))) | ((apply q_alli) <;> intro _ _ _ _ <;> try contradiction) | (apply q_allv; intro _ _ _)) | fail)); all_goals ((conv => whnf); try with_reducible apply At.mk)))
  refine wp_loop (fun s : Nat => [(1, .slice S.b S.k S.c), (5, .pointer (some ⟨h.next + 8, 0, none⟩)), (6, .pointer (some ⟨h.next + 9, 0, none⟩)), (8, .int .i64 s)])
    (fun s h1 => h1.get (h.next + 8) = some (.cells [.int .i64 (modelRe t t.th), .int .i64 (modelRe t t.tl)] 36) ∧ h1.get (h.next + 9) = some (.cells [.int .i64 (shipRe t t.sh), .int .i64 (shipRe t t.sl)] 36) ∧ Same h.next h h1 ∧ h.next + 13 ≤ h1.next ∧ s ≤ S.k ∧ ∀ j, j < s → reckons t (S.ln j)) (fun s => S.k - s) 0 ⟨rfl, rfl, rfl, rfl, trivial⟩ ⟨byGet, byGet, bySame, byOm, by omega, fun j hj => by omega⟩ ?_
  rintro s g h1 ⟨g1, g2, q, hn1, hs, hz⟩ K hK
  by_cases hsk : s < S.k
  · have hL := ok s hsk
    have hv := v.v s hsk
    have hlo := hv.lo
    (focus ((try with_reducible apply wpC.to); (repeat' ((conv => whnf); first | refine byEv ?_ | (apply Fork.mk <;> (intro _; try (exfalso; omega))) | ((apply q_call); (focus exact byNext); (focus exact byLo); (focus (first | exact kTDragQ0 | exact kTDragG2 | exact kTDragF5 | exact kTDragF4 | exact kTDragD0 | exact kTDragC6)); first | ((apply q_allB) <;> (intro z_b _ _ _; first | exact Bool.noConfusion z_b | replace z_b := of_decide_eq_true z_b | replace z_b := of_decide_eq_false z_b | skip) <;> ((try simp only [AllOk, Bd.ok, and_true] at z_b); first | contradiction | (revert z_b; intros))) | ((apply q_alli) <;> intro _ _ _ _ <;> try contradiction) | (apply q_allv; intro _ _ _)) | fail)); all_goals ((conv => whnf); try with_reducible apply At.mk)))
    all_goals first
      | ((refine byFin ?_)
         refine bool_f rfl fun c => ?_
         have := c s hsk
         unfold reckons at this
         omega)
      | (refine hK (s + 1) _ _ ⟨rfl, rfl, rfl, int_of rfl (by omega), trivial⟩ ⟨byGet, byGet, bySame, byOm, by omega, fun j hj => ?_⟩ (by omega)
         by_cases e : j = s
         · subst e; unfold reckons; omega
         · exact hz j (by omega))
  · have : s = S.k := by omega
    subst this
    (focus ((try with_reducible apply wpC.to); (repeat' ((conv => whnf); first | refine byEv ?_ | (apply Fork.mk <;> (intro _; try (exfalso; omega))) | ((apply q_call); (focus exact byNext); (focus exact byLo); (focus (first | exact kTDragQ0 | exact kTDragG2 | exact kTDragF5 | exact kTDragF4 | exact kTDragD0 | exact kTDragC6)); first | ((apply q_allB) <;> (intro z_b _ _ _; first | exact Bool.noConfusion z_b | replace z_b := of_decide_eq_true z_b | replace z_b := of_decide_eq_false z_b | skip) <;> ((try simp only [AllOk, Bd.ok, and_true] at z_b); first | contradiction | (revert z_b; intros))) | ((apply q_alli) <;> intro _ _ _ _ <;> try contradiction) | (apply q_allv; intro _ _ _)) | fail)); all_goals ((conv => whnf); try with_reducible apply At.mk)))
    (refine byFin ?_)
    exact bool_t rfl hz
theorem kTDragQ1 {G : Prop} (g : G := by ((apply AW.arg1; (focus (apply refReckoned_w; rotate_left; (focus assumption); (focus (apply Lines.Ok.same; (focus assumption); (focus exact bySame); (focus exact Nat.le_refl _))); (focus assumption); (focus exact byOm))); (focus exact Is.rfl)))) : G := g
end AE.Tryz
