/- Walks of span's definitions: what is bounded, what is asked. -/
import Derived.Test.YtkkndecbijgolaaJoin2
set_option linter.unusedVariables false
set_option linter.unusedSimpArgs false
set_option linter.unusedSectionVars false
namespace AE.Try
open Go AE Go.Proofs AE.Sp
set_option maxRecDepth 100000
set_option linter.unusedVariables false

theorem asked_r {h : H} {L : Runs} {m : Nat} {p q : Int} (hm : m ≤ h.next) (hL : L.Ok m h) : AW Try.prog 49 h.next h [.slice L.b L.n L.c, .int .i64 p, .int .i64 q] (fun v _ => v = .int .i64 (L.err2 p q)) := by
  have hL0 := hL
  refine fun49.call rfl (Nat.le_refl _) ?_
  unfold a49
  (focus ((try with_reducible apply wpC.to); (repeat' ((conv => whnf); first | refine byEv ?_ | (apply Fork.mk <;> (intro _; try (exfalso; omega))) | ((first | refine kSpanB7 ?_ | refine kSpanB5 ?_); first | ((first | apply q_allD | apply q_alli | apply q_allB) <;> intro _ _ _ _ <;> try contradiction) | (apply q_allv; intro _ _ _)) | fail)); all_goals ((conv => whnf); try with_reducible apply At.mk)))
  all_goals (refine byFin ?_)
  all_goals unfold Runs.err2
  · rw [if_pos (by assumption)]
  all_goals rw [if_neg (by omega)]
  all_goals first | rw [if_pos (show Fac p q from ⟨by omega, by omega⟩)] | rw [if_neg (fun k => by obtain ⟨k1, k2⟩ := k; omega)]

/-- Bounded, as the definitions say. -/
def BndR (L : Runs) (p q : Int) : Prop := (p = 0 ∧ q = 0) ∨ (∃ i j, i < L.n ∧ j < i ∧ crp (L.f i) (L.f j) ≠ 0) ∨ ∃ i, i < L.n ∧ (L.f i).p * q = (L.f i).q * p
end AE.Try
