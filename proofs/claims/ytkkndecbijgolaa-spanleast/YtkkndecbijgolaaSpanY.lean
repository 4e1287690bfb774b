/- Walks of span's definitions: what is bounded, what is asked. -/
import Derived.Test.YtkkndecbijgolaaJoin2
set_option linter.unusedVariables false
set_option linter.unusedSimpArgs false
set_option linter.unusedSectionVars false
namespace AE.Try
open Go AE Go.Proofs AE.Sp
set_option maxRecDepth 100000
set_option linter.unusedVariables false

theorem asked_r {h : H} {L : Runs} {m : Nat} {p q : Int} (hm : m ≤ h.next) (hL : L.Ok m h) : AW Try.prog 49 h.next h [.slice L.b L.n L.c, .int .i64 p, .int .i64 q] (fun v _ => v = .int .i64 (L.err2 p q)) := by
  have hL0 := hL
  refine fun49.call rfl (Nat.le_refl _) ?_
  unfold a49
  (focus ((try with_reducible apply wpC.to); (repeat' ((conv => whnf); first | refine byEv ?_ | ((apply Fork.mk) <;> (intro _; try (exfalso; omega; done))) | ((first | refine kSpanB7 ?_ | refine kSpanB5 ?_); first | ((first | apply q_allD | apply q_alli | apply q_allB) <;> (intro _ _ _ _; try contradiction)) | ((apply q_allv); intro _ _ _)) | fail)); all_goals (conv => whnf); all_goals (try with_reducible apply At.mk)))
  all_goals (refine byFin ?_)
  all_goals unfold Runs.err2
  · rw [if_pos (by assumption)]
  all_goals rw [if_neg (by omega)]
  all_goals first | rw [if_pos (show Fac p q from ⟨by omega, by omega⟩)] | rw [if_neg (fun k => by obtain ⟨k1, k2⟩ := k; omega)]

/-- Bounded, as the definitions say. -/
def BndR (L : Runs) (p q : Int) : Prop := (p = 0 ∧ q = 0) ∨ (∃ i j, i < L.n ∧ j < i ∧ crp (L.f i) (L.f j) ≠ 0) ∨ ∃ i, i < L.n ∧ (L.f i).p * q = (L.f i).q * p
open Classical in
set_option maxHeartbeats 4000000 in
theorem bounded_r {h : H} {L : Runs} {m : Nat} {p q : Int} (hm : m ≤ h.next) (hL : L.Ok m h) (lv : L.Val) (fac : Fac p q) : AW Try.prog 80 h.next h [.slice L.b L.n L.c, .int .i64 p, .int .i64 q] (fun v _ => v = .bool (decide (BndR L p q))) := by
  obtain ⟨le, li, lr, ll⟩ := id hL
  refine fun80.call rfl (Nat.le_refl _) ?_
  unfold a80
  by_cases hz : p = 0 ∧ q = 0
  · obtain ⟨rfl, rfl⟩ := hz
    (focus ((try with_reducible apply wpC.to); (repeat' ((conv => whnf); first | refine byEv ?_ | ((apply Fork.mk) <;> (intro _; try (exfalso; omega; done))) | refine xSpanC0 ?_ | refine xSpanB0 ?_ | fail)); all_goals (conv => whnf); all_goals (try with_reducible apply At.mk)))
    (refine byFin ?_)
    exact bool_t rfl (.inl ⟨rfl, rfl⟩)
  have hz' : p = 0 → q ≠ 0 := fun h1 h2 => hz ⟨h1, h2⟩
  (focus ((try with_reducible apply wpC.to); (repeat' ((conv => whnf); first | refine byEv ?_ | ((apply Fork.mk) <;> (intro _; try (exfalso; omega; done))) | refine xSpanC0 ?_ | refine xSpanB0 ?_ | fail)); all_goals (conv => whnf); all_goals (try with_reducible apply At.mk)))
  all_goals
    refine wp_loop (fun s : Nat => [(0, .slice L.b L.n L.c), (1, .int .i64 p), (2, .int .i64 q), (7, .int .i64 s)])
      (fun s h1 => Quiet h.next h h1 ∧ s ≤ L.n ∧ (∀ i' j', i' < s → j' < i' → crp (L.f i') (L.f j') = 0) ∧ ∀ i', i' < s → (L.f i').p * q ≠ (L.f i').q * p) (fun s => L.n - s) 0 ⟨rfl, rfl, rfl, rfl, trivial⟩ ⟨byQuiet, Nat.zero_le _, fun i' j' h => absurd h (Nat.not_lt_zero _), fun i' h => absurd h (Nat.not_lt_zero _)⟩ ?_
    rintro i g h1 ⟨q1, hi, c1, c2⟩ K hK
    by_cases hin : i < L.n
    · (focus ((try with_reducible apply wpC.to); (repeat' ((conv => whnf); first | refine byEv ?_ | ((apply Fork.mk) <;> (intro _; try (exfalso; omega; done))) | refine xSpanC0 ?_ | refine xSpanB0 ?_ | fail)); all_goals (conv => whnf); all_goals (try with_reducible apply At.mk)))
      refine wp_loop (fun s : Nat => [(0, .slice L.b L.n L.c), (1, .int .i64 p), (2, .int .i64 q), (7, .int .i64 i), (8, .int .i64 s)])
        (fun s h1 => Quiet h.next h h1 ∧ s ≤ i ∧ ∀ j', j' < s → crp (L.f i) (L.f j') = 0) (fun s => i - s) 0 ⟨rfl, rfl, rfl, rfl, rfl, trivial⟩ ⟨byQuiet, Nat.zero_le _, fun j' h => absurd h (Nat.not_lt_zero _)⟩ ?_
      rintro j g h2 ⟨q2, hj, c3⟩ K' hK'
      have li2 := li.same (m := m) (fun r hr => q2.same r (by omega)) lr
      unfold Run.cells at li2
      have lr' := lr (by omega)
      have n2 := q2.next
      obtain ⟨pi1, pi2, -, -, -, -⟩ := lv i hin
      by_cases hji : j < i
      · obtain ⟨pj1, pj2, -, -, -, -⟩ := lv j (by omega)
        have m1 := mul_bnd pi1.1 pi1.2 pj2.1 pj2.2
        have m2 := mul_bnd pi2.1 pi2.2 pj1.1 pj1.2
        (focus ((try with_reducible apply wpC.to); (repeat' ((conv => whnf); first | refine byEv ?_ | ((apply Fork.mk) <;> (intro _; try (exfalso; omega; done))) | refine xSpanC0 ?_ | refine xSpanB0 ?_ | fail)); all_goals (conv => whnf); all_goals (try with_reducible apply At.mk)))
        · (refine byFin ?_)
          exact bool_t rfl (.inr (.inl ⟨i, j, hin, hji, by unfold crp; omega⟩))
        · refine hK' (j + 1) _ _ ⟨rfl, rfl, rfl, rfl, int_of rfl (by omega), trivial⟩ ⟨byQuiet, by omega, fun j' h => ?_⟩ (by omega)
          by_cases e : j' = j
          · subst e; unfold crp; omega
          · exact c3 j' (by omega)
      · obtain rfl : j = i := by omega
        have m1 := mul_bnd pi1.1 pi1.2 fac.2.1 fac.2.2
        have m2 := mul_bnd pi2.1 pi2.2 fac.1.1 fac.1.2
        (focus ((try with_reducible apply wpC.to); (repeat' ((conv => whnf); first | refine byEv ?_ | ((apply Fork.mk) <;> (intro _; try (exfalso; omega; done))) | refine xSpanC0 ?_ | refine xSpanB0 ?_ | fail)); all_goals (conv => whnf); all_goals (try with_reducible apply At.mk)))
        · (refine byFin ?_)
          exact bool_t rfl (.inr (.inr ⟨j, hin, by assumption⟩))
        · refine hK (j + 1) _ _ ⟨rfl, rfl, rfl, int_of rfl (by omega), trivial⟩ ⟨byQuiet, by omega, fun i' j' h1 h2 => ?_, fun i' h => ?_⟩ (by omega)
          · by_cases e : i' = j
            · subst e; exact c3 j' h2
            · exact c1 i' j' (by omega) h2
          · by_cases e : i' = j
            · subst e; assumption
            · exact c2 i' (by omega)
    · obtain rfl : i = L.n := by omega
      (focus ((try with_reducible apply wpC.to); (repeat' ((conv => whnf); first | refine byEv ?_ | ((apply Fork.mk) <;> (intro _; try (exfalso; omega; done))) | refine xSpanC0 ?_ | refine xSpanB0 ?_ | fail)); all_goals (conv => whnf); all_goals (try with_reducible apply At.mk)))
      (refine byFin ?_)
      refine bool_f rfl fun k => ?_
      rcases k with k | ⟨i', j', k1, k2, k3⟩ | ⟨i', k1, k2⟩
      · exact hz k
      · exact k3 (c1 i' j' k1 k2)
      · exact c2 i' k1 k2
end AE.Try
