/- Walks and plain laws: SpanYruns, SpanZu. -/
import Derived.Test.YtkkndecbijgolaaSpanZt
set_option linter.unusedVariables false
set_option linter.unusedSimpArgs false
set_option linter.unusedSectionVars false

/- Walks of the laws of spans: SpanRuns, SpanProofs. -/
namespace AE.Try
open Go AE Go.Proofs AE.Sp
set_option maxRecDepth 100000
set_option linter.unusedVariables false

theorem same_fr (x : Fr) : pureRun Try.prog (Op.equalIn Op.maxDepth 38 (.agg ⟨x.cells⟩) (.agg ⟨x.cells⟩)) = some Bool.true := (eql_fr x x).trans (congrArg some (decide_eq_true rfl))
end AE.Try

/- Walks of the laws of spans: what is known of least values. -/
namespace AE.Try
open Go AE Go.Proofs AE.Sp
set_option maxRecDepth 100000
set_option linter.unusedVariables false

theorem kSpanZu0 {G G' : Prop} (g : G') (t : G' → G := by ((apply q_call); (focus exact byNext); (focus exact byLo); (focus ((apply works_l))))) : G := t g
theorem kSpanZu2 {G G' : Prop} (g : G') (t : G' → G := by ((apply q_call); (focus exact byNext); (focus exact byLo); (focus ((apply fine_l; rotate_left; (focus (apply Runs.Ok.same; (focus assumption); (focus exact bySame); (focus exact Nat.le_refl _))); (focus exact byOm)))))) : G := t g

/-- What is known of a least value that there is. -/
structure LvOk (L : Runs) (p q N D : Int) : Prop where
  k : Lst L p q N D
  e : L.lval p q = fr N D
  d : 0 < D ∧ D ≤ 800
  n : -160000000 ≤ N ∧ N ≤ 160000000
theorem lv_ok {L : Runs} {p q : Int} (he : L.lerr p q = 0) : ∃ N D, LvOk L p q N D := by
  obtain ⟨e2, cl, bd⟩ := Runs.lerr_0 he
  obtain ⟨e1, fac⟩ := Runs.err2_0 e2
  obtain ⟨ln, lv⟩ := L.err_0 e1
  obtain ⟨N, D, h1, h2, -⟩ := lst_ofR lv cl bd fac
  exact ⟨N, D, h1, h1.val he, ⟨h1.d, h2.1⟩, h2.2⟩
theorem LvOk.rng {L : Runs} {p q N D : Int} (k : LvOk L p q N D) : (0 < (L.lval p q).d ∧ (L.lval p q).d ≤ 800) ∧ -160000000 ≤ (L.lval p q).n ∧ (L.lval p q).n ≤ 160000000 := by
  rw [k.e]
  exact fr_rng k.d k.n
theorem LvOk.LB {L : Runs} {p q N D : Int} (k : LvOk L p q N D) : LB (L.lval p q) := by
  have := k.rng
  exact ⟨by omega, by omega⟩
/-- Which error there is. -/
theorem lerr_is {L : Runs} {p q : Int} (e : L.err2 p q = 0) : (¬ L.Cl ∧ L.lerr p q = 20) ∨ (L.Cl ∧ ¬ L.Bnd p q ∧ L.lerr p q = 5) ∨ (L.Cl ∧ L.Bnd p q ∧ L.lerr p q = 0) := by
  by_cases c : L.Cl
  · by_cases b : L.Bnd p q
    · exact .inr (.inr ⟨c, b, Runs.lerr_ok e c b⟩)
    · exact .inr (.inl ⟨c, b, Runs.lerr_5 e c b⟩)
  · exact .inl ⟨c, Runs.lerr_20 e c⟩
end AE.Try
