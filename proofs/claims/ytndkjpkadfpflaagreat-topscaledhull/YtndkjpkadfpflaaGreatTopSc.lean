/- Walks of fair: what it measures. -/
import Derived.Test.YtndkjpkadfpflaaGreatTopCode
import Derived.Test.YtndkjpkadfpflaaGreatAEthree
import Derived.Test.YtndkjpkadfpflaaGreatJoin14
set_option linter.unusedVariables false
set_option linter.unusedSimpArgs false
set_option linter.unusedSectionVars false
namespace AE.Tryz
open Go AE Go.Proofs AE.Fair
set_option maxRecDepth 100000
set_option linter.unusedVariables false

theorem acall_of {g : FuncId} {first capt args xs : List Value} {lo : Nat} {h : H} {R : Value → H → Prop} (hc : AW Tryz.prog g lo h xs R) (e : first ++ args ++ capt = xs) : ∃ v h', R v h' ∧ ACall Tryz.prog (.func (.func g) ⟨first⟩ ⟨capt⟩) lo h args v h' := by
  obtain ⟨v, h', r, a⟩ := hc
  subst e
  exact ⟨v, h', r, a.acall⟩
theorem acall_mono {fv : Value} {args : List Value} {lo lo' : Nat} {h : H} {R : Value → H → Prop} (hc : ∃ v h', R v h' ∧ ACall Tryz.prog fv lo h args v h') (hl : lo' ≤ lo) : ∃ v h', R v h' ∧ ACall Tryz.prog fv lo' h args v h' :=
  let ⟨v, h', r, a⟩ := hc; ⟨v, h', r, a.mono hl⟩

/-- Numbers, as they come. -/
structure Arr where
  n : Nat
  f : Nat → Int
  b : Option Addr
  a : Addr
  c : Nat
structure Arr.Ok (T : Arr) (m : Nat) (h : H) : Prop where
  e : 0 < T.n → T.b = some T.a
  i : Ints h T.a T.n T.f
  r : 0 < T.n → T.a.block < m
  l : T.n ≤ 9223372036854775807
theorem Arr.Ok.same {T : Arr} {m m' : Nat} {h h' : H} (k : T.Ok m h) (s : Same m h h') (hm : m ≤ m') : T.Ok m' h' :=
  ⟨k.e, k.i.same s k.r, fun h => by have := k.r h; omega, k.l⟩

def chg (s d : Int) : Int := if s ≠ 0 ∧ sgn s d ≠ s then 1 else 0
theorem next_w {h : H} {s d : Int} : AW Tryz.prog 124 h.next h [.agg ⟨[.int .i64 s]⟩, .int .i64 d] (fun v _ => v = .tuple #[.agg ⟨[.int .i64 (sgn s d)]⟩, .int .i64 (chg s d)]) := by
  refine fun124.call rfl (Nat.le_refl _) ?_
  unfold a124 sgn chg
  by_cases h1 : 0 < d
  · (focus ((try with_reducible apply wpC.to); (repeat' ((conv => whnf); first | refine byEv ?_ | (apply Fork.mk <;> (intro _; try (exfalso; omega))) | fail)); all_goals ((conv => whnf); try with_reducible apply At.mk)))
    all_goals (refine byFin ?_)
    all_goals (simp only [sgn, h1, if_true]; first | rw [if_pos (by omega)] | rw [if_neg (by omega)])
  · by_cases h2 : d < 0
    · (focus ((try with_reducible apply wpC.to); (repeat' ((conv => whnf); first | refine byEv ?_ | (apply Fork.mk <;> (intro _; try (exfalso; omega))) | fail)); all_goals ((conv => whnf); try with_reducible apply At.mk)))
      all_goals (refine byFin ?_)
      all_goals (simp only [sgn, h1, h2, if_true, if_false]; first | rw [if_pos (by omega)] | rw [if_neg (by omega)])
    · (focus ((try with_reducible apply wpC.to); (repeat' ((conv => whnf); first | refine byEv ?_ | (apply Fork.mk <;> (intro _; try (exfalso; omega))) | fail)); all_goals ((conv => whnf); try with_reducible apply At.mk)))
      all_goals (refine byFin ?_)
      all_goals (simp only [sgn, h1, h2, if_false]; first | rw [if_pos (by omega)] | rw [if_neg (by omega)])
theorem kTopSc1c {G G' : Prop} (g : G') (t : G' → G := by ((apply q_call); (focus exact byNext); (focus exact byLo); (focus ((apply next_w))))) : G := t g

end AE.Tryz
