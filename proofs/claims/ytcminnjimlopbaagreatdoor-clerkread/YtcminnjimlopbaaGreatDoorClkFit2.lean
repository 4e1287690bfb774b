/- What comes in, for the law On: lines, and how an empty list of lines came in. -/
import Derived.Test.YtcminnjimlopbaaGreatDoorJoin16
import Derived.Test.YtcminnjimlopbaaGreatDoorClkYo
set_option linter.unusedVariables false
set_option linter.unusedSimpArgs false
set_option linter.unusedSectionVars false
namespace AE.ClkIn
open Go Go.Proofs Go.Proofs.YtcminnjimlopbaaGreatDoor AE AE.Tryz AE.Clerk
theorem bk_of' {h : H} {m : Nat} {cs : List Value} (k : Fits h m (.slice lnSh) cs) : ∃ B : Bk, cs = [.slice B.b B.n B.c] ∧ B.Ok m h ∧ (B.n = 0 → EmptyIn B.b B.c) := by
 have k0 := k
 obtain ⟨b, a, n, c, rfl, h1, h2, h3, h4, h5, h6⟩ := k
 obtain ⟨B, e, hB⟩ := bk_of k0
 refine ⟨B, e, hB, fun h0 => ?_⟩
 simp only [List.cons.injEq, Value.slice.injEq, and_true] at e
 obtain ⟨e1, e2, e3⟩ := e
 subst e1 e2 e3
 rcases h5 with h5 | ⟨a', f1, f2⟩ | ⟨a', f1, -, -, f2, f3⟩
 ·exact .inl h5
 ·exact .inr ⟨a', f1, .inl f2⟩
 ·exact .inr ⟨a', f1, .inr ⟨f2, by unfold maxLen at f3; unfold far; omega⟩⟩
end AE.ClkIn
