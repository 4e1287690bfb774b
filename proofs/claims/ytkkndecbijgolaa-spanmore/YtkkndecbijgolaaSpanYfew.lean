/- Walks of the laws of spans: SpanFew. -/
import Derived.Test.YtkkndecbijgolaaJoin1
set_option linter.unusedVariables false
set_option linter.unusedSimpArgs false
set_option linter.unusedSectionVars false
namespace AE.Try
open Go AE Go.Proofs AE.Sp
set_option maxRecDepth 100000
set_option linter.unusedVariables false

/-! ### three of them, plainly -/
def triF (f : Nat → Run) (i k m : Nat) : Nat → Run
  | 0 => f i
  | 1 => f k
  | _ => f m
def tri (L : Runs) (r i k m : Nat) : Runs := ⟨3, triF L.f i k m, some ⟨r, 0, none⟩, ⟨r, 0, none⟩, 3⟩
def TriCl (L : Runs) (i k m : Nat) : Prop := Clean (sides (triF L.f i k m)) (2 * 3)
/-- What holds while three are looked for. -/
def Tri3 (L : Runs) (i k m : Nat) (b : Bool) : Prop := (b = true → ∃ i k m, i < L.n ∧ k < i ∧ m < k ∧ ¬ TriCl L i k m) ∧ (b = false → ∀ i' k' m', i' < L.n → k' < i' → m' < k' → (i' < i ∨ (i' = i ∧ (k' < k ∨ (k' = k ∧ m' < m)))) → TriCl L i' k' m')
theorem Tri3.step {L : Runs} {i k m : Nat} {b : Bool} (t : Tri3 L i k m b) (c : TriCl L i k m) : Tri3 L i k (m + 1) b := by
  refine ⟨t.1, fun hb i' k' m' hi hk hm h => ?_⟩
  by_cases e : i' = i ∧ k' = k ∧ m' = m
  · obtain ⟨rfl, rfl, rfl⟩ := e; exact c
  · exact t.2 hb i' k' m' hi hk hm (by omega)
theorem Tri3.bad {L : Runs} {i k m : Nat} (hi : i < L.n) (hk : k < i) (hm : m < k) (c : ¬ TriCl L i k m) : Tri3 L i k (m + 1) Bool.true := ⟨fun _ => ⟨i, k, m, hi, hk, hm, c⟩, fun h => nomatch h⟩
theorem Tri3.to {L : Runs} {i k m i' k' m' : Nat} {b : Bool} (t : Tri3 L i k m b) (h : ∀ a b c, b < a → c < b → (a < i' ∨ (a = i' ∧ (b < k' ∨ (b = k' ∧ c < m')))) → (a < i ∨ (a = i ∧ (b < k ∨ (b = k ∧ c < m))))) : Tri3 L i' k' m' b :=
  ⟨t.1, fun hb a b' c ha hb' hc hh => t.2 hb a b' c ha hb' hc (h a b' c hb' hc hh)⟩

end AE.Try
