/- Arguments that are structs of integers. -/
import Derived.Test.YthajcipblfchiaaAELaw
set_option linter.unusedVariables false
set_option linter.unusedSimpArgs false
set_option linter.unusedSectionVars false
namespace AE
open Go

theorem all_ints {p : Value → Prop} (hp : ∀ v, p v → ∃ a : Int, v = .int .i64 a) : ∀ l : List Value, (∀ v ∈ l, p v) → ∃ k : List Int, l = k.map (.int .i64) ∧ k.length = l.length
  | [], _ => ⟨[], rfl, rfl⟩
  | v :: l, h => by
    obtain ⟨a, rfl⟩ := hp v (h v (by simp))
    obtain ⟨k, rfl, e⟩ := all_ints hp l fun v hv => h v (by simp [hv])
    exact ⟨a :: k, rfl, by simp only [List.length_cons, List.length_map]⟩
/-- A struct of `n` integers, as it came in. -/
theorem flat_in {P : Program} {W : World} {base n : Nat} {t u : TypeId} {fs : Array Field} {v : Value} (ht : P.underlying t = some (.struct fs)) (hts : P.cellTypes P.depth t = some (List.replicate n u)) (hc : P.cellsOf t = n) (hu : P.underlying u = some (.int .i64))
    (hok : Value.okWide P W .any base t v) : ∃ k : List Int, v = .agg ⟨k.map (.int .i64)⟩ ∧ k.length = n := by
  have hn : ∀ v, Cell.okWide P W .any base u v → ∃ a : Int, v = .int .i64 a := fun v h => by
    unfold Cell.okWide at h
    rw [hu] at h
    cases v with
    | int k a =>
      simp only [Cell.ok, hu] at h
      exact ⟨a, by rw [h.1]⟩
    | _ => simp [Cell.ok, hu] at h
  unfold Value.okWide at hok
  rw [ht] at hok
  obtain ⟨cs, rfl, hs, ts, hts', -, hall⟩ := hok
  rw [hts] at hts'
  simp only [Option.some.injEq] at hts'
  subst hts'
  obtain ⟨k, e, l⟩ := all_ints (p := fun v => Cell.okWide P W .any base u v) hn cs.toList fun v hv => by
    obtain ⟨i, hi, e⟩ := List.mem_iff_getElem.1 hv
    obtain ⟨w, e1, e2⟩ := hall i v (by rw [← e]; simp [hi])
    rw [List.getElem?_replicate] at e1
    split at e1
    · simp only [Option.some.injEq] at e1
      exact e1 ▸ e2
    · cases e1
  refine ⟨k, ?_, by rw [l]; rw [← hc]; exact hs⟩
  rw [← e]
end AE
