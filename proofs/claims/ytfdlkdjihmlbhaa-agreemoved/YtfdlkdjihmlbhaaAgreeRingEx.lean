/- The second example of the chapter: what is found of it. -/
import Derived.Test.YtfdlkdjihmlbhaaAgreeSpec3
import Derived.KernelRfl
set_option linter.unusedVariables false
set_option linter.unusedSimpArgs false
set_option linter.unusedSectionVars false
set_option maxRecDepth 100000
namespace AgreeS
def tab0 : Table := ⟨2, 2, -3, 3, [⟨0, 0, 100, 102⟩, ⟨0, 1, 50, 51⟩, ⟨1, 0, 105, 106⟩]⟩
def worse : Table := ⟨2, 2, -3, 3, [⟨0, 0, 100, 102⟩, ⟨0, 1, 50, 51⟩, ⟨1, 0, 105, 106⟩, ⟨1, 1, 60, 61⟩]⟩
theorem steps_worse : steps (netOf worse) = [⟨0, 1, 3⟩, ⟨0, 2, 3⟩, ⟨1, 0, 3⟩, ⟨1, 3, -100⟩, ⟨1, 4, -50⟩, ⟨2, 0, 3⟩, ⟨2, 3, -105⟩, ⟨2, 4, -60⟩, ⟨3, 1, 102⟩, ⟨3, 2, 106⟩, ⟨4, 1, 51⟩, ⟨4, 2, 61⟩] := by kernel_rfl
theorem ring_worse : (found (netOf worse) 5 0).before = [(1, 4), (2, 3), (3, 1), (4, 2), (0, 1)] ∧ (found (netOf worse) 5 0).last = 1 := by
  constructor <;> kernel_rfl
end AgreeS
