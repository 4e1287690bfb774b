/- What comes in, for the statements about charts: pairs of numbers for draws. -/
import Derived.Test.YtbfhhncmmllblaaChartFit2
import Derived.Test.YtbfhhncmmllblaaChartZh
set_option linter.unusedVariables false
set_option linter.unusedSimpArgs false
set_option linter.unusedSectionVars false
namespace AE.ChartIn
open Go Go.Proofs Go.Proofs.Ytbfhhncmmllblaa AE AE.Try
set_option maxRecDepth 100000

instance : Inhabited Tw := ⟨⟨0, 0⟩⟩
theorem tws_of {h : H} {m : Nat} {cs : List Value} (k : Fits h m (.slice (Sh.rep (.int .u16) 2)) cs) : ∃ S : Tws, cs = [.slice S.b S.n S.c] ∧ S.Ok m h := by
  obtain ⟨b, a, n, c, rfl, h1, h2, h3, h4, h5, h6⟩ := k
  have hz : ∀ i, i < n → ∃ x : Tw, h.loadN (aadd a (i * 2)) 2 = some x.cells ∧ (0 ≤ x.x ∧ x.x < 65536) ∧ (0 ≤ x.y ∧ x.y < 65536) := fun i hi => by
    obtain ⟨l, e1, k1⟩ := h6 i hi
    obtain ⟨x, rfl, k2⟩ := tw_of k1
    exact ⟨x, e1, k2⟩
  obtain ⟨f, hf⟩ := pick_all (⟨0, 0⟩ : Tw) hz
  exact ⟨⟨n, fun i => (f i).x, fun i => (f i).y, b, a, c⟩, rfl, h3, fun i hi => (hf i hi).1, fun h => (h4 h).1, len_of h1 h2, fun i hi => (hf i hi).2⟩
end AE.ChartIn
