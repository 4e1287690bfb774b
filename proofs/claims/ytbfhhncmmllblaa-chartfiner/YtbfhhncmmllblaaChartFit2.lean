/- What comes in, for the statements about charts: numbers for draws. -/
import Derived.Test.YtbfhhncmmllblaaChartFit
import Derived.Test.YtbfhhncmmllblaaChartZa
set_option linter.unusedVariables false
set_option linter.unusedSimpArgs false
set_option linter.unusedSectionVars false
namespace AE.ChartIn
open Go Go.Proofs Go.Proofs.Ytbfhhncmmllblaa AE AE.Try
set_option maxRecDepth 100000

theorem isU32s : IsSh Try.prog (.slice (.int .u32)) 54 := .slice Try.underlying54 (by kernel_rfl) (by decide) (.int (by kernel_rfl))
theorem isU16a : IsSh Try.prog (Sh.rep (.int .u16) 2) 56 := .arr Try.underlying56 (by kernel_rfl) (by kernel_rfl) (.int (by kernel_rfl))
theorem by_of {h : H} {m : Nat} {cs : List Value} (k : Fits h m (.slice (.int .u32)) cs) : ∃ B : Arr, cs = [.slice B.b B.n B.c] ∧ By .u32 B m h := by
  obtain ⟨b, a, n, c, rfl, h1, h2, h3, h4, h5, h6⟩ := k
  have hz : ∀ i, i < n → ∃ z : Int, h.loadN (aadd a i) 1 = some [.int .u32 z] ∧ 0 ≤ z ∧ z < 4294967296 := fun i hi => by
    obtain ⟨l, e1, z, rfl, z1, z2⟩ := h6 i hi
    simp only [IntKind.min, IntKind.max, IntKind.signed, IntKind.bits] at z1 z2
    simp at z1 z2
    exact ⟨z, by simpa [Sh.size] using e1, z1, by omega⟩
  obtain ⟨f, hf⟩ := pick_all (0 : Int) hz
  exact ⟨⟨n, f, b, a, c⟩, rfl, ⟨h3, fun i hi => (hf i hi).1, fun h => (h4 h).1, len_of h1 h2, fun i hi => (hf i hi).2⟩⟩
/-- Two numbers, below 2^16. -/
structure Tw where
  x : Int
  y : Int
def Tw.cells (p : Tw) : List Value := [.int .u16 p.x, .int .u16 p.y]
def Tw.Ok (p : Tw) : Prop := (0 ≤ p.x ∧ p.x < 65536) ∧ 0 ≤ p.y ∧ p.y < 65536
theorem tw_of {h : H} {m : Nat} {cs : List Value} (k : Fits h m (Sh.rep (.int .u16) 2) cs) : ∃ p : Tw, cs = p.cells ∧ (0 ≤ p.x ∧ p.x < 65536) ∧ (0 ≤ p.y ∧ p.y < 65536) := by
  obtain ⟨zs, rfl, l, hz⟩ := fits_ints (k := .u16) (by decide) k
  have hb : ∀ x ∈ zs, 0 ≤ x ∧ x < 65536 := fun x hx => by
    have h1 := hz x hx
    simp only [IntKind.min, IntKind.max, IntKind.signed, IntKind.bits] at h1
    simp at h1
    omega
  match zs, l with
  | [a, b], _ => exact ⟨⟨a, b⟩, rfl, hb a (by simp), hb b (by simp)⟩
end AE.ChartIn
