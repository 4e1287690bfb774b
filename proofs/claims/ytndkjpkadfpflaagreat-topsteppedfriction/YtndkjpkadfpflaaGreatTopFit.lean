/- What comes in, for the statements about fair lines and friction: the shapes of the arguments' types, and the values that they hold. -/
import Derived.Test.YtndkjpkadfpflaaGreatRows
import Derived.Test.YtndkjpkadfpflaaGreatAEArg2
import Derived.Test.YtndkjpkadfpflaaGreatTopSe
import Derived.KernelRfl
set_option linter.unusedVariables false
set_option linter.unusedSimpArgs false
set_option linter.unusedSectionVars false
namespace AE.TopIn
open Go Go.Proofs Go.Proofs.YtndkjpkadfpflaaGreat AE AE.Tryz
set_option maxRecDepth 100000

theorem isU8 : IsSh Tryz.prog (.int .u8) 5 := .int Tryz.underlying5
theorem isU16 : IsSh Tryz.prog (.int .u16) 56 := .int Tryz.underlying56
theorem isU8s : IsSh Tryz.prog (.slice (.int .u8)) 57 := .slice Tryz.underlying57 (by kernel_rfl) (by decide) isU8
theorem u8_of {h : H} {m : Nat} {v : Value} (k : Fits h m (.int .u8) [v]) : ∃ n : Int, v = .int .u8 n ∧ 0 ≤ n ∧ n < 256 := by
  obtain ⟨n, e, h1, h2⟩ := k
  simp only [IntKind.min, IntKind.max, IntKind.signed, IntKind.bits] at h1 h2
  simp at h1 h2 e
  exact ⟨n, e, h1, by omega⟩
theorem u16_of {h : H} {m : Nat} {v : Value} (k : Fits h m (.int .u16) [v]) : ∃ n : Int, v = .int .u16 n ∧ 0 ≤ n ∧ n < 65536 := by
  obtain ⟨n, e, h1, h2⟩ := k
  simp only [IntKind.min, IntKind.max, IntKind.signed, IntKind.bits] at h1 h2
  simp at h1 h2 e
  exact ⟨n, e, h1, by omega⟩
theorem u8s_of {h : H} {m : Nat} {cs : List Value} (k : Fits h m (.slice (.int .u8)) cs) : ∃ T : U8s, cs = [.slice T.b T.n T.c] ∧ T.Ok m h := by
  obtain ⟨b, a, n, c, rfl, h1, h2, h3, h4, h5, h6⟩ := k
  have hz : ∀ i, i < n → ∃ z : Int, h.loadN (aadd a i) 1 = some [.int .u8 z] ∧ 0 ≤ z ∧ z ≤ 255 := fun i hi => by
    obtain ⟨l, e1, kk⟩ := h6 i hi
    have kk' := kk
    obtain ⟨z, rfl, -⟩ := kk'
    obtain ⟨y, ey, b1, b2⟩ := u8_of kk
    cases ey
    exact ⟨z, by simpa [Sh.size] using e1, b1, by omega⟩
  obtain ⟨f, hf⟩ := pick_all (0 : Int) hz
  exact ⟨⟨n, f, b, a, c⟩, rfl, h3, fun i hi => (hf i hi).1, fun h => (h4 h).1, by
    show n ≤ _
    rcases h2 with h2 | ⟨-, h2⟩
    · unfold maxLen at h2; omega
    · omega, fun i hi => (hf i hi).2⟩
theorem steppedFriction_w {h : H} {first far : Int} {T : U8s} (h1 : 0 ≤ first ∧ first < 65536) (h2 : 0 ≤ far ∧ far < 256) (hT : T.Ok h.next h) : AW Tryz.prog 4 h.next h [.int .u16 first, .int .u8 far, .slice T.b T.n T.c] (fun v _ => v = .bool true) :=
  stepped_w (Nat.le_refl _) hT ⟨h1.1, by omega⟩ ⟨h2.1, by omega⟩
end AE.TopIn
