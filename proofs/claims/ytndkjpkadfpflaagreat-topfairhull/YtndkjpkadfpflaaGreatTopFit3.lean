/- What comes in, for the statements about hulls: the shapes of the arguments' types, and the values that they hold. -/
import Derived.Test.YtndkjpkadfpflaaGreatRows
import Derived.Test.YtndkjpkadfpflaaGreatAEArg2
import Derived.Test.YtndkjpkadfpflaaGreatTopH3
import Derived.KernelRfl
set_option linter.unusedVariables false
set_option linter.unusedSimpArgs false
set_option linter.unusedSectionVars false
namespace AE.TopIn3
open Go Go.Proofs Go.Proofs.YtndkjpkadfpflaaGreat AE AE.Tryz
set_option maxRecDepth 100000

def rangeSh : Sh := .cons (.int .i64) (.cons (.int .i64) .nil)
def hullSh : Sh := .cons (.int .i64) (.cons (.int .i64) (.cons (.slice (.slice rangeSh)) .nil))
theorem isInt : IsSh Tryz.prog (.int .i64) 2 := .int Tryz.underlying2
theorem isU32 : IsSh Tryz.prog (.int .u32) 25 := .int Tryz.underlying25
theorem isU8 : IsSh Tryz.prog (.int .u8) 5 := .int Tryz.underlying5
theorem isBool : IsSh Tryz.prog .bool 4 := .bool Tryz.underlying4
theorem isRange : IsSh Tryz.prog rangeSh 36 := .struct Tryz.underlying36 (by kernel_rfl) (.cons (by kernel_rfl) (by kernel_rfl) isInt (.cons (by kernel_rfl) (by kernel_rfl) isInt .nil))
theorem isRatio : IsSh Tryz.prog rangeSh 27 := .struct Tryz.underlying27 (by kernel_rfl) (.cons (by kernel_rfl) (by kernel_rfl) isInt (.cons (by kernel_rfl) (by kernel_rfl) isInt .nil))
theorem isRow : IsSh Tryz.prog (.slice rangeSh) 31 := .slice Tryz.underlying31 (by kernel_rfl) (by decide) isRange
theorem isRows : IsSh Tryz.prog (.slice (.slice rangeSh)) 22 := .slice Tryz.underlying22 (by kernel_rfl) (by decide) isRow
theorem isHull : IsSh Tryz.prog hullSh 24 := .struct Tryz.underlying24 (by kernel_rfl) (.cons (by kernel_rfl) (by kernel_rfl) isInt (.cons (by kernel_rfl) (by kernel_rfl) isInt (.cons (by kernel_rfl) (by kernel_rfl) isRows .nil)))
theorem rg_of {h : H} {m : Nat} {cs : List Value} (k : Fits h m rangeSh cs) : ∃ t : Rg, cs = t.cells := by
  obtain ⟨zs, rfl, l, -⟩ := fits_ints (k := .i64) (by decide) k
  match zs, l with
  | [a, b], _ => exact ⟨⟨a, b⟩, rfl⟩
theorem ratio_of {h : H} {m : Nat} {cs : List Value} (k : Fits h m rangeSh cs) : ∃ t : Int × Int, cs = [.int .i64 t.1, .int .i64 t.2] := by
  obtain ⟨zs, rfl, l, -⟩ := fits_ints (k := .i64) (by decide) k
  match zs, l with
  | [a, b], _ => exact ⟨⟨a, b⟩, rfl⟩
theorem rgs_of {h : H} {m : Nat} {cs : List Value} (k : Fits h m (.slice rangeSh) cs) : ∃ M : Rgs, cs = [.slice M.b M.n M.c] ∧ M.Ok m h := by
  obtain ⟨b, a, n, c, rfl, h1, h2, h3, h4, h5, h6⟩ := k
  have hz : ∀ i, i < n → ∃ z : Rg, h.loadN (aadd a (i * 2)) 2 = some z.cells := fun i hi => by
    obtain ⟨l, e1, k1⟩ := h6 i hi
    obtain ⟨z, rfl⟩ := rg_of k1
    exact ⟨z, e1⟩
  obtain ⟨f, hf⟩ := pick_all (⟨0, 0⟩ : Rg) hz
  exact ⟨⟨n, f, b, a, c⟩, rfl, h3, hf, fun h => (h4 h).1, by
    show n ≤ _
    rcases h2 with h2 | ⟨-, h2⟩
    · unfold maxLen at h2; omega
    · omega⟩
theorem hull_of {h : H} {m : Nat} {cs : List Value} (k : Fits h m hullSh cs) : ∃ T : Hull, cs = T.cells ∧ T.Ok m h := by
  obtain ⟨c1, c2, rfl, ⟨sp, rfl, -⟩, c3, c4, rfl, ⟨st, rfl, -⟩, c5, c6, rfl, k1, k2⟩ := k
  have k2 : c6 = [] := k2
  subst k2
  obtain ⟨b, a, n, c, rfl, h1, h2, h3, h4, h5, h6⟩ := k1
  have hz : ∀ i, i < n → ∃ R : Rgs, h.loadN (aadd a (i * 1)) 1 = some [.slice R.b R.n R.c] ∧ R.Ok m h := fun i hi => by
    obtain ⟨l, e1, kk⟩ := h6 i hi
    obtain ⟨R, rfl, hR⟩ := rgs_of kk
    exact ⟨R, e1, hR⟩
  obtain ⟨f, hf⟩ := pick_all (⟨0, fun _ => ⟨0, 0⟩, none, a, 0⟩ : Rgs) hz
  refine ⟨⟨sp, st, n, b, a, c, fun i => (f i).n, fun i => (f i).b, fun i => (f i).a, fun i => (f i).c, fun i k => (f i).f k⟩, rfl, h3, fun i hi => ?_, fun h => (h4 h).1, ?_, fun i hi => (hf i hi).2.e, fun i hi => (hf i hi).2.i, fun i hi => (hf i hi).2.r, fun i hi => (hf i hi).2.l⟩
  · have := (hf i hi).1
    rw [Nat.mul_one] at this
    exact this
  · show n ≤ _
    rcases h2 with h2 | ⟨-, h2⟩
    · unfold maxLen at h2; omega
    · omega
theorem u32_of {h : H} {m : Nat} {v : Value} (k : Fits h m (.int .u32) [v]) : ∃ n : Int, v = .int .u32 n ∧ 0 ≤ n ∧ n < 4294967296 := by
  obtain ⟨n, e, h1, h2⟩ := k
  simp only [IntKind.min, IntKind.max, IntKind.signed, IntKind.bits] at h1 h2
  simp at h1 h2 e
  exact ⟨n, e, h1, by omega⟩
theorem u8_of {h : H} {m : Nat} {v : Value} (k : Fits h m (.int .u8) [v]) : ∃ n : Int, v = .int .u8 n ∧ 0 ≤ n ∧ n < 256 := by
  obtain ⟨n, e, h1, h2⟩ := k
  simp only [IntKind.min, IntKind.max, IntKind.signed, IntKind.bits] at h1 h2
  simp at h1 h2 e
  exact ⟨n, e, h1, by omega⟩
theorem bool_of {h : H} {m : Nat} {v : Value} (k : Fits h m .bool [v]) : ∃ b : Bool, v = .bool b := by
  obtain ⟨b, e⟩ := k
  simp at e
  exact ⟨b, e⟩
end AE.TopIn3
