/- What comes in, for the statements about charts: the shapes of the arguments' types, and the values that they hold. -/
import Derived.Test.YtbfhhncmmllblaaRows
import Derived.Test.YtbfhhncmmllblaaAEArg2
import Derived.Test.YtbfhhncmmllblaaChartV
import Derived.KernelRfl
set_option linter.unusedVariables false
set_option linter.unusedSimpArgs false
set_option linter.unusedSectionVars false
namespace AE.ChartIn
open Go Go.Proofs Go.Proofs.Ytbfhhncmmllblaa AE AE.Try
set_option maxRecDepth 100000

def twoSh : Sh := .cons (.int .i64) (.cons (.int .i64) .nil)
def chartSh : Sh := .cons (.slice (.int .i64)) (.cons (.slice (.int .i64)) (.cons (.slice (.slice twoSh)) .nil))
theorem is64 : IsSh Try.prog (.int .i64) 2 := .int Try.underlying2
theorem isSl : IsSh Try.prog (.slice (.int .i64)) 22 := .slice Try.underlying22 (by kernel_rfl) (by decide) is64
theorem isRangeT : IsSh Try.prog twoSh 65 := .struct Try.underlying65 (by kernel_rfl) (.cons (by kernel_rfl) (by kernel_rfl) is64 (.cons (by kernel_rfl) (by kernel_rfl) is64 .nil))
theorem isRanges : IsSh Try.prog (.slice twoSh) 66 := .slice Try.underlying66 (by kernel_rfl) (by decide) isRangeT
theorem isTab : IsSh Try.prog (.slice (.slice twoSh)) 23 := .slice Try.underlying23 (by kernel_rfl) (by decide) isRanges
theorem isChart : IsSh Try.prog chartSh 25 := .struct Try.underlying25 (by kernel_rfl) (.cons (by kernel_rfl) (by kernel_rfl) isSl (.cons (by kernel_rfl) (by kernel_rfl) isSl (.cons (by kernel_rfl) (by kernel_rfl) isTab .nil)))
theorem len_of {n c : Nat} (h1 : n ≤ c) (h2 : c ≤ maxLen ∨ (far ≤ c ∧ n = 0)) : n ≤ 9223372036854775807 := by
  rcases h2 with h2 | ⟨-, h2⟩
  · unfold maxLen at h2; omega
  · omega
theorem cap_of {n c : Nat} (h2 : c ≤ maxLen ∨ (far ≤ c ∧ n = 0)) (h : 0 < n) : c < far := by
  rcases h2 with h2 | ⟨-, h2⟩
  · unfold maxLen at h2; unfold far; omega
  · omega
theorem nums_of {h : H} {m : Nat} {cs : List Value} (k : Fits h m (.slice (.int .i64)) cs) : ∃ A : Arr, cs = [.slice A.b A.n A.c] ∧ A.Ok m h ∧ (0 < A.n → A.c < far) := by
  obtain ⟨b, a, n, c, rfl, h1, h2, h3, h4, h5, h6⟩ := k
  have hz : ∀ i, i < n → ∃ z : Int, h.loadN (aadd a i) 1 = some [.int .i64 z] := fun i hi => by
    obtain ⟨l, e1, z, rfl, -⟩ := h6 i hi
    exact ⟨z, by simpa [Sh.size] using e1⟩
  obtain ⟨f, hf⟩ := pick_all (0 : Int) hz
  exact ⟨⟨n, f, b, a, c⟩, rfl, ⟨h3, hf, fun h => (h4 h).1, len_of h1 h2⟩, cap_of h2⟩
def Two.cells (x : Int × Int) : List Value := [.int .i64 x.1, .int .i64 x.2]
def in64 (z : Int) : Prop := -9223372036854775808 ≤ z ∧ z < 9223372036854775808
theorem two_of {h : H} {m : Nat} {cs : List Value} (k : Fits h m twoSh cs) : ∃ x : Int × Int, cs = Two.cells x ∧ in64 x.1 ∧ in64 x.2 := by
  obtain ⟨zs, rfl, l, hz⟩ := fits_ints (k := .i64) (by decide) k
  have hb : ∀ x ∈ zs, in64 x := fun x hx => by
    have h1 := hz x hx
    simp only [IntKind.min, IntKind.max, IntKind.signed, IntKind.bits] at h1
    simp at h1
    unfold in64
    omega
  match zs, l with
  | [a, b], _ => exact ⟨(a, b), rfl, hb a (by simp), hb b (by simp)⟩
/-- A row of a matrix, as it lies. -/
structure RowV where
  b : Option Addr
  a : Addr
  w : Nat
  c : Nat
instance : Inhabited RowV := ⟨⟨none, ⟨0, 0, none⟩, 0, 0⟩⟩
/-- A row of ranges. -/
structure Rng where
  n : Nat
  lo : Nat → Int
  hi : Nat → Int
  b : Option Addr
  a : Addr
  c : Nat
structure Rng.Ok (T : Rng) (m : Nat) (h : H) : Prop where
  e : 0 < T.n → T.b = some T.a
  i : Els h T.a T.n 2 (fun i => [.int .i64 (T.lo i), .int .i64 (T.hi i)])
  r : 0 < T.n → T.a.block < m
  l : T.n ≤ 9223372036854775807
theorem rng_of {h : H} {m : Nat} {cs : List Value} (k : Fits h m (.slice twoSh) cs) : ∃ S : Rng, cs = [.slice S.b S.n S.c] ∧ S.Ok m h := by
  obtain ⟨b, a, n, c, rfl, h1, h2, h3, h4, h5, h6⟩ := k
  have hz : ∀ i, i < n → ∃ x : Int × Int, h.loadN (aadd a (i * 2)) 2 = some (Two.cells x) := fun i hi => by
    obtain ⟨l, e1, k1⟩ := h6 i hi
    obtain ⟨x, rfl, -⟩ := two_of k1
    exact ⟨x, e1⟩
  obtain ⟨f, hf⟩ := pick_all ((0, 0) : Int × Int) hz
  exact ⟨⟨n, fun i => (f i).1, fun i => (f i).2, b, a, c⟩, rfl, h3, hf, fun h => (h4 h).1, len_of h1 h2⟩
end AE.ChartIn
