/- Walks and plain laws: ChartFit, ChartFit2, ChartFit3. -/
import Derived.Test.YtbfhhncmmllblaaRows
import Derived.Test.YtbfhhncmmllblaaAEArg2
import Derived.Test.YtbfhhncmmllblaaChartV
import Derived.KernelRfl
import Derived.Test.YtbfhhncmmllblaaJoin9
import Derived.Test.YtbfhhncmmllblaaChartZh
set_option linter.unusedVariables false
set_option linter.unusedSimpArgs false
set_option linter.unusedSectionVars false

/- What comes in, for the statements about charts: the shapes of the arguments' types, and the values that they hold. -/
namespace AE.ChartIn
open Go Go.Proofs Go.Proofs.Ytbfhhncmmllblaa AE AE.Try
set_option maxRecDepth 100000

def twoSh : Sh := .cons (.int .i64) (.cons (.int .i64) .nil)
def chartSh : Sh := .cons (.slice (.int .i64)) (.cons (.slice (.int .i64)) (.cons (.slice (.slice twoSh)) .nil))
theorem is64 : IsSh Try.prog (.int .i64) 2 := .int Try.underlying2
theorem isU8 : IsSh Try.prog (.int .u8) 5 := .int Try.underlying5
theorem isSl : IsSh Try.prog (.slice (.int .i64)) 22 := .slice Try.underlying22 (by kernel_rfl) (by decide) is64
theorem isRangeT : IsSh Try.prog twoSh 65 := .struct Try.underlying65 (by kernel_rfl) (.cons (by kernel_rfl) (by kernel_rfl) is64 (.cons (by kernel_rfl) (by kernel_rfl) is64 .nil))
theorem isRanges : IsSh Try.prog (.slice twoSh) 66 := .slice Try.underlying66 (by kernel_rfl) (by decide) isRangeT
theorem isTab : IsSh Try.prog (.slice (.slice twoSh)) 23 := .slice Try.underlying23 (by kernel_rfl) (by decide) isRanges
theorem isChart : IsSh Try.prog chartSh 25 := .struct Try.underlying25 (by kernel_rfl) (.cons (by kernel_rfl) (by kernel_rfl) isSl (.cons (by kernel_rfl) (by kernel_rfl) isSl (.cons (by kernel_rfl) (by kernel_rfl) isTab .nil)))
theorem len_of {n c : Nat} (h1 : n ≤ c) (h2 : c ≤ maxLen ∨ (far ≤ c ∧ n = 0)) : n ≤ 9223372036854775807 := by
  rcases h2 with h2 | ⟨-, h2⟩
  · unfold maxLen at h2; omega
  · omega
theorem cap_of {n c : Nat} (h2 : c ≤ maxLen ∨ (far ≤ c ∧ n = 0)) (h : 0 < n) : c < far := by
  rcases h2 with h2 | ⟨-, h2⟩
  · unfold maxLen at h2; unfold far; omega
  · omega
theorem nums_of {h : H} {m : Nat} {cs : List Value} (k : Fits h m (.slice (.int .i64)) cs) : ∃ A : Arr, cs = [.slice A.b A.n A.c] ∧ A.Ok m h ∧ (0 < A.n → A.c < far) := by
  obtain ⟨b, a, n, c, rfl, h1, h2, h3, h4, h5, h6⟩ := k
  have hz : ∀ i, i < n → ∃ z : Int, h.loadN (aadd a i) 1 = some [.int .i64 z] := fun i hi => by
    obtain ⟨l, e1, z, rfl, -⟩ := h6 i hi
    exact ⟨z, by simpa [Sh.size] using e1⟩
  obtain ⟨f, hf⟩ := pick_all (0 : Int) hz
  exact ⟨⟨n, f, b, a, c⟩, rfl, ⟨h3, hf, fun h => (h4 h).1, len_of h1 h2⟩, cap_of h2⟩
def Two.cells (x : Int × Int) : List Value := [.int .i64 x.1, .int .i64 x.2]
def in64 (z : Int) : Prop := -9223372036854775808 ≤ z ∧ z < 9223372036854775808
theorem two_of {h : H} {m : Nat} {cs : List Value} (k : Fits h m twoSh cs) : ∃ x : Int × Int, cs = Two.cells x ∧ in64 x.1 ∧ in64 x.2 := by
  obtain ⟨zs, rfl, l, hz⟩ := fits_ints (k := .i64) (by decide) k
  have hb : ∀ x ∈ zs, in64 x := fun x hx => by
    have h1 := hz x hx
    simp only [IntKind.min, IntKind.max, IntKind.signed, IntKind.bits] at h1
    simp at h1
    unfold in64
    omega
  match zs, l with
  | [a, b], _ => exact ⟨(a, b), rfl, hb a (by simp), hb b (by simp)⟩
/-- A row of a matrix, as it lies. -/
structure RowV where
  b : Option Addr
  a : Addr
  w : Nat
  c : Nat
instance : Inhabited RowV := ⟨⟨none, ⟨0, 0, none⟩, 0, 0⟩⟩
/-- A row of ranges. -/
structure Rng where
  n : Nat
  lo : Nat → Int
  hi : Nat → Int
  b : Option Addr
  a : Addr
  c : Nat
structure Rng.Ok (T : Rng) (m : Nat) (h : H) : Prop where
  e : 0 < T.n → T.b = some T.a
  i : Els h T.a T.n 2 (fun i => [.int .i64 (T.lo i), .int .i64 (T.hi i)])
  r : 0 < T.n → T.a.block < m
  l : T.n ≤ 9223372036854775807
theorem rng_of {h : H} {m : Nat} {cs : List Value} (k : Fits h m (.slice twoSh) cs) : ∃ S : Rng, cs = [.slice S.b S.n S.c] ∧ S.Ok m h := by
  obtain ⟨b, a, n, c, rfl, h1, h2, h3, h4, h5, h6⟩ := k
  have hz : ∀ i, i < n → ∃ x : Int × Int, h.loadN (aadd a (i * 2)) 2 = some (Two.cells x) := fun i hi => by
    obtain ⟨l, e1, k1⟩ := h6 i hi
    obtain ⟨x, rfl, -⟩ := two_of k1
    exact ⟨x, e1⟩
  obtain ⟨f, hf⟩ := pick_all ((0, 0) : Int × Int) hz
  exact ⟨⟨n, fun i => (f i).1, fun i => (f i).2, b, a, c⟩, rfl, h3, hf, fun h => (h4 h).1, len_of h1 h2⟩
theorem chart_of {h : H} {m : Nat} {cs : List Value} (k : Fits h m chartSh cs) : ∃ T : Tbl, cs = T.cells ∧ T.Ok m h := by
  obtain ⟨c1, c2, rfl, k1, c3, c4, rfl, k2, c5, c6, rfl, k3, k4⟩ := k
  have k4 : c6 = [] := k4
  subst k4
  obtain ⟨A, rfl, oA, -⟩ := nums_of k1
  obtain ⟨B, rfl, oB, -⟩ := nums_of k2
  obtain ⟨b, a, n, c, rfl, h1, h2, h3, h4, h5, h6⟩ := k3
  have hz : ∀ i, i < n → ∃ R : Rng, h.loadN (aadd a i) 1 = some [.slice R.b R.n R.c] ∧ R.Ok m h := fun i hi => by
    obtain ⟨l, e1, k1⟩ := h6 i hi
    obtain ⟨R, rfl, ok⟩ := rng_of k1
    exact ⟨R, by simpa [Sh.size] using e1, ok⟩
  obtain ⟨f, hf⟩ := pick_all (⟨0, fun _ => 0, fun _ => 0, none, ⟨0, 0, none⟩, 0⟩ : Rng) hz
  exact ⟨⟨A, B, ⟨n, fun i => (f i).n, b, a, c, fun i => (f i).b, fun i => (f i).a, fun i => (f i).c⟩, fun i => (f i).lo, fun i => (f i).hi⟩, rfl, oA, oB, h3, fun i hi => (hf i hi).1, fun h => (h4 h).1, len_of h1 h2,
    fun i hi => (hf i hi).2.e, fun i hi => (hf i hi).2.i, fun i hi => (hf i hi).2.r, fun i hi => (hf i hi).2.l⟩
theorem u8_of {h : H} {m : Nat} {v : Value} (k : Fits h m (.int .u8) [v]) : ∃ n : Int, v = .int .u8 n ∧ 0 ≤ n ∧ n < 256 := by
  obtain ⟨n, e, h1, h2⟩ := k
  simp only [IntKind.min, IntKind.max, IntKind.signed, IntKind.bits] at h1 h2
  simp at h1 h2 e
  exact ⟨n, e, h1, by omega⟩
end AE.ChartIn

/- What comes in, for the statements about charts: numbers for draws. -/
namespace AE.ChartIn
open Go Go.Proofs Go.Proofs.Ytbfhhncmmllblaa AE AE.Try
set_option maxRecDepth 100000

theorem isU32s : IsSh Try.prog (.slice (.int .u32)) 54 := .slice Try.underlying54 (by kernel_rfl) (by decide) (.int (by kernel_rfl))
theorem isU16a : IsSh Try.prog (Sh.rep (.int .u16) 2) 56 := .arr Try.underlying56 (by kernel_rfl) (by kernel_rfl) (.int (by kernel_rfl))
theorem by_of {h : H} {m : Nat} {cs : List Value} (k : Fits h m (.slice (.int .u32)) cs) : ∃ B : Arr, cs = [.slice B.b B.n B.c] ∧ By .u32 B m h := by
  obtain ⟨b, a, n, c, rfl, h1, h2, h3, h4, h5, h6⟩ := k
  have hz : ∀ i, i < n → ∃ z : Int, h.loadN (aadd a i) 1 = some [.int .u32 z] ∧ 0 ≤ z ∧ z < 4294967296 := fun i hi => by
    obtain ⟨l, e1, z, rfl, z1, z2⟩ := h6 i hi
    simp only [IntKind.min, IntKind.max, IntKind.signed, IntKind.bits] at z1 z2
    simp at z1 z2
    exact ⟨z, by simpa [Sh.size] using e1, z1, by omega⟩
  obtain ⟨f, hf⟩ := pick_all (0 : Int) hz
  exact ⟨⟨n, f, b, a, c⟩, rfl, ⟨h3, fun i hi => (hf i hi).1, fun h => (h4 h).1, len_of h1 h2, fun i hi => (hf i hi).2⟩⟩
/-- Two numbers, below 2^16. -/
structure Tw where
  x : Int
  y : Int
def Tw.cells (p : Tw) : List Value := [.int .u16 p.x, .int .u16 p.y]
def Tw.Ok (p : Tw) : Prop := (0 ≤ p.x ∧ p.x < 65536) ∧ 0 ≤ p.y ∧ p.y < 65536
theorem tw_of {h : H} {m : Nat} {cs : List Value} (k : Fits h m (Sh.rep (.int .u16) 2) cs) : ∃ p : Tw, cs = p.cells ∧ (0 ≤ p.x ∧ p.x < 65536) ∧ (0 ≤ p.y ∧ p.y < 65536) := by
  obtain ⟨zs, rfl, l, hz⟩ := fits_ints (k := .u16) (by decide) k
  have hb : ∀ x ∈ zs, 0 ≤ x ∧ x < 65536 := fun x hx => by
    have h1 := hz x hx
    simp only [IntKind.min, IntKind.max, IntKind.signed, IntKind.bits] at h1
    simp at h1
    omega
  match zs, l with
  | [a, b], _ => exact ⟨⟨a, b⟩, rfl, hb a (by simp), hb b (by simp)⟩
end AE.ChartIn

/- What comes in, for the statements about charts: pairs of numbers for draws. -/
namespace AE.ChartIn
open Go Go.Proofs Go.Proofs.Ytbfhhncmmllblaa AE AE.Try
set_option maxRecDepth 100000

instance : Inhabited Tw := ⟨⟨0, 0⟩⟩
end AE.ChartIn
