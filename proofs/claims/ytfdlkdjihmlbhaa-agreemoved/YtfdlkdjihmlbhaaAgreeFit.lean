/- What comes in, for the statements about tanks that agree: the shapes of the arguments' types, and the values that they hold. -/
import Derived.Test.YtfdlkdjihmlbhaaRows
import Derived.Test.YtfdlkdjihmlbhaaAEArg2
import Derived.Test.YtfdlkdjihmlbhaaAgreeN
import Derived.KernelRfl
set_option linter.unusedVariables false
set_option linter.unusedSimpArgs false
set_option linter.unusedSectionVars false
namespace AE.AgreeIn
open Go Go.Proofs Go.Proofs.Ytfdlkdjihmlbhaa AE AE.Try
set_option maxRecDepth 100000

def rangeSh : Sh := .cons (.int .i64) (.cons (.int .i64) .nil)
def testSh : Sh := .cons (.int .i64) (.cons (.int .i64) (.cons rangeSh .nil))
def tableSh : Sh := .cons (.int .i64) (.cons (.int .i64) (.cons rangeSh (.cons (.slice testSh) .nil)))
def truthSh : Sh := .cons (.slice (.int .i64)) (.cons (.slice (.int .i64)) .nil)
def b2Sh : Sh := (Sh.int .u8).rep 2
def b3Sh : Sh := (Sh.int .u8).rep 3
def w2Sh : Sh := (Sh.int .u16).rep 2
theorem is64 : IsSh Try.prog (.int .i64) 2 := .int Try.underlying2
theorem isInt : IsSh Try.prog (.int .i64) 3 := .int Try.underlying3
theorem isU8 : IsSh Try.prog (.int .u8) 5 := .int Try.underlying5
theorem isU16 : IsSh Try.prog (.int .u16) 43 := .int Try.underlying43
theorem isI32 : IsSh Try.prog (.int .i32) 21 := .int Try.underlying21
theorem isSl : IsSh Try.prog (.slice (.int .i64)) 27 := .slice Try.underlying27 (by kernel_rfl) (by decide) is64
theorem isRangeT : IsSh Try.prog rangeSh 23 := .struct Try.underlying23 (by kernel_rfl) (.cons (by kernel_rfl) (by kernel_rfl) is64 (.cons (by kernel_rfl) (by kernel_rfl) is64 .nil))
theorem isTest : IsSh Try.prog testSh 42 := .struct Try.underlying42 (by kernel_rfl) (.cons (by kernel_rfl) (by kernel_rfl) isInt (.cons (by kernel_rfl) (by kernel_rfl) isInt (.cons (by kernel_rfl) (by kernel_rfl) isRangeT .nil)))
theorem isTests : IsSh Try.prog (.slice testSh) 24 := .slice Try.underlying24 (by kernel_rfl) (by decide) isTest
theorem isTable : IsSh Try.prog tableSh 26 := .struct Try.underlying26 (by kernel_rfl) (.cons (by kernel_rfl) (by kernel_rfl) isInt (.cons (by kernel_rfl) (by kernel_rfl) isInt (.cons (by kernel_rfl) (by kernel_rfl) isRangeT (.cons (by kernel_rfl) (by kernel_rfl) isTests .nil))))
theorem isTruth : IsSh Try.prog truthSh 29 := .struct Try.underlying29 (by kernel_rfl) (.cons (by kernel_rfl) (by kernel_rfl) isSl (.cons (by kernel_rfl) (by kernel_rfl) isSl .nil))
theorem isB2 : IsSh Try.prog b2Sh 30 := .arr Try.underlying30 (by kernel_rfl) (by kernel_rfl) isU8
theorem isB3 : IsSh Try.prog b3Sh 49 := .arr Try.underlying49 (by kernel_rfl) (by kernel_rfl) isU8
theorem isW2 : IsSh Try.prog w2Sh 44 := .arr Try.underlying44 (by kernel_rfl) (by kernel_rfl) isU16

theorem nums_of {h : H} {m : Nat} {cs : List Value} (k : Fits h m (.slice (.int .i64)) cs) : ∃ A : Arr, cs = [A.val] ∧ A.Ok m h := by
  obtain ⟨b, a, n, c, rfl, h1, h2, h3, h4, h5, h6⟩ := k
  have hz : ∀ i, i < n → ∃ z : Int, h.loadN (aadd a i) 1 = some [.int .i64 z] := fun i hi => by
    obtain ⟨l, e1, z, rfl, -⟩ := h6 i hi
    exact ⟨z, by simpa [Sh.size] using e1⟩
  obtain ⟨f, hf⟩ := pick_all (0 : Int) hz
  exact ⟨⟨n, f, b, a, c⟩, rfl, h3, hf, fun h => (h4 h).1, by
    show n ≤ _
    rcases h2 with h2 | ⟨-, h2⟩
    · unfold maxLen at h2; omega
    · omega⟩
theorem test_of {h : H} {m : Nat} {cs : List Value} (k : Fits h m testSh cs) : ∃ x : RTest, cs = x.cells := by
  obtain ⟨zs, rfl, l, -⟩ := fits_ints (k := .i64) (by decide) k
  match zs, l with
  | [a, b, c, d], _ => exact ⟨⟨a, b, c, d⟩, rfl⟩
/-- A table as it comes in. -/
structure _root_.AE.Try.Tab.In (T : Tab) (m : Nat) (h : H) : Prop where
  ok : T.Ok m h
  flat : 0 < T.n → T.c < far ∧ T.a.spot = none
  le : T.n ≤ T.c
theorem table_of {h : H} {m : Nat} {cs : List Value} (k : Fits h m tableSh cs) : ∃ T : Tab, cs = T.cells ∧ T.In m h := by
  obtain ⟨c1, c2, rfl, k1, c3, c4, rfl, k2, c5, c6, rfl, k3, c7, c8, rfl, k4, k5⟩ := k
  have k5 : c8 = [] := k5
  subst k5
  obtain ⟨z1, rfl, -⟩ := k1
  obtain ⟨z2, rfl, -⟩ := k2
  obtain ⟨zs, rfl, l, -⟩ := fits_ints (k := .i64) (by decide) k3
  obtain ⟨b, a, n, c, rfl, h1, h2, h3, h4, h5, h6⟩ := k4
  have hz : ∀ i, i < n → ∃ x : RTest, h.loadN (aadd a (i * 4)) 4 = some x.cells := fun i hi => by
    obtain ⟨l, e1, k1⟩ := h6 i hi
    obtain ⟨x, rfl⟩ := test_of k1
    exact ⟨x, e1⟩
  obtain ⟨f, hf⟩ := pick_all (⟨0, 0, 0, 0⟩ : RTest) hz
  match zs, l with
  | [lo, hi], _ =>
    refine ⟨⟨z1, z2, lo, hi, n, f, b, a, c⟩, rfl, ⟨h3, hf, fun h => (h4 h).1, ?_⟩, fun h => ⟨?_, (h4 h).2⟩, h1⟩
    · show n ≤ _
      rcases h2 with h2 | ⟨-, h2⟩
      · unfold maxLen at h2; omega
      · omega
    · have h : 0 < n := h
      show c < far
      rcases h2 with h2 | ⟨-, h2⟩
      · unfold maxLen at h2; unfold far; omega
      · omega
theorem truth_of {h : H} {m : Nat} {cs : List Value} (k : Fits h m truthSh cs) : ∃ t : Tru, cs = t.cells ∧ t.Ok m h := by
  obtain ⟨c1, c2, rfl, k1, c3, c4, rfl, k2, k3⟩ := k
  have k3 : c4 = [] := k3
  subst k3
  obtain ⟨A, rfl, hA⟩ := nums_of k1
  obtain ⟨C, rfl, hC⟩ := nums_of k2
  exact ⟨⟨A, C⟩, rfl, hA, hC⟩
/-- Two, and three, small numbers. -/
structure Two where
  a : Int
  b : Int
structure Three where
  a : Int
  b : Int
  c : Int
def Two.cells (k : IntKind) (x : Two) : List Value := [.int k x.a, .int k x.b]
def Three.cells (k : IntKind) (x : Three) : List Value := [.int k x.a, .int k x.b, .int k x.c]
structure Two.Ok (x : Two) (n : Int) : Prop where
  a : 0 ≤ x.a ∧ x.a < n
  b : 0 ≤ x.b ∧ x.b < n
structure Three.Ok (x : Three) (n : Int) : Prop where
  a : 0 ≤ x.a ∧ x.a < n
  b : 0 ≤ x.b ∧ x.b < n
  c : 0 ≤ x.c ∧ x.c < n
theorem b2_of {h : H} {m : Nat} {cs : List Value} (k : Fits h m b2Sh cs) : ∃ x : Two, cs = x.cells .u8 ∧ x.Ok 256 := by
  obtain ⟨zs, rfl, l, hz⟩ := fits_ints (k := .u8) (by decide) k
  have hb : ∀ x ∈ zs, 0 ≤ x ∧ x < 256 := fun x hx => by
    have h1 := hz x hx
    simp only [IntKind.min, IntKind.max, IntKind.signed, IntKind.bits] at h1
    simp at h1
    omega
  match zs, l with
  | [a, b], _ => exact ⟨⟨a, b⟩, rfl, hb a (by simp), hb b (by simp)⟩
theorem b3_of {h : H} {m : Nat} {cs : List Value} (k : Fits h m b3Sh cs) : ∃ x : Three, cs = x.cells .u8 ∧ x.Ok 256 := by
  obtain ⟨zs, rfl, l, hz⟩ := fits_ints (k := .u8) (by decide) k
  have hb : ∀ x ∈ zs, 0 ≤ x ∧ x < 256 := fun x hx => by
    have h1 := hz x hx
    simp only [IntKind.min, IntKind.max, IntKind.signed, IntKind.bits] at h1
    simp at h1
    omega
  match zs, l with
  | [a, b, c], _ => exact ⟨⟨a, b, c⟩, rfl, hb a (by simp), hb b (by simp), hb c (by simp)⟩
theorem w2_of {h : H} {m : Nat} {cs : List Value} (k : Fits h m w2Sh cs) : ∃ x : Two, cs = x.cells .u16 ∧ x.Ok 65536 := by
  obtain ⟨zs, rfl, l, hz⟩ := fits_ints (k := .u16) (by decide) k
  have hb : ∀ x ∈ zs, 0 ≤ x ∧ x < 65536 := fun x hx => by
    have h1 := hz x hx
    simp only [IntKind.min, IntKind.max, IntKind.signed, IntKind.bits] at h1
    simp at h1
    omega
  match zs, l with
  | [a, b], _ => exact ⟨⟨a, b⟩, rfl, hb a (by simp), hb b (by simp)⟩
theorem u8_of {h : H} {m : Nat} {v : Value} (k : Fits h m (.int .u8) [v]) : ∃ n : Int, v = .int .u8 n ∧ 0 ≤ n ∧ n < 256 := by
  obtain ⟨n, e, h1, h2⟩ := k
  simp only [IntKind.min, IntKind.max, IntKind.signed, IntKind.bits] at h1 h2
  simp at h1 h2 e
  exact ⟨n, e, h1, by omega⟩
theorem i32_of {h : H} {m : Nat} {v : Value} (k : Fits h m (.int .i32) [v]) : ∃ n : Int, v = .int .i32 n ∧ -2147483648 ≤ n ∧ n < 2147483648 := by
  obtain ⟨n, e, h1, h2⟩ := k
  simp only [IntKind.min, IntKind.max, IntKind.signed, IntKind.bits] at h1 h2
  simp at h1 h2 e
  exact ⟨n, e, h1, by omega⟩
end AE.AgreeIn
