/- What comes in, for the statements about drag: the shapes of the arguments' types, and the values that they hold. -/
import Derived.Test.YthajcipblfchiaaRows
import Derived.Test.YthajcipblfchiaaAEArg2
import Derived.Test.YthajcipblfchiaaDragSpec4
import Derived.Test.YthajcipblfchiaaDragSix
import Derived.KernelRfl
set_option linter.unusedVariables false
set_option linter.unusedSimpArgs false
set_option linter.unusedSectionVars false
namespace AE.DragIn
open Go Go.Proofs Go.Proofs.Ythajcipblfchiaa AE AE.Drag AE.Try
set_option maxRecDepth 100000

def rangeSh : Sh := .cons (.int .i64) (.cons (.int .i64) .nil)
def lineSh : Sh := .cons (.slice (.int .i64)) (.cons (.slice (.int .i64)) .nil)
def testSh : Sh := .cons (.int .i64) (.cons (.int .i64) (.cons (.int .i64) (.cons (.int .i64) (.cons rangeSh (.cons rangeSh (.cons rangeSh (.cons rangeSh (.cons rangeSh (.cons rangeSh .nil)))))))))
def trueSh : Sh := .cons (.int .i64) (.cons (.int .i64) (.cons (.int .i64) (.cons (.int .i64) (.cons (.int .i64) (.cons (.int .i64) .nil)))))
def sixSh : Sh := (Sh.int .u32).rep 6
theorem isInt : IsSh Try.prog (.int .i64) 2 := .int Try.underlying2
theorem isU32 : IsSh Try.prog (.int .u32) 50 := .int Try.underlying50
theorem isU8 : IsSh Try.prog (.int .u8) 5 := .int Try.underlying5
theorem isBool : IsSh Try.prog .bool 4 := .bool Try.underlying4
theorem isSl : IsSh Try.prog (.slice (.int .i64)) 22 := .slice Try.underlying22 (by kernel_rfl) (by decide) isInt
theorem isLine : IsSh Try.prog lineSh 24 := .struct Try.underlying24 (by kernel_rfl) (.cons (by kernel_rfl) (by kernel_rfl) isSl (.cons (by kernel_rfl) (by kernel_rfl) isSl .nil))
theorem isRange : IsSh Try.prog rangeSh 33 := .struct Try.underlying33 (by kernel_rfl) (.cons (by kernel_rfl) (by kernel_rfl) isInt (.cons (by kernel_rfl) (by kernel_rfl) isInt .nil))
theorem isTest : IsSh Try.prog testSh 35 := .struct Try.underlying35 (by kernel_rfl) (.cons (by kernel_rfl) (by kernel_rfl) isInt (.cons (by kernel_rfl) (by kernel_rfl) isInt (.cons (by kernel_rfl) (by kernel_rfl) isInt (.cons (by kernel_rfl) (by kernel_rfl) isInt
  (.cons (by kernel_rfl) (by kernel_rfl) isRange (.cons (by kernel_rfl) (by kernel_rfl) isRange (.cons (by kernel_rfl) (by kernel_rfl) isRange (.cons (by kernel_rfl) (by kernel_rfl) isRange (.cons (by kernel_rfl) (by kernel_rfl) isRange (.cons (by kernel_rfl) (by kernel_rfl) isRange .nil))))))))))
theorem isSix : IsSh Try.prog sixSh 51 := .arr Try.underlying51 (by kernel_rfl) (by kernel_rfl) isU32
theorem isLines : IsSh Try.prog (.slice lineSh) 44 := .slice Try.underlying44 (by kernel_rfl) (by decide) isLine
theorem isTests : IsSh Try.prog (.slice testSh) 43 := .slice Try.underlying43 (by kernel_rfl) (by decide) isTest

theorem ints_of {h : H} {m : Nat} {cs : List Value} (k : Fits h m (.slice (.int .i64)) cs) : ∃ M : Limits, cs = [.slice M.b M.n M.c] ∧ M.Ok m h := by
  obtain ⟨b, a, n, c, rfl, h1, h2, h3, h4, h5, h6⟩ := k
  have hz : ∀ i, i < n → ∃ z : Int, h.loadN (aadd a i) 1 = some [.int .i64 z] := fun i hi => by
    obtain ⟨l, e1, z, rfl, -⟩ := h6 i hi
    exact ⟨z, by simpa [Sh.size] using e1⟩
  obtain ⟨f, hf⟩ := pick_all (0 : Int) hz
  have hfar : 0 < n → c < far := fun h0 => by
    rcases h2 with h2 | ⟨-, h2⟩
    · unfold maxLen at h2; unfold far; omega
    · omega
  exact ⟨⟨n, f, b, a, c⟩, rfl, h3, hf, fun h => (h4 h).1, h5, hfar, by
    show n ≤ _
    rcases h2 with h2 | ⟨-, h2⟩
    · unfold maxLen at h2; omega
    · omega⟩
theorem line_of {h : H} {m : Nat} {cs : List Value} (k : Fits h m lineSh cs) : ∃ L : Line, cs = L.cells ∧ L.Ok m h := by
  obtain ⟨c1, c2, rfl, k1, c3, c4, rfl, k2, k3⟩ := k
  have k3 : c4 = [] := k3
  subst k3
  obtain ⟨A, rfl, hA⟩ := ints_of k1
  obtain ⟨B, rfl, hB⟩ := ints_of k2
  exact ⟨⟨A.n, A.f, B.n, B.f, A.b, A.a, A.c, B.b, B.a, B.c⟩, rfl, hA.e, hA.i, hA.r, hB.e, hB.i, hB.r, hA.l, hB.l⟩
theorem test_of {h : H} {m : Nat} {cs : List Value} (k : Fits h m testSh cs) : ∃ t : T, cs = t.cells := by
  obtain ⟨zs, rfl, l, -⟩ := fits_ints (k := .i64) (by decide) k
  match zs, l with
  | [a, b, c, d, e, f, g, h, i, j, k, l, m, n, o, p], _ => exact ⟨⟨a, b, c, d, e, f, g, h, i, j, k, l, m, n, o, p⟩, rfl⟩
theorem true_of {h : H} {m : Nat} {cs : List Value} (k : Fits h m trueSh cs) : ∃ t : X, cs = t.cells := by
  obtain ⟨zs, rfl, l, -⟩ := fits_ints (k := .i64) (by decide) k
  match zs, l with
  | [a, b, c, d, e, f], _ => exact ⟨⟨a, b, c, d, e, f⟩, rfl⟩
theorem six_of {h : H} {m : Nat} {cs : List Value} (k : Fits h m sixSh cs) : ∃ s : Six, cs = s.cells ∧ s.Ok := by
  obtain ⟨zs, rfl, l, hz⟩ := fits_ints (k := .u32) (by decide) k
  have hb : ∀ x ∈ zs, 0 ≤ x ∧ x < 4294967296 := fun x hx => by
    have h1 := hz x hx
    simp only [IntKind.min, IntKind.max, IntKind.signed, IntKind.bits] at h1
    simp at h1
    omega
  match zs, l with
  | [a, b, c, d, e, f], _ => exact ⟨⟨a, b, c, d, e, f⟩, rfl, hb a (by simp), hb b (by simp), hb c (by simp), hb d (by simp), hb e (by simp), hb f (by simp)⟩
theorem lines_of {h : H} {m : Nat} {cs : List Value} (k : Fits h m (.slice lineSh) cs) : ∃ S : Lines, cs = [.slice S.b S.k S.c] ∧ S.Ok m h := by
  obtain ⟨b, a, n, c, rfl, h1, h2, h3, h4, h5, h6⟩ := k
  have hz : ∀ i, i < n → ∃ L : Line, h.loadN (aadd a (i * 2)) 2 = some L.cells ∧ L.Ok m h := fun i hi => by
    obtain ⟨l, e1, k1⟩ := h6 i hi
    obtain ⟨L, rfl, hL⟩ := line_of k1
    exact ⟨L, e1, hL⟩
  obtain ⟨f, hf⟩ := pick_all (⟨0, fun _ => 0, 0, fun _ => 0, none, a, 0, none, a, 0⟩ : Line) hz
  exact ⟨⟨n, f, b, a, c⟩, rfl, h3, fun i hi => (hf i hi).1, fun h => (h4 h).1, fun i hi => (hf i hi).2, by
    show n ≤ _
    rcases h2 with h2 | ⟨-, h2⟩
    · unfold maxLen at h2; omega
    · omega⟩
theorem lines_of' {h : H} {m : Nat} {cs : List Value} (k : Fits h m (.slice lineSh) cs) : ∃ S : Lines, cs = [.slice S.b S.k S.c] ∧ S.Ok m h ∧ S.Flat := by
  have k0 := k
  obtain ⟨b, a, n, c, rfl, h1, h2, h3, h4, h5, h6⟩ := k0
  have hz : ∀ i, i < n → ∃ L : Line, h.loadN (aadd a (i * 2)) 2 = some L.cells ∧ L.Ok m h := fun i hi => by
    obtain ⟨l, e1, k1⟩ := h6 i hi
    obtain ⟨L, rfl, hL⟩ := line_of k1
    exact ⟨L, e1, hL⟩
  obtain ⟨f, hf⟩ := pick_all (⟨0, fun _ => 0, 0, fun _ => 0, none, a, 0, none, a, 0⟩ : Line) hz
  refine ⟨⟨n, f, b, a, c⟩, rfl, ⟨h3, fun i hi => (hf i hi).1, fun h => (h4 h).1, fun i hi => (hf i hi).2, ?_⟩, fun h => (h4 h).2, h1, fun h => ?_⟩
  · show n ≤ _
    rcases h2 with h2 | ⟨-, h2⟩
    · unfold maxLen at h2; omega
    · omega
  · have h : 0 < n := h
    show c < far
    rcases h2 with h2 | ⟨-, h2⟩
    · unfold maxLen at h2; unfold far; omega
    · omega
theorem tests_of {h : H} {m : Nat} {cs : List Value} (k : Fits h m (.slice testSh) cs) : ∃ Q : Tests, cs = [.slice Q.b Q.k Q.c] ∧ Q.Ok m h := by
  obtain ⟨b, a, n, c, rfl, h1, h2, h3, h4, h5, h6⟩ := k
  have hz : ∀ i, i < n → ∃ t : T, h.loadN (aadd a (i * 16)) 16 = some t.cells := fun i hi => by
    obtain ⟨l, e1, k1⟩ := h6 i hi
    obtain ⟨t, rfl⟩ := test_of k1
    exact ⟨t, e1⟩
  obtain ⟨f, hf⟩ := pick_all (⟨0, 0, 0, 0, 0, 0, 0, 0, 0, 0, 0, 0, 0, 0, 0, 0⟩ : T) hz
  exact ⟨⟨n, f, b, a, c⟩, rfl, h3, hf, fun h => (h4 h).1, by
    show n ≤ _
    rcases h2 with h2 | ⟨-, h2⟩
    · unfold maxLen at h2; omega
    · omega⟩
theorem u32_of {h : H} {m : Nat} {v : Value} (k : Fits h m (.int .u32) [v]) : ∃ n : Int, v = .int .u32 n ∧ 0 ≤ n ∧ n < 4294967296 := by
  obtain ⟨n, e, h1, h2⟩ := k
  simp only [IntKind.min, IntKind.max, IntKind.signed, IntKind.bits] at h1 h2
  simp at h1 h2 e
  exact ⟨n, e, h1, by omega⟩
theorem u8_of {h : H} {m : Nat} {v : Value} (k : Fits h m (.int .u8) [v]) : ∃ n : Int, v = .int .u8 n ∧ 0 ≤ n ∧ n < 256 := by
  obtain ⟨n, e, h1, h2⟩ := k
  simp only [IntKind.min, IntKind.max, IntKind.signed, IntKind.bits] at h1 h2
  simp at h1 h2 e
  exact ⟨n, e, h1, by omega⟩
theorem int_of' {h : H} {m : Nat} {v : Value} (k : Fits h m (.int .i64) [v]) : ∃ n : Int, v = .int .i64 n ∧ -9223372036854775808 ≤ n ∧ n < 9223372036854775808 := by
  obtain ⟨n, e, h1, h2⟩ := k
  simp only [IntKind.min, IntKind.max, IntKind.signed, IntKind.bits] at h1 h2
  simp at h1 h2 e
  exact ⟨n, e, h1, by omega⟩
theorem bool_of {h : H} {m : Nat} {v : Value} (k : Fits h m .bool [v]) : ∃ b : Bool, v = .bool b := by
  obtain ⟨b, e⟩ := k
  simp at e
  exact ⟨b, e⟩
end AE.DragIn
