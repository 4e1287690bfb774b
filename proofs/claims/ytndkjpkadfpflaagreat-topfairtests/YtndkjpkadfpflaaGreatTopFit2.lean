/- What comes in, for the statements about drag: the shapes of the arguments' types, and the values that they hold. -/
import Derived.Test.YtndkjpkadfpflaaGreatRows
import Derived.Test.YtndkjpkadfpflaaGreatAEArg2
import Derived.Test.YtndkjpkadfpflaaGreatJoin3
import Derived.Test.YtndkjpkadfpflaaGreatJoin4
import Derived.Test.YtndkjpkadfpflaaGreatTopG2
import Derived.KernelRfl
set_option linter.unusedVariables false
set_option linter.unusedSimpArgs false
set_option linter.unusedSectionVars false
namespace AE.TopIn2
open Go Go.Proofs Go.Proofs.YtndkjpkadfpflaaGreat AE AE.Drag AE.Tryz
set_option maxRecDepth 100000

def rangeSh : Sh := .cons (.int .i64) (.cons (.int .i64) .nil)
def lineSh : Sh := .cons (.slice (.int .i64)) (.cons (.slice (.int .i64)) .nil)
def testSh : Sh := .cons (.int .i64) (.cons (.int .i64) (.cons (.int .i64) (.cons (.int .i64) (.cons rangeSh (.cons rangeSh (.cons rangeSh (.cons rangeSh (.cons rangeSh (.cons rangeSh .nil)))))))))
def sixSh : Sh := (Sh.int .u32).rep 6
theorem isInt : IsSh Tryz.prog (.int .i64) 2 := .int Tryz.underlying2
theorem isU32 : IsSh Tryz.prog (.int .u32) 25 := .int Tryz.underlying25
theorem isU8 : IsSh Tryz.prog (.int .u8) 5 := .int Tryz.underlying5
theorem isSl : IsSh Tryz.prog (.slice (.int .i64)) 38 := .slice Tryz.underlying38 (by kernel_rfl) (by decide) isInt
theorem isLine : IsSh Tryz.prog lineSh 59 := .struct Tryz.underlying59 (by kernel_rfl) (.cons (by kernel_rfl) (by kernel_rfl) isSl (.cons (by kernel_rfl) (by kernel_rfl) isSl .nil))
theorem isRange : IsSh Tryz.prog rangeSh 36 := .struct Tryz.underlying36 (by kernel_rfl) (.cons (by kernel_rfl) (by kernel_rfl) isInt (.cons (by kernel_rfl) (by kernel_rfl) isInt .nil))
theorem isTest : IsSh Tryz.prog testSh 70 := .struct Tryz.underlying70 (by kernel_rfl) (.cons (by kernel_rfl) (by kernel_rfl) isInt (.cons (by kernel_rfl) (by kernel_rfl) isInt (.cons (by kernel_rfl) (by kernel_rfl) isInt (.cons (by kernel_rfl) (by kernel_rfl) isInt
  (.cons (by kernel_rfl) (by kernel_rfl) isRange (.cons (by kernel_rfl) (by kernel_rfl) isRange (.cons (by kernel_rfl) (by kernel_rfl) isRange (.cons (by kernel_rfl) (by kernel_rfl) isRange (.cons (by kernel_rfl) (by kernel_rfl) isRange (.cons (by kernel_rfl) (by kernel_rfl) isRange .nil))))))))))
theorem isSix : IsSh Tryz.prog sixSh 67 := .arr Tryz.underlying67 (by kernel_rfl) (by kernel_rfl) isU32
theorem isLines : IsSh Tryz.prog (.slice lineSh) 66 := .slice Tryz.underlying66 (by kernel_rfl) (by decide) isLine
theorem isTests : IsSh Tryz.prog (.slice testSh) 65 := .slice Tryz.underlying65 (by kernel_rfl) (by decide) isTest

theorem ints_of {h : H} {m : Nat} {cs : List Value} (k : Fits h m (.slice (.int .i64)) cs) : ∃ M : Limits, cs = [.slice M.b M.n M.c] ∧ M.Ok m h := by
  obtain ⟨b, a, n, c, rfl, h1, h2, h3, h4, h5, h6⟩ := k
  have hz : ∀ i, i < n → ∃ z : Int, h.loadN (aadd a i) 1 = some [.int .i64 z] := fun i hi => by
    obtain ⟨l, e1, z, rfl, -⟩ := h6 i hi
    exact ⟨z, by simpa [Sh.size] using e1⟩
  obtain ⟨f, hf⟩ := pick_all (0 : Int) hz
  have hfar : 0 < n → c < far := fun h0 => by
    rcases h2 with h2 | ⟨-, h2⟩
    · unfold maxLen at h2; unfold far; omega
    · omega
  exact ⟨⟨n, f, b, a, c⟩, rfl, h3, hf, fun h => (h4 h).1, h5.elim (fun x => .inl x.1) fun x => .inr (x.elim (fun ⟨_, _, y⟩ => .inl (by show far ≤ c; omega)) fun ⟨a', y1, y2, y3, _⟩ => .inr ⟨a', y1, y2, y3⟩), hfar, by
    show n ≤ _
    rcases h2 with h2 | ⟨-, h2⟩
    · unfold maxLen at h2; omega
    · omega⟩
theorem line_of {h : H} {m : Nat} {cs : List Value} (k : Fits h m lineSh cs) : ∃ L : Line, cs = L.cells ∧ L.Ok m h := by
  obtain ⟨c1, c2, rfl, k1, c3, c4, rfl, k2, k3⟩ := k
  have k3 : c4 = [] := k3
  subst k3
  obtain ⟨A, rfl, hA⟩ := ints_of k1
  obtain ⟨B, rfl, hB⟩ := ints_of k2
  exact ⟨⟨A.n, A.f, B.n, B.f, A.b, A.a, A.c, B.b, B.a, B.c⟩, rfl, hA.e, hA.i, hA.r, hB.e, hB.i, hB.r, hA.l, hB.l⟩
theorem test_of {h : H} {m : Nat} {cs : List Value} (k : Fits h m testSh cs) : ∃ t : T, cs = t.cells := by
  obtain ⟨zs, rfl, l, -⟩ := fits_ints (k := .i64) (by decide) k
  match zs, l with
  | [a, b, c, d, e, f, g, h, i, j, k, l, m, n, o, p], _ => exact ⟨⟨a, b, c, d, e, f, g, h, i, j, k, l, m, n, o, p⟩, rfl⟩
theorem six_of {h : H} {m : Nat} {cs : List Value} (k : Fits h m sixSh cs) : ∃ s : Six, cs = s.cells ∧ s.Ok := by
  obtain ⟨zs, rfl, l, hz⟩ := fits_ints (k := .u32) (by decide) k
  have hb : ∀ x ∈ zs, 0 ≤ x ∧ x < 4294967296 := fun x hx => by
    have h1 := hz x hx
    simp only [IntKind.min, IntKind.max, IntKind.signed, IntKind.bits] at h1
    simp at h1
    omega
  match zs, l with
  | [a, b, c, d, e, f], _ => exact ⟨⟨a, b, c, d, e, f⟩, rfl, hb a (by simp), hb b (by simp), hb c (by simp), hb d (by simp), hb e (by simp), hb f (by simp)⟩
theorem lines_of {h : H} {m : Nat} {cs : List Value} (k : Fits h m (.slice lineSh) cs) : ∃ S : Lines, cs = [.slice S.b S.k S.c] ∧ S.Ok m h := by
  obtain ⟨b, a, n, c, rfl, h1, h2, h3, h4, h5, h6⟩ := k
  have hz : ∀ i, i < n → ∃ L : Line, h.loadN (aadd a (i * 2)) 2 = some L.cells ∧ L.Ok m h := fun i hi => by
    obtain ⟨l, e1, k1⟩ := h6 i hi
    obtain ⟨L, rfl, hL⟩ := line_of k1
    exact ⟨L, e1, hL⟩
  obtain ⟨f, hf⟩ := pick_all (⟨0, fun _ => 0, 0, fun _ => 0, none, a, 0, none, a, 0⟩ : Line) hz
  exact ⟨⟨n, f, b, a, c⟩, rfl, h3, fun i hi => (hf i hi).1, fun h => (h4 h).1, fun i hi => (hf i hi).2, by
    show n ≤ _
    rcases h2 with h2 | ⟨-, h2⟩
    · unfold maxLen at h2; omega
    · omega⟩
theorem tests_of {h : H} {m : Nat} {cs : List Value} (k : Fits h m (.slice testSh) cs) : ∃ Q : Tests, cs = [.slice Q.b Q.k Q.c] ∧ Q.Ok m h := by
  obtain ⟨b, a, n, c, rfl, h1, h2, h3, h4, h5, h6⟩ := k
  have hz : ∀ i, i < n → ∃ t : T, h.loadN (aadd a (i * 16)) 16 = some t.cells := fun i hi => by
    obtain ⟨l, e1, k1⟩ := h6 i hi
    obtain ⟨t, rfl⟩ := test_of k1
    exact ⟨t, e1⟩
  obtain ⟨f, hf⟩ := pick_all (⟨0, 0, 0, 0, 0, 0, 0, 0, 0, 0, 0, 0, 0, 0, 0, 0⟩ : T) hz
  exact ⟨⟨n, f, b, a, c⟩, rfl, h3, hf, fun h => (h4 h).1, by
    show n ≤ _
    rcases h2 with h2 | ⟨-, h2⟩
    · unfold maxLen at h2; omega
    · omega⟩
theorem u32_of {h : H} {m : Nat} {v : Value} (k : Fits h m (.int .u32) [v]) : ∃ n : Int, v = .int .u32 n ∧ 0 ≤ n ∧ n < 4294967296 := by
  obtain ⟨n, e, h1, h2⟩ := k
  simp only [IntKind.min, IntKind.max, IntKind.signed, IntKind.bits] at h1 h2
  simp at h1 h2 e
  exact ⟨n, e, h1, by omega⟩
theorem u8_of {h : H} {m : Nat} {v : Value} (k : Fits h m (.int .u8) [v]) : ∃ n : Int, v = .int .u8 n ∧ 0 ≤ n ∧ n < 256 := by
  obtain ⟨n, e, h1, h2⟩ := k
  simp only [IntKind.min, IntKind.max, IntKind.signed, IntKind.bits] at h1 h2
  simp at h1 h2 e
  exact ⟨n, e, h1, by omega⟩
end AE.TopIn2
