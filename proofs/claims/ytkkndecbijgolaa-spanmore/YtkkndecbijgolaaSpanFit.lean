/- What comes in, for the statements about spans: the shapes of the arguments' types, and the values that they hold. -/
import Derived.Test.YtkkndecbijgolaaRows
import Derived.Test.YtkkndecbijgolaaAEArg2
import Derived.Test.YtkkndecbijgolaaSpanU
import Derived.Test.YtkkndecbijgolaaAESl3
import Derived.KernelRfl
set_option linter.unusedVariables false
set_option linter.unusedSimpArgs false
set_option linter.unusedSectionVars false
namespace AE.SpanIn
open Go Go.Proofs Go.Proofs.Ytkkndecbijgolaa AE AE.Try AE.Sp
set_option maxRecDepth 100000

def rangeSh : Sh := .cons (.int .i64) (.cons (.int .i64) .nil)
def runSh : Sh := .cons (.int .i64) (.cons (.int .i64) (.cons rangeSh .nil))
def w2Sh : Sh := (Sh.int .u16).rep 2
theorem is64 : IsSh Try.prog (.int .i64) 2 := .int Try.underlying2
theorem isU8 : IsSh Try.prog (.int .u8) 5 := .int Try.underlying5
theorem isRangeT : IsSh Try.prog rangeSh 54 := .struct Try.underlying54 (by kernel_rfl) (.cons (by kernel_rfl) (by kernel_rfl) is64 (.cons (by kernel_rfl) (by kernel_rfl) is64 .nil))
theorem isRun : IsSh Try.prog runSh 56 := .struct Try.underlying56 (by kernel_rfl) (.cons (by kernel_rfl) (by kernel_rfl) is64 (.cons (by kernel_rfl) (by kernel_rfl) is64 (.cons (by kernel_rfl) (by kernel_rfl) isRangeT .nil)))
theorem isRuns : IsSh Try.prog (.slice runSh) 22 := .slice Try.underlying22 (by kernel_rfl) (by decide) isRun
theorem isU16 : IsSh Try.prog (.int .u16) 57 := .int Try.underlying57
theorem isW2 : IsSh Try.prog w2Sh 58 := .arr Try.underlying58 (by kernel_rfl) (by kernel_rfl) isU16

def in64 (z : Int) : Prop := -9223372036854775808 ≤ z ∧ z < 9223372036854775808
theorem in64_of {zs : List Int} (hz : ∀ x ∈ zs, IntKind.i64.min ≤ x ∧ x ≤ IntKind.i64.max) : ∀ x ∈ zs, in64 x := fun x hx => by
  have h1 := hz x hx
  simp only [IntKind.min, IntKind.max, IntKind.signed, IntKind.bits] at h1
  simp at h1
  unfold in64
  omega
theorem len_of {n c : Nat} (h1 : n ≤ c) (h2 : c ≤ maxLen ∨ (far ≤ c ∧ n = 0)) : n ≤ 9223372036854775807 := by
  rcases h2 with h2 | ⟨-, h2⟩
  · unfold maxLen at h2; omega
  · omega
theorem cap_of {n c : Nat} (h2 : c ≤ maxLen ∨ (far ≤ c ∧ n = 0)) (h : 0 < n) : c < far := by
  rcases h2 with h2 | ⟨-, h2⟩
  · unfold maxLen at h2; unfold far; omega
  · omega
theorem run_of {h : H} {m : Nat} {cs : List Value} (k : Fits h m runSh cs) : ∃ x : Try.Run, cs = x.cells ∧ (in64 x.p ∧ in64 x.q) ∧ in64 x.lo ∧ in64 x.hi := by
  obtain ⟨zs, rfl, l, hz⟩ := fits_ints (k := .i64) (by decide) k
  have hb := in64_of hz
  match zs, l with
  | [a, b, c, d], _ => exact ⟨⟨a, b, c, d⟩, rfl, ⟨hb a (by simp), hb b (by simp)⟩, hb c (by simp), hb d (by simp)⟩
/-- Runs as they come in. -/
structure _root_.AE.Try.Runs.In (L : Runs) (m : Nat) (h : H) : Prop where
  ok : L.Ok m h
  sl : SlC L.b L.a L.n L.c m h
theorem slc_of {h : H} {m n c : Nat} {b : Option Addr} {a : Addr} (h1 : n ≤ c) (h2 : c ≤ maxLen ∨ (far ≤ c ∧ n = 0)) (h3 : 0 < n → b = some a) (h4 : 0 < n → a.block < m ∧ a.spot = none) (h5 : (b = none ∧ c = 0) ∨ (∃ a', b = some a' ∧ c = far) ∨ ∃ a', b = some a' ∧ a'.block < m ∧ h.loadN a' 0 = some [] ∧ a'.spot = none ∧ c ≤ maxLen) : SlC b a n c m h := by
  refine ⟨fun h0 => ⟨h3 h0, (h4 h0).2, h1, cap_of h2 h0, (h4 h0).1⟩, fun h0 => ?_⟩
  rcases h5 with h5 | h5 | ⟨a', e1, e2, e3, e4, e5⟩
  · exact .inl h5
  · exact .inr (.inl h5)
  · exact .inr (.inr ⟨a', e1, e4, by unfold maxLen at e5; unfold far; omega, e2, e3⟩)
theorem runs_of {h : H} {m : Nat} {cs : List Value} (k : Fits h m (.slice runSh) cs) : ∃ L : Runs, cs = [.slice L.b L.n L.c] ∧ L.In m h := by
  obtain ⟨b, a, n, c, rfl, h1, h2, h3, h4, h5, h6⟩ := k
  have hz : ∀ i, i < n → ∃ x : Try.Run, h.loadN (aadd a (i * 4)) 4 = some x.cells := fun i hi => by
    obtain ⟨l, e1, k1⟩ := h6 i hi
    obtain ⟨x, rfl, -⟩ := run_of k1
    exact ⟨x, e1⟩
  obtain ⟨f, hf⟩ := pick_all (⟨0, 0, 0, 0⟩ : Try.Run) hz
  exact ⟨⟨n, f, b, a, c⟩, rfl, ⟨h3, hf, fun h => (h4 h).1, len_of h1 h2⟩, slc_of h1 h2 h3 h4 h5⟩
/-- A proof as it comes in. -/
structure PIn where
  P : PSs
  t : Int
def PIn.cells (x : PIn) : List Value := [.slice x.P.b x.P.n x.P.c, .int .i64 x.t]
theorem i64_of {h : H} {m : Nat} {v : Value} (k : Fits h m (.int .i64) [v]) : ∃ z : Int, v = .int .i64 z ∧ in64 z := by
  obtain ⟨z, e, h1, h2⟩ := k
  simp at e
  refine ⟨z, e, in64_of (zs := [z]) (fun x hx => by rw [List.mem_singleton.1 hx]; exact ⟨h1, h2⟩) z (by simp)⟩
theorem u8_of {h : H} {m : Nat} {v : Value} (k : Fits h m (.int .u8) [v]) : ∃ z : Int, v = .int .u8 z ∧ 0 ≤ z ∧ z < 256 := by
  obtain ⟨z, e, h1, h2⟩ := k
  simp at e
  simp only [IntKind.min, IntKind.max, IntKind.signed, IntKind.bits] at h1 h2
  simp at h1 h2
  exact ⟨z, e, by omega, by omega⟩
/-- Two numbers. -/
structure Two where
  a : Int
  b : Int
def Two.cells (k : IntKind) (x : Two) : List Value := [.int k x.a, .int k x.b]
theorem w2_of {h : H} {m : Nat} {cs : List Value} (k : Fits h m w2Sh cs) : ∃ x : Two, cs = x.cells .u16 ∧ (0 ≤ x.a ∧ x.a < 65536) ∧ 0 ≤ x.b ∧ x.b < 65536 := by
  obtain ⟨zs, rfl, l, hz⟩ := fits_ints (k := .u16) (by decide) k
  have hb : ∀ x ∈ zs, 0 ≤ x ∧ x < 65536 := fun x hx => by
    have h1 := hz x hx
    simp only [IntKind.min, IntKind.max, IntKind.signed, IntKind.bits] at h1
    simp at h1
    omega
  match zs, l with
  | [a, b], _ => exact ⟨⟨a, b⟩, rfl, hb a (by simp), hb b (by simp)⟩
end AE.SpanIn
