/- Walks and plain laws: DragSpec4, T9FitD. -/
import Derived.Test.YtneenfjffejnoaaGreatJoin22
import Derived.Test.YtneenfjffejnoaaGreatAEthree
import Derived.Test.YtneenfjffejnoaaGreatRows
import Derived.Test.YtneenfjffejnoaaGreatJoin20
import Derived.KernelRfl
set_option linter.unusedVariables false
set_option linter.unusedSimpArgs false
set_option linter.unusedSectionVars false

/- What drag computes, in plain words: limits that are held. -/
namespace AE.Drag
open Go AE

structure Tests where
 k : Nat
 f : Nat → T
 b : Option Addr
 a : Addr
 c : Nat
structure Tests.Ok (Q : Tests) (m : Nat) (h : H) : Prop where
 e : 0 < Q.k → Q.b = some Q.a
 i : Els h Q.a Q.k 16 (fun i => (Q.f i).cells)
 r : 0 < Q.k → Q.a.block < m
 l : Q.k ≤ 9223372036854775807
theorem Tests.Ok.same {Q : Tests} {m m' : Nat} {h h' : H} (k : Q.Ok m h) (s : Same m h h') (hm : m ≤ m') : Q.Ok m' h' := ⟨k.e, k.i.same s k.r, fun h => by have := k.r h; omega, k.l⟩
structure Limits where
 n : Nat
 f : Nat → Int
 b : Option Addr
 a : Addr
 c : Nat
structure Limits.Ok (M : Limits) (m : Nat) (h : H) : Prop where
 e : 0 < M.n → M.b = some M.a
 i : Ints h M.a M.n M.f
 r : 0 < M.n → M.a.block < m
 z : M.b = none ∨ far ≤ M.c ∨ ∃ a, M.b = some a ∧ a.block < m ∧ h.loadN a 0 = some []
 f : 0 < M.n → M.c < far
 l : M.n ≤ 9223372036854775807
theorem Limits.Ok.same {M : Limits} {m m' : Nat} {h h' : H} (k : M.Ok m h) (s : Same m h h') (hm : m ≤ m') : M.Ok m' h' :=
 ⟨k.e, k.i.same s k.r, fun h => by have := k.r h; omega, k.z.imp id (Or.imp id fun ⟨a, h1, h2, h3⟩ => ⟨a, h1, by omega, by rw [s.loadN h2]; exact h3⟩), k.f, k.l⟩

end AE.Drag

/- What comes in, for TopDragAgrees: the shapes of the arguments' types, and the values that they hold. -/
namespace AE.T9In
open Go Go.Proofs Go.Proofs.YtneenfjffejnoaaGreat AE AE.Drag AE.Tryz
set_option maxRecDepth 100000

def rangeSh : Sh := .cons (.int .i64) (.cons (.int .i64) .nil)
def lineSh : Sh := .cons (.slice (.int .i64)) (.cons (.slice (.int .i64)) .nil)
def testSh : Sh := .cons (.int .i64) (.cons (.int .i64) (.cons (.int .i64) (.cons (.int .i64) (.cons rangeSh (.cons rangeSh (.cons rangeSh (.cons rangeSh (.cons rangeSh (.cons rangeSh .nil)))))))))
theorem isInt : IsSh Tryz.prog (.int .i64) 2 := .int Tryz.underlying2
theorem isSl : IsSh Tryz.prog (.slice (.int .i64)) 37 := .slice Tryz.underlying37 (by kernel_rfl) (by decide) isInt
theorem isLine : IsSh Tryz.prog lineSh 71 := .struct Tryz.underlying71 (by kernel_rfl) (.cons (by kernel_rfl) (by kernel_rfl) isSl (.cons (by kernel_rfl) (by kernel_rfl) isSl .nil))
theorem isRange : IsSh Tryz.prog rangeSh 23 := .struct Tryz.underlying23 (by kernel_rfl) (.cons (by kernel_rfl) (by kernel_rfl) isInt (.cons (by kernel_rfl) (by kernel_rfl) isInt .nil))
theorem isTest : IsSh Tryz.prog testSh 67 := .struct Tryz.underlying67 (by kernel_rfl) (.cons (by kernel_rfl) (by kernel_rfl) isInt (.cons (by kernel_rfl) (by kernel_rfl) isInt (.cons (by kernel_rfl) (by kernel_rfl) isInt (.cons (by kernel_rfl) (by kernel_rfl) isInt
 (.cons (by kernel_rfl) (by kernel_rfl) isRange (.cons (by kernel_rfl) (by kernel_rfl) isRange (.cons (by kernel_rfl) (by kernel_rfl) isRange (.cons (by kernel_rfl) (by kernel_rfl) isRange (.cons (by kernel_rfl) (by kernel_rfl) isRange (.cons (by kernel_rfl) (by kernel_rfl) isRange .nil))))))))))
theorem isLines : IsSh Tryz.prog (.slice lineSh) 68 := .slice Tryz.underlying68 (by kernel_rfl) (by decide) isLine


theorem ints_of {h : H} {m : Nat} {cs : List Value} (k : Fits h m (.slice (.int .i64)) cs) : ∃ M : Limits, cs = [.slice M.b M.n M.c] ∧ M.Ok m h := by
 obtain ⟨b, a, n, c, rfl, h1, h2, h3, h4, h5, h6⟩ := k
 have hz : ∀ i, i < n → ∃ z : Int, h.loadN (aadd a i) 1 = some [.int .i64 z] := fun i hi => by
  obtain ⟨l, e1, z, rfl, -⟩ := h6 i hi
  exact ⟨z, by simpa [Sh.size] using e1⟩
 obtain ⟨f, hf⟩ := pick_all (0 : Int) hz
 have hfar : 0 < n → c < far := fun h0 => by
  rcases h2 with h2 | ⟨-, h2⟩
  ·unfold maxLen at h2; unfold far; omega
  ·omega
 exact ⟨⟨n, f, b, a, c⟩, rfl, h3, hf, fun h => (h4 h).1, h5.elim (fun x => .inl x.1) fun x => .inr (x.elim (fun ⟨_, _, y⟩ => .inl (by show far ≤ c; omega)) fun ⟨a', y1, y2, y3, _⟩ => .inr ⟨a', y1, y2, y3⟩), hfar, by
  show n ≤ _
  rcases h2 with h2 | ⟨-, h2⟩
  ·unfold maxLen at h2; omega
  ·omega⟩
theorem line_of {h : H} {m : Nat} {cs : List Value} (k : Fits h m lineSh cs) : ∃ L : Line, cs = L.cells ∧ L.Ok m h := by
 obtain ⟨c1, c2, rfl, k1, c3, c4, rfl, k2, k3⟩ := k
 have k3 : c4 = [] := k3
 subst k3
 obtain ⟨A, rfl, hA⟩ := ints_of k1
 obtain ⟨B, rfl, hB⟩ := ints_of k2
 exact ⟨⟨A.n, A.f, B.n, B.f, A.b, A.a, A.c, B.b, B.a, B.c⟩, rfl, hA.e, hA.i, hA.r, hB.e, hB.i, hB.r, hA.l, hB.l⟩
theorem test_of {h : H} {m : Nat} {cs : List Value} (k : Fits h m testSh cs) : ∃ t : T, cs = t.cells := by
 obtain ⟨zs, rfl, l, -⟩ := fits_ints (k := .i64) (by decide) k
 match zs, l with
 | [a, b, c, d, e, f, g, h, i, j, k, l, m, n, o, p], _ => exact ⟨⟨a, b, c, d, e, f, g, h, i, j, k, l, m, n, o, p⟩, rfl⟩
theorem lines_of' {h : H} {m : Nat} {cs : List Value} (k : Fits h m (.slice lineSh) cs) : ∃ S : Lines, cs = [.slice S.b S.k S.c] ∧ S.Ok m h ∧ S.Flat := by
 have k0 := k
 obtain ⟨b, a, n, c, rfl, h1, h2, h3, h4, h5, h6⟩ := k0
 have hz : ∀ i, i < n → ∃ L : Line, h.loadN (aadd a (i * 2)) 2 = some L.cells ∧ L.Ok m h := fun i hi => by
  obtain ⟨l, e1, k1⟩ := h6 i hi
  obtain ⟨L, rfl, hL⟩ := line_of k1
  exact ⟨L, e1, hL⟩
 obtain ⟨f, hf⟩ := pick_all (⟨0, fun _ => 0, 0, fun _ => 0, none, a, 0, none, a, 0⟩ : Line) hz
 refine ⟨⟨n, f, b, a, c⟩, rfl, ⟨h3, fun i hi => (hf i hi).1, fun h => (h4 h).1, fun i hi => (hf i hi).2, ?_⟩, fun h => (h4 h).2, h1, fun h => ?_⟩
 ·show n ≤ _
  rcases h2 with h2 | ⟨-, h2⟩
  ·unfold maxLen at h2; omega
  ·omega
 ·have h : 0 < n := h
  show c < far
  rcases h2 with h2 | ⟨-, h2⟩
  ·unfold maxLen at h2; unfold far; omega
  ·omega
end AE.T9In
