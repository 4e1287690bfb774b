/- Walks and plain laws: ClkCard, ClkFit. -/
import Derived.Test.YtcminnjimlopbaaGreatDoorTie
import Derived.Test.YtcminnjimlopbaaGreatDoorCards
import Derived.Test.YtcminnjimlopbaaGreatDoorAEthree
import Derived.Lib.LaidTab
import Derived.ProofKit
import Derived.OpenShut
import Derived.LaidMore
import Derived.Lay
import Derived.SevenTiedAt
import Derived.Stop.Joined
import Derived.Test.YtcminnjimlopbaaGreatDoorRows
import Derived.Test.YtcminnjimlopbaaGreatDoorJoin44
import Derived.KernelRfl
set_option linter.unusedVariables false
set_option linter.unusedSimpArgs false
set_option linter.unusedSectionVars false

/- Clerk: from the condition on listed variables to the table that the walks read; the witness; the card. -/
namespace AE.Tryz
open Go Go.Proofs Go.Proofs.YtcminnjimlopbaaGreatDoor AE
set_option maxRecDepth 100000

def laid5 : List (String × DataW Unit) := [("math/bits.deBruijn32tab", Rows.laid_math_bits_deBruijn32tab), ("math/bits.deBruijn64tab", Rows.laid_math_bits_deBruijn64tab), ("internal/strconv.uint64pow10", Rows.laid_internal_strconv_uint64pow10), ("unicode/utf8.acceptRanges", Rows.laid_unicode_utf8_acceptRanges), ("unicode/utf8.first", Rows.laid_unicode_utf8_first)]
theorem laid_tail {P : Program} {W : World} {x : String × DataW Unit} {l : List (String × DataW Unit)} (h : ∃ ps, DataW.LaidVars P W (x :: l) ps) : ∃ ps, DataW.LaidVars P W l ps := by
 obtain ⟨ps, g, t, cs, fuel, p, q, -, -, -, -, h, -⟩ := h
 exact ⟨q, h⟩
theorem g0' : Tryz.prog.globalNamed "internal/strconv.uint64pow10" = some 0 := by kernel_rfl
theorem tabs_of {W : World} (h : laidMetH Tryz.prog laid5 W) : TabsIn W.heap.size W := by
 rw [MakeChecks.laidMetH_plain _ _ _ (by kernel_rfl)] at h
 obtain ⟨ps, hl, -, -⟩ := h
 obtain ⟨ps2, g, t, cs, fuel, p, q, hg, ht, hv, hd, -, -⟩ := laid_tail (laid_tail ⟨ps, hl⟩)
 obtain rfl := Option.some.inj (g0'.symm.trans hg)
 obtain rfl := Option.some.inj ((show (Tryz.prog.globals[0]?).map (·.type) = some 203 by kernel_rfl).symm.trans ht)
 have hc : cs.toList = pow10s.map (Value.int .u64) := Lib.cells_of_tab (zs := pow10s) (n := 20) Tryz.underlying203 Tryz.underlying183 (by kernel_rfl) (by kernel_rfl) hd
 have hcs : cs = ⟨pow10s.map (Value.int .u64)⟩ := by rw [← hc]
 subst hcs
 simp only [World.var?, hg, Option.bind_some] at hv
 intro x hx
 simp only [theTabs, List.mem_singleton] at hx
 subst hx
 split at hv
 ·rename_i a b c e
  simp only [Option.some.injEq] at hv
  subst hv
  exact ⟨(Array.getElem?_eq_some_iff.1 e).1, b, c, e⟩
 ·simp at hv
theorem laid_met (os : Os) (args : Array Value) : laidMetH Tryz.prog laid5 ((World.laidAll Tryz.prog os laid5).forCall (fun _ _ => 0) ⟨#[], args, []⟩).memory := by
 rw [MakeChecks.laidMetH_plain _ _ _ (by kernel_rfl)]
 exact laidMet_laidAll _ (by kernel_rfl) (by kernel_rfl)
end AE.Tryz

/- What comes in, for the clerk's statements: the shapes of the arguments' types, and the values that they hold. -/
namespace AE.ClkIn
open Go Go.Proofs Go.Proofs.YtcminnjimlopbaaGreatDoor AE AE.Tryz AE.Clerk
set_option maxRecDepth 100000

def lnSh : Sh := .cons (.int .i64) (.cons (.int .i64) (.cons (.int .i64) (.cons (.int .i64) .nil)))
theorem isInt : IsSh Tryz.prog (.int .i64) 2 := .int Tryz.underlying2
theorem isI : IsSh Tryz.prog (.int .i64) 3 := .int Tryz.underlying3
theorem isU8 : IsSh Tryz.prog (.int .u8) 5 := .int Tryz.underlying5
theorem isStr : IsSh Tryz.prog .str 9 := .str Tryz.underlying9
theorem isU16 : IsSh Tryz.prog (.int .u16) 64 := .int Tryz.underlying64
theorem isU32 : IsSh Tryz.prog (.int .u32) 57 := .int Tryz.underlying57
theorem isLn : IsSh Tryz.prog lnSh 38 := .struct Tryz.underlying38 (by kernel_rfl) (.cons (by kernel_rfl) (by kernel_rfl) isI (.cons (by kernel_rfl) (by kernel_rfl) isInt (.cons (by kernel_rfl) (by kernel_rfl) isInt (.cons (by kernel_rfl) (by kernel_rfl) isInt .nil))))
theorem isBk : IsSh Tryz.prog (.slice lnSh) 22 := .slice Tryz.underlying22 (by kernel_rfl) (by decide) isLn
theorem ln_of {h : H} {m : Nat} {cs : List Value} (k : Fits h m lnSh cs) : ∃ x : Ln, cs = x.cells := by
 obtain ⟨zs, rfl, l, -⟩ := fits_ints (k := .i64) (by decide) k
 match zs, l with
 | [a, b, c, d], _ => exact ⟨⟨a, b, c, d⟩, rfl⟩
theorem far_max {c n : Nat} (h2 : c ≤ maxLen ∨ (far ≤ c ∧ n = 0)) (h : 0 < n) : c < far := by
 rcases h2 with h2 | h2
 ·unfold maxLen at h2; unfold far; omega
 ·omega
theorem bk_of {h : H} {m : Nat} {cs : List Value} (k : Fits h m (.slice lnSh) cs) : ∃ B : Bk, cs = [.slice B.b B.n B.c] ∧ B.Ok m h := by
 obtain ⟨b, a, n, c, rfl, h1, h2, h3, h4, h5, h6⟩ := k
 have hz : ∀ i, i < n → ∃ x : Ln, h.loadN (aadd a (i * 4)) 4 = some x.cells := fun i hi => by
  obtain ⟨l, e1, k1⟩ := h6 i hi
  obtain ⟨x, rfl⟩ := ln_of k1
  exact ⟨x, e1⟩
 obtain ⟨f, hf⟩ := pick_all (⟨0, 0, 0, 0⟩ : Ln) hz
 exact ⟨⟨n, f, b, a, c⟩, rfl, h3, hf, fun h => (h4 h).1, by
  show n ≤ _
  rcases h2 with h2 | ⟨-, h2⟩
  ·unfold maxLen at h2; omega
  ·omega, fun h => .inl ⟨(h4 h).2, h1, far_max h2 h⟩⟩
theorem str_of {h : H} {m : Nat} {v : Value} (k : Fits h m .str [v]) : ∃ s : ByteArray, v = .string s ∧ s.size ≤ 9223372036854775807 := by
 obtain ⟨s, e, h1⟩ := k
 unfold maxLen at h1
 simp at e
 exact ⟨s, e, by omega⟩
theorem u8_of {h : H} {m : Nat} {v : Value} (k : Fits h m (.int .u8) [v]) : ∃ n : Int, v = .int .u8 n ∧ 0 ≤ n ∧ n < 256 := by
 obtain ⟨n, e, h1, h2⟩ := k
 simp only [IntKind.min, IntKind.max, IntKind.signed, IntKind.bits] at h1 h2
 simp at h1 h2 e
 exact ⟨n, e, h1, by omega⟩
theorem u16_of {h : H} {m : Nat} {v : Value} (k : Fits h m (.int .u16) [v]) : ∃ n : Int, v = .int .u16 n ∧ 0 ≤ n ∧ n < 65536 := by
 obtain ⟨n, e, h1, h2⟩ := k
 simp only [IntKind.min, IntKind.max, IntKind.signed, IntKind.bits] at h1 h2
 simp at h1 h2 e
 exact ⟨n, e, h1, by omega⟩
theorem u32_of {h : H} {m : Nat} {v : Value} (k : Fits h m (.int .u32) [v]) : ∃ n : Int, v = .int .u32 n ∧ 0 ≤ n ∧ n < 4294967296 := by
 obtain ⟨n, e, h1, h2⟩ := k
 simp only [IntKind.min, IntKind.max, IntKind.signed, IntKind.bits] at h1 h2
 simp at h1 h2 e
 exact ⟨n, e, h1, by omega⟩
end AE.ClkIn
