/- Walks and plain laws: ClkYe, ClkCard, ClkFit. -/
import Derived.Test.YtcminnjimlopbaaGreatDoorClkWk
import Derived.Test.YtcminnjimlopbaaGreatDoorJoin39
import Derived.Test.YtcminnjimlopbaaGreatDoorTie
import Derived.Test.YtcminnjimlopbaaGreatDoorCards
import Derived.Test.YtcminnjimlopbaaGreatDoorAEthree
import Derived.Lib.LaidTab
import Derived.ProofKit
import Derived.OpenShut
import Derived.LaidMore
import Derived.Lay
import Derived.SevenTiedAt
import Derived.Stop.Joined
import Derived.Test.YtcminnjimlopbaaGreatDoorRows
import Derived.Test.YtcminnjimlopbaaGreatDoorJoin21
import Derived.KernelRfl
set_option linter.unusedVariables false
set_option linter.unusedSimpArgs false
set_option linter.unusedSectionVars false

/- Clerk, walked: the law Seals. -/
namespace AE.Tryz
open Go AE Go.Proofs AE.Clerk
set_option maxRecDepth 100000
set_option linter.unusedVariables false

theorem NumL.ns {m : Nat} {h : H} {l : List Int} {b : Option Addr} {a : Addr} {c : Nat} (k : NumL m h l b a c) (hl : l.length ≤ 9223372036854775807) : Ns.Ok ⟨l.length, fun i => l.getD i 0, b, a, c⟩ m h := ⟨k.e, k.i, k.r, hl⟩
theorem nil_ns2 {m : Nat} {h : H} : Ns.Ok ⟨0, fun _ => 0, none, ⟨0, 0, none⟩, 0⟩ m h := ⟨fun h => absurd h (Nat.lt_irrefl 0), fun i hi => absurd hi (Nat.not_lt_zero i), fun h => absurd h (Nat.lt_irrefl 0), Nat.zero_le _⟩
set_option maxHeartbeats 4000000 in
theorem seals_w {h : H} {B : Bk} {x : Ln} {m : Nat} {i : Int} (hm : m ≤ h.next) (hB : B.Ok m h) (hi : -9223372036854775808 ≤ i ∧ i ≤ 9223372036854775807) : AW Tryz.prog 4 h.next h [.agg ⟨x.cells⟩, .slice B.b B.n B.c, .int .i64 i] (fun v _ => v = .bool true) := by
 have hbl := hB.l
 refine fun4.call rfl (Nat.le_refl _) ?_
 unfold a4 Ln.cells
 by_cases h70 : 70 < B.n
 ·(refine byRunP ?_)
  apply q_callv
  focus (exact byNext)
  focus (exact byLo)
  focus exact works_w
  intro h2 q2 n2
  (refine byRunP ?_)
  (refine byFin ?_)
  rfl
 obtain ⟨T, te, hT⟩ : ∃ T te, textR x = .tuple #[.string T, .int .i64 te] := by
  unfold textR
  split
  ·exact ⟨_, _, rfl⟩
  ·exact ⟨_, _, rfl⟩
 (refine byRunP ?_)
 apply q_callv
 focus (exact byNext)
 focus (exact byLo)
 focus exact text_api (x := x)
 intro h2 q2 n2
 rw [hT]
 (refine byRunP ?_)
 apply q_callv
 focus (exact byNext)
 focus (exact byLo)
 focus exact rtext_api (x := x)
 intro h3 q3 n3
 rw [hT]
 generalize hR : (if Good B.n B.f then root B.f 0 B.n else 0) = R
 generalize hE : bookErr B.n B.f = E
 have hRR : rootR B.n B.f = .tuple #[.int .i64 R, .int .i64 E] := by unfold rootR; rw [hR, hE]
 (refine byRunP ?_)
 apply q_callv
 focus (exact byNext)
 focus (exact byLo)
 focus exact root_api (m := m) byOm (hB.same (m' := m) bySame (Nat.le_refl _))
 intro h4 q4 n4
 rw [hRR]
 (refine byRunP ?_)
 apply q_callv
 focus (exact byNext)
 focus (exact byLo)
 focus exact rroot_api (m := m) byOm (hB.same (m' := m) bySame (Nat.le_refl _))
 intro h5 q5 n5
 rw [hRR]
 (refine byRunP ?_)
 apply q_call
 focus (exact byNext)
 focus (exact byLo)
 focus exact receipt_w (i := i) (m := m) byOm (hB.same (m' := m) bySame (Nat.le_refl _)) hi
 rintro v h6 hv q6 n6
 by_cases hin : Good B.n B.f ∧ (0 ≤ i ∧ i < B.n)
 ·unfold RecR at hv
  rw [if_pos hin.1, if_pos hin.2] at hv
  obtain ⟨b, a, c, rfl, nl, -, sg⟩ := hv
  have hl60 : (besideL B.f B.n i.toNat).length ≤ 60 := by rw [besideL_len]; have := parts_len (a := 0) (n := B.n) (i := i.toNat) byO; have := hin.1.1; omega
  have sgl : 0 < (besideL B.f B.n i.toNat).length → h5.next + 8 ≤ a.block ∧ a.block < h6.next := fun h => by have := (sg h).1; have := nl.r h; simp only [put_next, bump_next] at *; omega
  clear sg
  generalize hLL : besideL B.f B.n i.toNat = L at *
  (refine byRunP ?_)
  apply q_call
  focus (exact byNext)
  focus (exact byLo)
  focus exact rreceipt_w (i := i) (m := m) byOm (hB.same (m' := m) bySame (Nat.le_refl _)) hi
  rintro v h7 hv q7 n7
  unfold RecR at hv
  rw [if_pos hin.1, if_pos hin.2, hLL] at hv
  obtain ⟨b', a', c', rfl, nl', -, sg'⟩ := hv
  have sgl' : 0 < L.length → h6.next + 7 ≤ a'.block ∧ a'.block < h7.next := fun h => by have := (sg' h).1; have := nl'.r h; simp only [put_next, bump_next] at *; omega
  clear sg'
  (refine byRunS ?_)
  apply q_callv
  focus (exact byNext)
  focus (exact byLo)
  focus exact longs_w (B := ⟨L.length, fun i => L.getD i 0, b, a, c⟩) (C := ⟨L.length, fun i => L.getD i 0, b', a', c'⟩) (m := h7.next) byOm ((nl.get' (fun h => get_of fun y hy => by have := sgl h; (exact byGet)) (fun h => by have := sgl h; omega)).ns byO) ((nl'.get' (fun h => get_of fun y hy => by have := sgl' h; (exact byGet)) (fun h => (sgl' h).2)).ns byO)
  intro h8 q8 n8
  rw [decide_eq_true (p := (L.length = L.length ∧ SameI L.length (fun i => L.getD i 0) (fun i => L.getD i 0))) ⟨rfl, fun i _ => rfl⟩]
  (refine byRunS ?_)
  apply q_callv
  focus (exact byNext)
  focus (exact byLo)
  focus exact works_w
  intro hw qw nw
  (refine byRunP ?_)
  (refine byFin ?_)
  rfl
 ·obtain ⟨e, he⟩ : ∃ e : Int, ∀ v : Value, ∀ h' : H, ∀ lo, RecR lo B.n B.f i v h' → v = noRec e := by
   by_cases hg : Good B.n B.f
   ·refine ⟨3, fun v h' lo hv => ?_⟩
    unfold RecR at hv
    rw [if_pos hg, if_neg (fun h => hin ⟨hg, h⟩)] at hv
    exact hv
   ·refine ⟨bookErr B.n B.f, fun v h' lo hv => ?_⟩
    unfold RecR at hv
    rw [if_neg hg] at hv
    exact hv
  have e1 := he v h6 _ hv
  subst e1
  clear hv
  unfold noRec at he ⊢
  (refine byRunP ?_)
  apply q_call
  focus (exact byNext)
  focus (exact byLo)
  focus exact rreceipt_w (i := i) (m := m) byOm (hB.same (m' := m) bySame (Nat.le_refl _)) hi
  rintro v h7 hv q7 n7
  have e1 := he v h7 _ hv
  subst e1
  clear hv
  (refine byRunS ?_)
  apply q_callv
  focus (exact byNext)
  focus (exact byLo)
  focus exact longs_w (B := ⟨0, fun _ => 0, none, ⟨0, 0, none⟩, 0⟩) (C := ⟨0, fun _ => 0, none, ⟨0, 0, none⟩, 0⟩) (m := 0) (Nat.zero_le _) nil_ns2 nil_ns2
  intro h8 q8 n8
  rw [decide_eq_true (p := ((0 : Nat) = 0 ∧ SameI 0 (fun _ => 0) (fun _ => 0))) ⟨rfl, fun i _ => rfl⟩]
  (refine byRunS ?_)
  apply q_callv
  focus (exact byNext)
  focus (exact byLo)
  focus exact works_w
  intro hw qw nw
  (refine byRunP ?_)
  (refine byFin ?_)
  rfl
end AE.Tryz

/- Clerk: from the condition on listed variables to the table that the walks read; the witness; the card. -/
namespace AE.Tryz
open Go Go.Proofs Go.Proofs.YtcminnjimlopbaaGreatDoor AE
set_option maxRecDepth 100000

def laid5 : List (String × DataW Unit) := [("math/bits.deBruijn32tab", Rows.laid_math_bits_deBruijn32tab), ("math/bits.deBruijn64tab", Rows.laid_math_bits_deBruijn64tab), ("internal/strconv.uint64pow10", Rows.laid_internal_strconv_uint64pow10), ("unicode/utf8.acceptRanges", Rows.laid_unicode_utf8_acceptRanges), ("unicode/utf8.first", Rows.laid_unicode_utf8_first)]
theorem laid_tail {P : Program} {W : World} {x : String × DataW Unit} {l : List (String × DataW Unit)} (h : ∃ ps, DataW.LaidVars P W (x :: l) ps) : ∃ ps, DataW.LaidVars P W l ps := by
 obtain ⟨ps, g, t, cs, fuel, p, q, -, -, -, -, h, -⟩ := h
 exact ⟨q, h⟩
theorem g0' : Tryz.prog.globalNamed "internal/strconv.uint64pow10" = some 0 := by kernel_rfl
theorem tabs_of {W : World} (h : laidMetH Tryz.prog laid5 W) : TabsIn W.heap.size W := by
 rw [MakeChecks.laidMetH_plain _ _ _ (by kernel_rfl)] at h
 obtain ⟨ps, hl, -, -⟩ := h
 obtain ⟨ps2, g, t, cs, fuel, p, q, hg, ht, hv, hd, -, -⟩ := laid_tail (laid_tail ⟨ps, hl⟩)
 obtain rfl := Option.some.inj (g0'.symm.trans hg)
 obtain rfl := Option.some.inj ((show (Tryz.prog.globals[0]?).map (·.type) = some 203 by kernel_rfl).symm.trans ht)
 have hc : cs.toList = pow10s.map (Value.int .u64) := Lib.cells_of_tab (zs := pow10s) (n := 20) Tryz.underlying203 Tryz.underlying183 (by kernel_rfl) (by kernel_rfl) hd
 have hcs : cs = ⟨pow10s.map (Value.int .u64)⟩ := by rw [← hc]
 subst hcs
 simp only [World.var?, hg, Option.bind_some] at hv
 intro x hx
 simp only [theTabs, List.mem_singleton] at hx
 subst hx
 split at hv
 ·rename_i a b c e
  simp only [Option.some.injEq] at hv
  subst hv
  exact ⟨(Array.getElem?_eq_some_iff.1 e).1, b, c, e⟩
 ·simp at hv
theorem laid_met (os : Os) (args : Array Value) : laidMetH Tryz.prog laid5 ((World.laidAll Tryz.prog os laid5).forCall (fun _ _ => 0) ⟨#[], args, []⟩).memory := by
 rw [MakeChecks.laidMetH_plain _ _ _ (by kernel_rfl)]
 exact laidMet_laidAll _ (by kernel_rfl) (by kernel_rfl)
end AE.Tryz

/- What comes in, for the clerk's statements: the shapes of the arguments' types, and the values that they hold. -/
namespace AE.ClkIn
open Go Go.Proofs Go.Proofs.YtcminnjimlopbaaGreatDoor AE AE.Tryz AE.Clerk
set_option maxRecDepth 100000

def lnSh : Sh := .cons (.int .i64) (.cons (.int .i64) (.cons (.int .i64) (.cons (.int .i64) .nil)))
def recSh : Sh := .cons (.int .i64) (.cons (.int .i64) (.cons (.slice (.int .i64)) .nil))
theorem isInt : IsSh Tryz.prog (.int .i64) 2 := .int Tryz.underlying2
theorem isI : IsSh Tryz.prog (.int .i64) 3 := .int Tryz.underlying3
theorem isStr : IsSh Tryz.prog .str 9 := .str Tryz.underlying9
theorem isLn : IsSh Tryz.prog lnSh 38 := .struct Tryz.underlying38 (by kernel_rfl) (.cons (by kernel_rfl) (by kernel_rfl) isI (.cons (by kernel_rfl) (by kernel_rfl) isInt (.cons (by kernel_rfl) (by kernel_rfl) isInt (.cons (by kernel_rfl) (by kernel_rfl) isInt .nil))))
theorem isBk : IsSh Tryz.prog (.slice lnSh) 22 := .slice Tryz.underlying22 (by kernel_rfl) (by decide) isLn
theorem isNs : IsSh Tryz.prog (.slice (.int .i64)) 43 := .slice Tryz.underlying43 (by kernel_rfl) (by decide) isInt
theorem isRec : IsSh Tryz.prog recSh 45 := .struct Tryz.underlying45 (by kernel_rfl) (.cons (by kernel_rfl) (by kernel_rfl) isI (.cons (by kernel_rfl) (by kernel_rfl) isI (.cons (by kernel_rfl) (by kernel_rfl) isNs .nil)))
theorem ln_of {h : H} {m : Nat} {cs : List Value} (k : Fits h m lnSh cs) : ∃ x : Ln, cs = x.cells := by
 obtain ⟨zs, rfl, l, -⟩ := fits_ints (k := .i64) (by decide) k
 match zs, l with
 | [a, b, c, d], _ => exact ⟨⟨a, b, c, d⟩, rfl⟩
theorem far_max {c n : Nat} (h2 : c ≤ maxLen ∨ (far ≤ c ∧ n = 0)) (h : 0 < n) : c < far := by
 rcases h2 with h2 | h2
 ·unfold maxLen at h2; unfold far; omega
 ·omega
theorem bk_of {h : H} {m : Nat} {cs : List Value} (k : Fits h m (.slice lnSh) cs) : ∃ B : Bk, cs = [.slice B.b B.n B.c] ∧ B.Ok m h := by
 obtain ⟨b, a, n, c, rfl, h1, h2, h3, h4, h5, h6⟩ := k
 have hz : ∀ i, i < n → ∃ x : Ln, h.loadN (aadd a (i * 4)) 4 = some x.cells := fun i hi => by
  obtain ⟨l, e1, k1⟩ := h6 i hi
  obtain ⟨x, rfl⟩ := ln_of k1
  exact ⟨x, e1⟩
 obtain ⟨f, hf⟩ := pick_all (⟨0, 0, 0, 0⟩ : Ln) hz
 exact ⟨⟨n, f, b, a, c⟩, rfl, h3, hf, fun h => (h4 h).1, by
  show n ≤ _
  rcases h2 with h2 | ⟨-, h2⟩
  ·unfold maxLen at h2; omega
  ·omega, fun h => .inl ⟨(h4 h).2, h1, far_max h2 h⟩⟩
structure RecIn (h : H) (m : Nat) (i n : Int) (ys : List Int) (b : Option Addr) (a : Addr) (c : Nat) : Prop where
 i : -9223372036854775808 ≤ i ∧ i ≤ 9223372036854775807
 n : -9223372036854775808 ≤ n ∧ n ≤ 9223372036854775807
 l : ys.length ≤ 9223372036854775807
 k : NumL m h ys b a c
 g : 0 < ys.length → SlG a ys.length c
theorem i64_of {h : H} {m : Nat} {v : Value} (k : Fits h m (.int .i64) [v]) : ∃ n : Int, v = .int .i64 n ∧ -9223372036854775808 ≤ n ∧ n ≤ 9223372036854775807 := by
 obtain ⟨n, e, h1, h2⟩ := k
 simp only [IntKind.min, IntKind.max, IntKind.signed, IntKind.bits] at h1 h2
 simp at h1 h2 e
 exact ⟨n, e, h1, by omega⟩
theorem rec_of {h : H} {m : Nat} {cs : List Value} (k : Fits h m recSh cs) : ∃ x : Int × Int × List Int × Option Addr × Addr × Nat, cs = [.int .i64 x.1, .int .i64 x.2.1, .slice x.2.2.2.1 x.2.2.1.length x.2.2.2.2.2] ∧ RecIn h m x.1 x.2.1 x.2.2.1 x.2.2.2.1 x.2.2.2.2.1 x.2.2.2.2.2 := by
 obtain ⟨c1, c2, rfl, k1, c3, c4, rfl, k2, c5, c6, rfl, k3, k4⟩ := k
 have k4 : c6 = [] := k4
 subst k4
 obtain ⟨i, rfl, -⟩ := id k1
 obtain ⟨n0, rfl, -⟩ := id k2
 obtain ⟨i', e1, b1⟩ := i64_of k1
 obtain ⟨n', e2, b2⟩ := i64_of k2
 simp only [Value.int.injEq, true_and] at e1 e2
 subst e1 e2
 obtain ⟨b, a, n, c, rfl, h1, h2, h3, h4, h5, h6⟩ := k3
 have hz : ∀ j, j < n → ∃ z : Int, h.loadN (aadd a (j * 1)) 1 = some [.int .i64 z] := fun j hj => by
  obtain ⟨l, e1, ⟨z, rfl, -⟩⟩ := h6 j hj
  exact ⟨z, e1⟩
 obtain ⟨f, hf⟩ := pick_all (0 : Int) hz
 have hl : ((List.range n).map f).length = n := by simp
 have R : RecIn h m i n0 ((List.range n).map f) b a c := by
  refine ⟨b1, b2, ?_, ⟨fun h => h3 byO, fun j hj => ?_, fun h => (h4 byO).1⟩, fun h => ?_⟩
  ·rw [hl]
   rcases h2 with h2 | ⟨-, h2⟩
   ·unfold maxLen at h2; omega
   ·omega
  ·have := hf j byO
   rw [Nat.mul_one] at this
   rw [this]
   simp [List.getD_eq_getElem?_getD, show j < n by omega]
  ·rw [hl] at h ⊢
   exact .inl ⟨(h4 h).2, h1, far_max h2 h⟩
 exact ⟨(i, n0, (List.range n).map f, b, a, c), by simp, R⟩
theorem str_of {h : H} {m : Nat} {v : Value} (k : Fits h m .str [v]) : ∃ s : ByteArray, v = .string s ∧ s.size ≤ 9223372036854775807 := by
 obtain ⟨s, e, h1⟩ := k
 unfold maxLen at h1
 simp at e
 exact ⟨s, e, by omega⟩
end AE.ClkIn
