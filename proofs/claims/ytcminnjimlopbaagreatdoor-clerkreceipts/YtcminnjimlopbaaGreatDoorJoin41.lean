/- Walks and plain laws: ClkDj, ClkYr, ClkCard, ClkFit. -/
import Derived.Test.YtcminnjimlopbaaGreatDoorClkDi
import Derived.Test.YtcminnjimlopbaaGreatDoorClkWk
import Derived.Test.YtcminnjimlopbaaGreatDoorTie
import Derived.Test.YtcminnjimlopbaaGreatDoorCards
import Derived.Test.YtcminnjimlopbaaGreatDoorAEthree
import Derived.Lib.LaidTab
import Derived.ProofKit
import Derived.OpenShut
import Derived.LaidMore
import Derived.Lay
import Derived.SevenTiedAt
import Derived.Stop.Joined
import Derived.Test.YtcminnjimlopbaaGreatDoorRows
import Derived.Test.YtcminnjimlopbaaGreatDoorJoin22
import Derived.KernelRfl
set_option linter.unusedVariables false
set_option linter.unusedSimpArgs false
set_option linter.unusedSectionVars false

/- Clerk, walked: Replay and State of the definitions. -/
namespace AE.Tryz
open Go AE Go.Proofs AE.Clerk
set_option maxRecDepth 100000
set_option linter.unusedVariables false

theorem rReplay_w {h : H} {B : Bk} {m : Nat} (hm : m ≤ h.next) (hB : B.Ok m h) : AW Tryz.prog 14 h.next h [.slice B.b B.n B.c] (fun v h' =>
 (¬ Good B.n B.f ∧ v = .tuple #[.slice none 0 0, .int .i64 (bookErr B.n B.f)]) ∨
 (Good B.n B.f ∧ ∃ r, v = .tuple #[.slice (addrX r B.n) B.n 0, .int .i64 0] ∧ GX r h' 25 1 B.n (outC B.f B.n B.n) ∧ (0 < B.n → h.next ≤ r ∧ r < h'.next))) := by
 refine fun14.call rfl (Nat.le_refl _) ?_
 unfold a14
 (refine byRun ?_)
 apply q_callv
 focus (exact byNext)
 focus (exact byLo)
 focus exact rcheckBook_w (m := m) byOm (hB.same (m' := m) bySame (Nat.le_refl _))
 intro h2 q2 n2
 by_cases hg : Good B.n B.f
 ·rw [bookErr_ok.2 hg]
  (refine byRun ?_)
  apply q_call
  focus (exact byNext)
  focus (exact byLo)
  focus exact Run_w (m := m) byOm (hB.same (m' := m) bySame (Nat.le_refl _)) hg
  rintro v h3 ⟨cs, r, rfl, sq, gx, gr⟩ q3 n3
  obtain ⟨c1, c2, c3, c4, c5, rfl, sr⟩ := sq.rd (Nat.le_refl _)
  unfold stC
  (refine byRun ?_)
  (refine byFin ?_)
  exact .inr ⟨hg, r, rfl, gx.frame fun h0 => get_of fun y hy => by have := gr h0; simp only [put_next, bump_next] at this; (exact byGet), fun h0 => by have := gr h0; simp only [put_next, bump_next] at *; omega⟩
 ·have hne : bookErr B.n B.f ≠ 0 := fun h => hg (bookErr_ok.1 h)
  generalize he : bookErr B.n B.f = e at hne
  (refine byRun ?_)
  apply q_callv
  focus (exact byNext)
  focus (exact byLo)
  focus exact rcheckBook_w (m := m) byOm (hB.same (m' := m) bySame (Nat.le_refl _))
  intro h3 q3 n3
  (refine byRun ?_)
  (refine byFin ?_)
  exact .inl ⟨hg, by rw [he]⟩
theorem StQ.ms {lo hi m : Nat} {h h' : H} {S : SD} {c1 c2 c3 c4 c5 : Option Addr} (k : StQ lo hi h S (stC S c1 c2 c3 c4 c5)) (hs : ∀ q, lo ≤ q → q < hi → h'.get q = h.get q) (hm : hi ≤ m) : RdS m h' 8 S.ms.length (cM S) c1 := by
 obtain ⟨d1, d2, d3, d4, d5, e, sr⟩ := (k.frame hs).rd hm
 have : c1 = d1 := by
  unfold stC at e
  simp only [List.cons.injEq, Value.slice.injEq] at e
  exact e.2.2.1.1
 subst this
 exact sr.m1
theorem rState_w {h : H} {B : Bk} {m : Nat} (hm : m ≤ h.next) (hB : B.Ok m h) : AW Tryz.prog 16 h.next h [.slice B.b B.n B.c] (fun v h' =>
 (¬ Good B.n B.f ∧ v = .tuple #[.agg ⟨[.int .i64 0, .int .i64 0, .slice none 0 0]⟩, .int .i64 (bookErr B.n B.f)]) ∨
 (Good B.n B.f ∧ ∃ b, v = .tuple #[.agg ⟨[.int .i64 (after B.f B.n).stock, .int .i64 (after B.f B.n).lost, .slice b (after B.f B.n).ms.length 0]⟩, .int .i64 0] ∧ ∀ h'', (∀ q, h.next ≤ q → q < h'.next → h''.get q = h'.get q) → RdS h'.next h'' 8 (after B.f B.n).ms.length (cellsOf mC8 (sortM (after B.f B.n).ms)) b)) := by
 refine fun16.call rfl (Nat.le_refl _) ?_
 unfold a16
 (refine byRun ?_)
 apply q_callv
 focus (exact byNext)
 focus (exact byLo)
 focus exact rcheckBook_w (m := m) byOm (hB.same (m' := m) bySame (Nat.le_refl _))
 intro h2 q2 n2
 by_cases hg : Good B.n B.f
 ·rw [bookErr_ok.2 hg]
  (refine byRun ?_)
  apply q_call
  focus (exact byNext)
  focus (exact byLo)
  focus exact Run_w (m := m) byOm (hB.same (m' := m) bySame (Nat.le_refl _)) hg
  rintro v h3 ⟨cs, r, rfl, sq, gx, gr⟩ q3 n3
  obtain ⟨n60, hv⟩ := hg
  have hrel := run_rel (f := B.f) (n := B.n) byO hv
  have r0 := hrel.stock
  have r1 := hrel.lost
  have r2 := hrel.ms
  obtain ⟨c1, c2, c3, c4, c5, rfl, sr⟩ := sq.rd (Nat.le_refl _)
  unfold stC
  rw [r0, r1]
  (refine byRun ?_)
  (refine byFin ?_)
  refine .inr ⟨⟨n60, hv⟩, c1, ?_, ?_⟩
  ·rw [r2, sortM_len]
  intro h'' hh
  rw [show cellsOf mC8 (sortM (after B.f B.n).ms) = cM (runD B.f B.n) by unfold cM; rw [r2], show (after B.f B.n).ms.length = (runD B.f B.n).ms.length by rw [r2, sortM_len]]
  exact sq.ms (fun q h1 h2 => (hh q (by simp only [put_next, bump_next] at *; omega) (by simp only [put_next, bump_next] at *; omega)).trans (get_of fun y hy => by simp only [put_next, bump_next] at h1; (exact byGet))) (by simp only [put_next, bump_next]; omega)
 ·have hne : bookErr B.n B.f ≠ 0 := fun h => hg (bookErr_ok.1 h)
  generalize he : bookErr B.n B.f = e at hne
  (refine byRun ?_)
  apply q_callv
  focus (exact byNext)
  focus (exact byLo)
  focus exact rcheckBook_w (m := m) byOm (hB.same (m' := m) bySame (Nat.le_refl _))
  intro h3 q3 n3
  (refine byRun ?_)
  (refine byFin ?_)
  exact .inl ⟨hg, by rw [he]⟩
end AE.Tryz

/- Clerk, walked: the law Replays. -/
namespace AE.Tryz
open Go AE Go.Proofs AE.Clerk
set_option maxRecDepth 100000
set_option linter.unusedVariables false

theorem sameState_we {h : H} {m c c' n : Nat} {st lo : Int} {l : List Mdl} {b b' : Option Addr} (en : n = l.length) (hm : m ≤ h.next) (k : Rd0 m h n (cellsOf mC8 l) b) (k' : Rd0 m h n (cellsOf mC8 l) b') (hl : n ≤ 1000) :
 AW Tryz.prog 20 h.next h [.agg ⟨[.int .i64 st, .int .i64 lo, .slice b n c]⟩, .agg ⟨[.int .i64 st, .int .i64 lo, .slice b' n c']⟩] (fun v _ => v = .bool true) := by
 subst en
 exact sameState_w hm k k' hl
theorem nil_rd0 {m : Nat} {h : H} {b : Option Addr} : Rd0 m h 0 [] b := fun h => absurd h (Nat.lt_irrefl 0)
theorem nil_ns {m : Nat} {h : H} : Ns.Ok ⟨0, fun _ => 0, none, ⟨0, 0, none⟩, 0⟩ m h := ⟨fun h => absurd h (Nat.lt_irrefl 0), fun i hi => absurd hi (Nat.not_lt_zero i), fun h => absurd h (Nat.lt_irrefl 0), Nat.zero_le _⟩
set_option maxHeartbeats 4000000 in
theorem replays_w {h : H} {B : Bk} {m : Nat} (hm : m ≤ h.next) (hB : B.Ok m h) : AW Tryz.prog 3 h.next h [.slice B.b B.n B.c] (fun v _ => v = .bool true) := by
 have hbl := hB.l
 refine fun3.call rfl (Nat.le_refl _) ?_
 unfold a3
 by_cases h70 : 70 < B.n
 ·(refine byRun ?_)
  apply q_callv
  focus (exact byNext)
  focus (exact byLo)
  focus exact works_w
  intro h2 q2 n2
  (refine byRun ?_)
  (refine byFin ?_)
  rfl
 (refine byRun ?_)
 apply q_call
 focus (exact byNext)
 focus (exact byLo)
 focus exact Replay_w (m := m) byOm (hB.same (m' := m) bySame (Nat.le_refl _))
 rintro v h2 hv q2 n2
 by_cases hg : Good B.n B.f
 ·obtain ⟨re, rfl, ge, re1, re2⟩ := (show ∃ re : Nat, v = .tuple #[.slice (some ⟨re, 0, none⟩) B.n B.n, .int .i64 0] ∧ h2.get re = some (.cells (outC B.f B.n B.n) 25) ∧ _ ≤ re ∧ re < h2.next from hv.elim (fun h => absurd hg h.1) (·.2))
  clear hv
  have h60 := hg.1
  have N1 := outC_ns (m := h2.next) ge re2 byO
  (refine byRun ?_)
  apply q_call
  focus (exact byNext)
  focus (exact byLo)
  focus exact rReplay_w (m := m) byOm (hB.same (m' := m) bySame (Nat.le_refl _))
  rintro v h3 hv q3 n3
  obtain ⟨rd, rfl, gd, gb⟩ := (show ∃ rd, v = .tuple #[.slice (addrX rd B.n) B.n 0, .int .i64 0] ∧ GX rd h3 25 1 B.n (outC B.f B.n B.n) ∧ (0 < B.n → _ ≤ rd ∧ rd < h3.next) from hv.elim (fun h => absurd hg h.1) (·.2))
  clear hv
  obtain ⟨ad, N2⟩ := outC_nsX (m := h3.next) gd (fun h => (gb h).2) byO
  clear gd gb
  (refine byRun ?_)
  apply q_call
  focus (exact byNext)
  focus (exact byLo)
  focus exact State_w (m := m) byOm (hB.same (m' := m) bySame (Nat.le_refl _))
  rintro v h4 hv q4 n4
  unfold StaR at hv
  have ok := after_ok (f := B.f) (n := B.n) byO hg.2
  generalize hS : after B.f B.n = S at hv ok
  obtain ⟨rs, rfl, gs, bs1⟩ := (show ∃ rs : Nat, v = .tuple #[.agg ⟨[.int .i64 S.stock, .int .i64 S.lost, .slice (addrX rs S.ms.length) S.ms.length 0]⟩, .int .i64 0] ∧ GX rs h4 61 8 S.ms.length (cellsOf mC8 (sortM S.ms)) ∧ (0 < S.ms.length → _ ≤ rs ∧ rs < h4.next) from hv.elim (fun h => absurd hg h.1) (·.2))
  clear hv
  have hml := ok.ml
  have bs2 : 0 < S.ms.length → h3.next + 6 ≤ rs ∧ rs < h4.next := fun h0 => by have := bs1 h0; simp only [put_next, bump_next] at this; omega
  clear bs1
  (refine byRun ?_)
  apply q_call
  focus (exact byNext)
  focus (exact byLo)
  focus exact rState_w (m := m) byOm (hB.same (m' := m) bySame (Nat.le_refl _))
  rintro v h5 hv q5 n5
  rw [hS] at hv
  obtain ⟨bt, rfl, kt⟩ := (show ∃ bt, v = .tuple #[.agg ⟨[.int .i64 S.stock, .int .i64 S.lost, .slice bt S.ms.length 0]⟩, .int .i64 0] ∧ ∀ h'', (∀ q, _ ≤ q → q < h5.next → h''.get q = h5.get q) → RdS h5.next h'' 8 S.ms.length (cellsOf mC8 (sortM S.ms)) bt from hv.elim (fun h => absurd hg h.1) (·.2))
  clear hv
  (refine byRun ?_)
  apply q_callv
  focus (exact byNext)
  focus (exact byLo)
  focus exact checkBook_w (m := m) byOm (hB.same (m' := m) bySame (Nat.le_refl _))
  intro h6 q6 n6
  rw [bookErr_ok.2 hg]
  (refine byRun ?_)
  apply q_callv
  focus (exact byNext)
  focus (exact byLo)
  focus exact rcheckBook_w (m := m) byOm (hB.same (m' := m) bySame (Nat.le_refl _))
  intro h7 q7 n7
  rw [bookErr_ok.2 hg]
  (refine byRun ?_)
  apply q_callv
  focus (exact byNext)
  focus (exact byLo)
  focus exact errnos_w (B := ⟨B.n, errAt B.f, some ⟨re, 0, none⟩, ⟨re, 0, none⟩, B.n⟩) (C := ⟨B.n, errAt B.f, addrX rd B.n, ad, 0⟩) (m := h3.next) byOm (N1.same (m' := h3.next) bySame byOm) (N2.same (m' := h3.next) bySame (Nat.le_refl _))
  intro h8 q8 n8
  rw [decide_eq_true (p := (B.n = B.n ∧ SameI B.n (errAt B.f) (errAt B.f))) ⟨rfl, fun i _ => rfl⟩]
  (refine byRun ?_)
  apply q_callv
  focus (exact byNext)
  focus (exact byLo)
  focus exact sameState_we (l := sortM S.ms) (sortM_len S.ms).symm (m := h5.next) byOm (gx_rd (gs.frame fun h0 => get_of fun y hy => by have := bs2 h0; (exact byGet)) (cM8_one _) (fun h0 => by have := bs2 h0; omega) byO).rd0 (kt _ fun q h1 h2 => get_of fun y hy => by simp only [put_next, bump_next] at h1; (exact byGet)).rd0 byO
  intro h9 q9 n9
  (refine byRun ?_)
  apply q_callv
  focus (exact byNext)
  focus (exact byLo)
  focus exact works_w
  intro hw qw nw
  (refine byRun ?_)
  (refine byFin ?_)
  rfl
 ·have e1 : v = .tuple #[.slice none 0 0, .int .i64 (bookErr B.n B.f)] := hv.elim (·.2) (fun h => absurd h.1 hg)
  subst e1
  clear hv
  generalize hbe : bookErr B.n B.f = be
  (refine byRun ?_)
  apply q_call
  focus (exact byNext)
  focus (exact byLo)
  focus exact rReplay_w (m := m) byOm (hB.same (m' := m) bySame (Nat.le_refl _))
  rintro v h3 hv q3 n3
  have e1 : v = .tuple #[.slice none 0 0, .int .i64 (bookErr B.n B.f)] := hv.elim (·.2) (fun h => absurd h.1 hg)
  subst e1
  clear hv
  rw [hbe]
  (refine byRun ?_)
  apply q_call
  focus (exact byNext)
  focus (exact byLo)
  focus exact State_w (m := m) byOm (hB.same (m' := m) bySame (Nat.le_refl _))
  rintro v h4 hv q4 n4
  unfold StaR at hv
  have e1 : v = .tuple #[.agg ⟨[.int .i64 0, .int .i64 0, .slice none 0 0]⟩, .int .i64 (bookErr B.n B.f)] := hv.elim (·.2) (fun h => absurd h.1 hg)
  subst e1
  clear hv
  rw [hbe]
  (refine byRun ?_)
  apply q_call
  focus (exact byNext)
  focus (exact byLo)
  focus exact rState_w (m := m) byOm (hB.same (m' := m) bySame (Nat.le_refl _))
  rintro v h5 hv q5 n5
  have e1 : v = .tuple #[.agg ⟨[.int .i64 0, .int .i64 0, .slice none 0 0]⟩, .int .i64 (bookErr B.n B.f)] := hv.elim (·.2) (fun h => absurd h.1 hg)
  subst e1
  clear hv
  rw [hbe]
  (refine byRun ?_)
  apply q_callv
  focus (exact byNext)
  focus (exact byLo)
  focus exact checkBook_w (m := m) byOm (hB.same (m' := m) bySame (Nat.le_refl _))
  intro h6 q6 n6
  rw [hbe]
  (refine byRun ?_)
  apply q_callv
  focus (exact byNext)
  focus (exact byLo)
  focus exact rcheckBook_w (m := m) byOm (hB.same (m' := m) bySame (Nat.le_refl _))
  intro h7 q7 n7
  rw [hbe]
  (refine byRun ?_)
  apply q_callv
  focus (exact byNext)
  focus (exact byLo)
  focus exact errnos_w (B := ⟨0, fun _ => 0, none, ⟨0, 0, none⟩, 0⟩) (C := ⟨0, fun _ => 0, none, ⟨0, 0, none⟩, 0⟩) (m := 0) (Nat.zero_le _) nil_ns nil_ns
  intro h8 q8 n8
  rw [decide_eq_true (p := ((0 : Nat) = 0 ∧ SameI 0 (fun _ => 0) (fun _ => 0))) ⟨rfl, fun i _ => rfl⟩]
  (refine byRun ?_)
  apply q_callv
  focus (exact byNext)
  focus (exact byLo)
  focus exact sameState_we (l := []) rfl (m := 0) (Nat.zero_le _) nil_rd0 nil_rd0 byO
  intro h9 q9 n9
  (refine byRun ?_)
  apply q_callv
  focus (exact byNext)
  focus (exact byLo)
  focus exact works_w
  intro hw qw nw
  (refine byRun ?_)
  (refine byFin ?_)
  rfl
end AE.Tryz

/- Clerk: from the condition on listed variables to the table that the walks read; the witness; the card. -/
namespace AE.Tryz
open Go Go.Proofs Go.Proofs.YtcminnjimlopbaaGreatDoor AE
set_option maxRecDepth 100000

def laid5 : List (String × DataW Unit) := [("math/bits.deBruijn32tab", Rows.laid_math_bits_deBruijn32tab), ("math/bits.deBruijn64tab", Rows.laid_math_bits_deBruijn64tab), ("internal/strconv.uint64pow10", Rows.laid_internal_strconv_uint64pow10), ("unicode/utf8.acceptRanges", Rows.laid_unicode_utf8_acceptRanges), ("unicode/utf8.first", Rows.laid_unicode_utf8_first)]
theorem laid_tail {P : Program} {W : World} {x : String × DataW Unit} {l : List (String × DataW Unit)} (h : ∃ ps, DataW.LaidVars P W (x :: l) ps) : ∃ ps, DataW.LaidVars P W l ps := by
 obtain ⟨ps, g, t, cs, fuel, p, q, -, -, -, -, h, -⟩ := h
 exact ⟨q, h⟩
theorem g0' : Tryz.prog.globalNamed "internal/strconv.uint64pow10" = some 0 := by kernel_rfl
theorem tabs_of {W : World} (h : laidMetH Tryz.prog laid5 W) : TabsIn W.heap.size W := by
 rw [MakeChecks.laidMetH_plain _ _ _ (by kernel_rfl)] at h
 obtain ⟨ps, hl, -, -⟩ := h
 obtain ⟨ps2, g, t, cs, fuel, p, q, hg, ht, hv, hd, -, -⟩ := laid_tail (laid_tail ⟨ps, hl⟩)
 obtain rfl := Option.some.inj (g0'.symm.trans hg)
 obtain rfl := Option.some.inj ((show (Tryz.prog.globals[0]?).map (·.type) = some 203 by kernel_rfl).symm.trans ht)
 have hc : cs.toList = pow10s.map (Value.int .u64) := Lib.cells_of_tab (zs := pow10s) (n := 20) Tryz.underlying203 Tryz.underlying183 (by kernel_rfl) (by kernel_rfl) hd
 have hcs : cs = ⟨pow10s.map (Value.int .u64)⟩ := by rw [← hc]
 subst hcs
 simp only [World.var?, hg, Option.bind_some] at hv
 intro x hx
 simp only [theTabs, List.mem_singleton] at hx
 subst hx
 split at hv
 ·rename_i a b c e
  simp only [Option.some.injEq] at hv
  subst hv
  exact ⟨(Array.getElem?_eq_some_iff.1 e).1, b, c, e⟩
 ·simp at hv
theorem laid_met (os : Os) (args : Array Value) : laidMetH Tryz.prog laid5 ((World.laidAll Tryz.prog os laid5).forCall (fun _ _ => 0) ⟨#[], args, []⟩).memory := by
 rw [MakeChecks.laidMetH_plain _ _ _ (by kernel_rfl)]
 exact laidMet_laidAll _ (by kernel_rfl) (by kernel_rfl)
end AE.Tryz

/- What comes in, for the clerk's statements: the shapes of the arguments' types, and the values that they hold. -/
namespace AE.ClkIn
open Go Go.Proofs Go.Proofs.YtcminnjimlopbaaGreatDoor AE AE.Tryz AE.Clerk
set_option maxRecDepth 100000

def lnSh : Sh := .cons (.int .i64) (.cons (.int .i64) (.cons (.int .i64) (.cons (.int .i64) .nil)))
def recSh : Sh := .cons (.int .i64) (.cons (.int .i64) (.cons (.slice (.int .i64)) .nil))
theorem isInt : IsSh Tryz.prog (.int .i64) 2 := .int Tryz.underlying2
theorem isI : IsSh Tryz.prog (.int .i64) 3 := .int Tryz.underlying3
theorem isLn : IsSh Tryz.prog lnSh 38 := .struct Tryz.underlying38 (by kernel_rfl) (.cons (by kernel_rfl) (by kernel_rfl) isI (.cons (by kernel_rfl) (by kernel_rfl) isInt (.cons (by kernel_rfl) (by kernel_rfl) isInt (.cons (by kernel_rfl) (by kernel_rfl) isInt .nil))))
theorem isBk : IsSh Tryz.prog (.slice lnSh) 22 := .slice Tryz.underlying22 (by kernel_rfl) (by decide) isLn
theorem isNs : IsSh Tryz.prog (.slice (.int .i64)) 43 := .slice Tryz.underlying43 (by kernel_rfl) (by decide) isInt
theorem isRec : IsSh Tryz.prog recSh 45 := .struct Tryz.underlying45 (by kernel_rfl) (.cons (by kernel_rfl) (by kernel_rfl) isI (.cons (by kernel_rfl) (by kernel_rfl) isI (.cons (by kernel_rfl) (by kernel_rfl) isNs .nil)))
theorem ln_of {h : H} {m : Nat} {cs : List Value} (k : Fits h m lnSh cs) : ∃ x : Ln, cs = x.cells := by
 obtain ⟨zs, rfl, l, -⟩ := fits_ints (k := .i64) (by decide) k
 match zs, l with
 | [a, b, c, d], _ => exact ⟨⟨a, b, c, d⟩, rfl⟩
theorem far_max {c n : Nat} (h2 : c ≤ maxLen ∨ (far ≤ c ∧ n = 0)) (h : 0 < n) : c < far := by
 rcases h2 with h2 | h2
 ·unfold maxLen at h2; unfold far; omega
 ·omega
theorem bk_of {h : H} {m : Nat} {cs : List Value} (k : Fits h m (.slice lnSh) cs) : ∃ B : Bk, cs = [.slice B.b B.n B.c] ∧ B.Ok m h := by
 obtain ⟨b, a, n, c, rfl, h1, h2, h3, h4, h5, h6⟩ := k
 have hz : ∀ i, i < n → ∃ x : Ln, h.loadN (aadd a (i * 4)) 4 = some x.cells := fun i hi => by
  obtain ⟨l, e1, k1⟩ := h6 i hi
  obtain ⟨x, rfl⟩ := ln_of k1
  exact ⟨x, e1⟩
 obtain ⟨f, hf⟩ := pick_all (⟨0, 0, 0, 0⟩ : Ln) hz
 exact ⟨⟨n, f, b, a, c⟩, rfl, h3, hf, fun h => (h4 h).1, by
  show n ≤ _
  rcases h2 with h2 | ⟨-, h2⟩
  ·unfold maxLen at h2; omega
  ·omega, fun h => .inl ⟨(h4 h).2, h1, far_max h2 h⟩⟩
structure RecIn (h : H) (m : Nat) (i n : Int) (ys : List Int) (b : Option Addr) (a : Addr) (c : Nat) : Prop where
 i : -9223372036854775808 ≤ i ∧ i ≤ 9223372036854775807
 n : -9223372036854775808 ≤ n ∧ n ≤ 9223372036854775807
 l : ys.length ≤ 9223372036854775807
 k : NumL m h ys b a c
 g : 0 < ys.length → SlG a ys.length c
theorem i64_of {h : H} {m : Nat} {v : Value} (k : Fits h m (.int .i64) [v]) : ∃ n : Int, v = .int .i64 n ∧ -9223372036854775808 ≤ n ∧ n ≤ 9223372036854775807 := by
 obtain ⟨n, e, h1, h2⟩ := k
 simp only [IntKind.min, IntKind.max, IntKind.signed, IntKind.bits] at h1 h2
 simp at h1 h2 e
 exact ⟨n, e, h1, by omega⟩
theorem rec_of {h : H} {m : Nat} {cs : List Value} (k : Fits h m recSh cs) : ∃ x : Int × Int × List Int × Option Addr × Addr × Nat, cs = [.int .i64 x.1, .int .i64 x.2.1, .slice x.2.2.2.1 x.2.2.1.length x.2.2.2.2.2] ∧ RecIn h m x.1 x.2.1 x.2.2.1 x.2.2.2.1 x.2.2.2.2.1 x.2.2.2.2.2 := by
 obtain ⟨c1, c2, rfl, k1, c3, c4, rfl, k2, c5, c6, rfl, k3, k4⟩ := k
 have k4 : c6 = [] := k4
 subst k4
 obtain ⟨i, rfl, -⟩ := id k1
 obtain ⟨n0, rfl, -⟩ := id k2
 obtain ⟨i', e1, b1⟩ := i64_of k1
 obtain ⟨n', e2, b2⟩ := i64_of k2
 simp only [Value.int.injEq, true_and] at e1 e2
 subst e1 e2
 obtain ⟨b, a, n, c, rfl, h1, h2, h3, h4, h5, h6⟩ := k3
 have hz : ∀ j, j < n → ∃ z : Int, h.loadN (aadd a (j * 1)) 1 = some [.int .i64 z] := fun j hj => by
  obtain ⟨l, e1, ⟨z, rfl, -⟩⟩ := h6 j hj
  exact ⟨z, e1⟩
 obtain ⟨f, hf⟩ := pick_all (0 : Int) hz
 have hl : ((List.range n).map f).length = n := by simp
 have R : RecIn h m i n0 ((List.range n).map f) b a c := by
  refine ⟨b1, b2, ?_, ⟨fun h => h3 byO, fun j hj => ?_, fun h => (h4 byO).1⟩, fun h => ?_⟩
  ·rw [hl]
   rcases h2 with h2 | ⟨-, h2⟩
   ·unfold maxLen at h2; omega
   ·omega
  ·have := hf j byO
   rw [Nat.mul_one] at this
   rw [this]
   simp [List.getD_eq_getElem?_getD, show j < n by omega]
  ·rw [hl] at h ⊢
   exact .inl ⟨(h4 h).2, h1, far_max h2 h⟩
 exact ⟨(i, n0, (List.range n).map f, b, a, c), by simp, R⟩
end AE.ClkIn
