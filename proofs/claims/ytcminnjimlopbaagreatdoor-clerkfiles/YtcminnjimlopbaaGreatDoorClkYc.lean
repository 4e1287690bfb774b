/- Clerk, walked: the law Receipts. -/
import Derived.Test.YtcminnjimlopbaaGreatDoorClkWk
import Derived.Test.YtcminnjimlopbaaGreatDoorJoin29
set_option linter.unusedVariables false
set_option linter.unusedSimpArgs false
set_option linter.unusedSectionVars false
namespace AE.Tryz
open Go AE Go.Proofs AE.Clerk AE.ClkIn
set_option maxRecDepth 100000
set_option linter.unusedVariables false

theorem receipts_w {h : H} {m : Nat} {sl : Int} {x : Ln} {i n : Int} {ys : List Int} {b : Option Addr} {a : Addr} {c : Nat} (hm : m ≤ h.next) (k : RecIn h m i n ys b a c) :
 AW Tryz.prog 5 h.next h [.int .i64 sl, .agg ⟨x.cells⟩, .agg ⟨[.int .i64 i, .int .i64 n, .slice b ys.length c]⟩] (fun v _ => v = .bool true) := by
 obtain ⟨b1, b2, l1, k1, g1⟩ := k
 refine fun5.call rfl (Nat.le_refl _) ?_
 unfold a5 Ln.cells
 by_cases h20 : 20 < ys.length
 ·(refine byRun ?_)
  apply q_callv
  focus (exact byNext)
  focus (exact byLo)
  focus exact works_w
  intro h2 q2 n2
  (refine byRun ?_)
  (refine byFin ?_)
  rfl
 (refine byRun ?_)
 apply q_callv
 focus (exact byNext)
 focus (exact byLo)
 focus exact checkReceipt_w (x := x) (m := m) byOm b1 b2 l1 (k1.same (m' := m) bySame (Nat.le_refl _))
 intro h2 q2 n2
 (refine byRun ?_)
 apply q_callv
 focus (exact byNext)
 focus (exact byLo)
 focus exact rcheckReceipt_w (x := x) (m := m) byOm b1 b2 l1 (k1.same (m' := m) bySame (Nat.le_refl _)) g1
 intro h3 q3 n3
 (refine byRun ?_)
 apply q_callv
 focus (exact byNext)
 focus (exact byLo)
 focus exact works_w
 intro h4 q4 n4
 (refine byRun ?_)
 (refine byFin ?_)
 rfl
end AE.Tryz
