/- Works of the layers up to 3, and up to 4. -/
import Derived.Test.YtndkjpkadfpflaaGreatTopW35
import Derived.Test.YtndkjpkadfpflaaGreatTopW36
import Derived.Test.YtndkjpkadfpflaaGreatTopW37
import Derived.Test.YtndkjpkadfpflaaGreatTopW54
import Derived.Test.YtndkjpkadfpflaaGreatAEthree
set_option linter.unusedVariables false
set_option linter.unusedSimpArgs false
set_option linter.unusedSectionVars false
namespace AE.Tryz
open Go AE Go.Proofs
set_option maxRecDepth 100000
theorem w35 {h : H} : AW Tryz.prog 35 h.next h [] (fun v h' => v = .bool true ∧ h' = h) := AE.KerD.closed_w rfl tab_ok tabD_ok kw35
theorem w36 {h : H} : AW Tryz.prog 36 h.next h [] (fun v h' => v = .bool true ∧ h' = h) := AE.KerD.closed_w rfl tab_ok tabD_ok kw36
theorem w37 {h : H} : AW Tryz.prog 37 h.next h [] (fun v h' => v = .bool true ∧ h' = h) := AE.KerD.closed_w rfl tab_ok tabD_ok kw37
theorem w54 {h : H} : AW Tryz.prog 54 h.next h [] (fun v h' => v = .bool true ∧ h' = h) := AE.KerD.closed_w rfl tab_ok tabD_ok kw54
theorem works04_w {h : H} : AW Tryz.prog 20 h.next h [] (fun v _ => v = .bool true) := by
  refine fun20.call rfl (Nat.le_refl _) ?_
  unfold a20
  (focus ((try with_reducible apply wpC.to); (repeat' ((conv => whnf); first | refine byEv ?_ | fail)); all_goals ((conv => whnf); try with_reducible apply At.mk)))
  apply q_call
  focus (exact byNext)
  focus (exact byLo)
  focus exact w35
  rintro _ _ ⟨rfl, rfl⟩ q hn
  (focus ((try with_reducible apply wpC.to); (repeat' ((conv => whnf); first | refine byEv ?_ | fail)); all_goals ((conv => whnf); try with_reducible apply At.mk)))
  apply q_call
  focus (exact byNext)
  focus (exact byLo)
  focus exact w36
  rintro _ _ ⟨rfl, rfl⟩ q hn
  (focus ((try with_reducible apply wpC.to); (repeat' ((conv => whnf); first | refine byEv ?_ | fail)); all_goals ((conv => whnf); try with_reducible apply At.mk)))
  apply q_call
  focus (exact byNext)
  focus (exact byLo)
  focus exact w37
  rintro _ _ ⟨rfl, rfl⟩ q hn
  (focus ((try with_reducible apply wpC.to); (repeat' ((conv => whnf); first | refine byEv ?_ | fail)); all_goals ((conv => whnf); try with_reducible apply At.mk)))
  apply q_call
  focus (exact byNext)
  focus (exact byLo)
  focus exact w54
  rintro _ _ ⟨rfl, rfl⟩ q hn
  (focus ((try with_reducible apply wpC.to); (repeat' ((conv => whnf); first | refine byEv ?_ | fail)); all_goals ((conv => whnf); try with_reducible apply At.mk)))
  (refine byFin ?_)
  rfl
theorem kTopW1 {G : Prop} (g : G := by ((apply works04_w))) : G := g
end AE.Tryz
