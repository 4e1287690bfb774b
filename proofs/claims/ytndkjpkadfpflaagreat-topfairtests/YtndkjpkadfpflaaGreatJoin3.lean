/- Walks and plain laws: TopW, DragSpec4. -/
import Derived.Test.YtndkjpkadfpflaaGreatTopW35
import Derived.Test.YtndkjpkadfpflaaGreatTopW36
import Derived.Test.YtndkjpkadfpflaaGreatTopW37
import Derived.Test.YtndkjpkadfpflaaGreatTopW54
import Derived.Test.YtndkjpkadfpflaaGreatAEthree
import Derived.Test.YtndkjpkadfpflaaGreatDragSpec3
set_option linter.unusedVariables false
set_option linter.unusedSimpArgs false
set_option linter.unusedSectionVars false

/- Works of the layers up to 3, and up to 4. -/
namespace AE.Tryz
open Go AE Go.Proofs
set_option maxRecDepth 100000
theorem w35 {h : H} : AW Tryz.prog 35 h.next h [] (fun v h' => v = .bool true ∧ h' = h) := AE.KerD.closed_w rfl tab_ok tabD_ok kw35
theorem w36 {h : H} : AW Tryz.prog 36 h.next h [] (fun v h' => v = .bool true ∧ h' = h) := AE.KerD.closed_w rfl tab_ok tabD_ok kw36
theorem w37 {h : H} : AW Tryz.prog 37 h.next h [] (fun v h' => v = .bool true ∧ h' = h) := AE.KerD.closed_w rfl tab_ok tabD_ok kw37
theorem w54 {h : H} : AW Tryz.prog 54 h.next h [] (fun v h' => v = .bool true ∧ h' = h) := AE.KerD.closed_w rfl tab_ok tabD_ok kw54
theorem works04_w {h : H} : AW Tryz.prog 20 h.next h [] (fun v _ => v = .bool true) := by
  refine fun20.call rfl (Nat.le_refl _) ?_
  unfold a20
  (focus ((try with_reducible apply wpC.to); (repeat' ((conv => whnf); first | refine byEv ?_ | fail)); all_goals ((conv => whnf); try with_reducible apply At.mk)))
  apply q_call
  focus (exact byNext)
  focus (exact byLo)
  focus exact w35
  rintro _ _ ⟨rfl, rfl⟩ q hn
  (focus ((try with_reducible apply wpC.to); (repeat' ((conv => whnf); first | refine byEv ?_ | fail)); all_goals ((conv => whnf); try with_reducible apply At.mk)))
  apply q_call
  focus (exact byNext)
  focus (exact byLo)
  focus exact w36
  rintro _ _ ⟨rfl, rfl⟩ q hn
  (focus ((try with_reducible apply wpC.to); (repeat' ((conv => whnf); first | refine byEv ?_ | fail)); all_goals ((conv => whnf); try with_reducible apply At.mk)))
  apply q_call
  focus (exact byNext)
  focus (exact byLo)
  focus exact w37
  rintro _ _ ⟨rfl, rfl⟩ q hn
  (focus ((try with_reducible apply wpC.to); (repeat' ((conv => whnf); first | refine byEv ?_ | fail)); all_goals ((conv => whnf); try with_reducible apply At.mk)))
  apply q_call
  focus (exact byNext)
  focus (exact byLo)
  focus exact w54
  rintro _ _ ⟨rfl, rfl⟩ q hn
  (focus ((try with_reducible apply wpC.to); (repeat' ((conv => whnf); first | refine byEv ?_ | fail)); all_goals ((conv => whnf); try with_reducible apply At.mk)))
  (refine byFin ?_)
  rfl
theorem kTopW1 {G : Prop} (g : G := by ((apply works04_w))) : G := g
end AE.Tryz

/- What drag computes, in plain words: limits that are held. -/
namespace AE.Drag
open Go AE

structure Tests where
  k : Nat
  f : Nat → T
  b : Option Addr
  a : Addr
  c : Nat
structure Tests.Ok (Q : Tests) (m : Nat) (h : H) : Prop where
  e : 0 < Q.k → Q.b = some Q.a
  i : Els h Q.a Q.k 16 (fun i => (Q.f i).cells)
  r : 0 < Q.k → Q.a.block < m
  l : Q.k ≤ 9223372036854775807
theorem Tests.Ok.same {Q : Tests} {m m' : Nat} {h h' : H} (k : Q.Ok m h) (s : Same m h h') (hm : m ≤ m') : Q.Ok m' h' := ⟨k.e, k.i.same s k.r, fun h => by have := k.r h; omega, k.l⟩
structure Limits where
  n : Nat
  f : Nat → Int
  b : Option Addr
  a : Addr
  c : Nat
structure Limits.Ok (M : Limits) (m : Nat) (h : H) : Prop where
  e : 0 < M.n → M.b = some M.a
  i : Ints h M.a M.n M.f
  r : 0 < M.n → M.a.block < m
  z : M.b = none ∨ far ≤ M.c ∨ ∃ a, M.b = some a ∧ a.block < m ∧ h.loadN a 0 = some []
  f : 0 < M.n → M.c < far
  l : M.n ≤ 9223372036854775807
theorem Limits.Ok.same {M : Limits} {m m' : Nat} {h h' : H} (k : M.Ok m h) (s : Same m h h') (hm : m ≤ m') : M.Ok m' h' :=
  ⟨k.e, k.i.same s k.r, fun h => by have := k.r h; omega, k.z.imp id (Or.imp id fun ⟨a, h1, h2, h3⟩ => ⟨a, h1, by omega, by rw [s.loadN h2]; exact h3⟩), k.f, k.l⟩

end AE.Drag
