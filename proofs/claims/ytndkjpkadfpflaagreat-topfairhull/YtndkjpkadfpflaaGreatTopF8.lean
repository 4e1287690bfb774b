/- Walks of fair: Fairest, and Check of a line within the spots. -/
import Derived.Test.YtndkjpkadfpflaaGreatTopF7
set_option linter.unusedVariables false
set_option linter.unusedSimpArgs false
set_option linter.unusedSectionVars false
namespace AE.Tryz
open Go AE Go.Proofs AE.Fair
set_option maxRecDepth 100000
set_option linter.unusedVariables false

theorem fairest_w {h : H} {S : Spots} {m : Nat} (hm : m ≤ h.next) (hS : S.r.Ok m h) (he : spotsErr S = 0) : AW Tryz.prog 10 h.next h [.agg ⟨S.cells⟩] (fun v h' => ∃ r w c x T, v = .tuple #[.slice w S.r.n c, .int .i64 T, .int .i64 0] ∧ LG r h' 2 S.r.n x w c ∧ h.next ≤ r ∧ r < h'.next ∧ Fairest S x T) := by
  have fit := spots_fit he
  refine fun10.call rfl (Nat.le_refl _) ?_
  unfold a10 Spots.cells
  (focus ((try with_reducible apply wpC.to); (repeat' ((conv => whnf); first | refine byEv ?_ | (apply Fork.mk <;> (intro _; try (exfalso; omega))) | refine xTopF20 ?_ | fail)); all_goals ((conv => whnf); try with_reducible apply At.mk)))
  apply q_call
  focus (exact byNext)
  focus (exact byLo)
  focus exact checkSpots_w (S := S) (m := m) byOm (hS.same bySame (Nat.le_refl _))
  intro v h1 hv q1 hn1
  rw [he] at hv
  subst hv
  have S1 : S.r.Ok m h1 := hS.same (fun x hx => (q1.same x byOm).trans (get_of fun y hy => byGet)) (Nat.le_refl _)
  have g1 : h1.get h.next = some (.cells [.slice S.r.b S.r.n S.r.c, .int .i64 S.t] 34) := (q1.same _ byOm).trans byGet
  have hn1' : h.next + 7 ≤ h1.next := by (exact byOm)
  (focus ((try with_reducible apply wpC.to); (repeat' ((conv => whnf); first | refine byEv ?_ | (apply Fork.mk <;> (intro _; try (exfalso; omega))) | refine xTopF20 ?_ | fail)); all_goals ((conv => whnf); try with_reducible apply At.mk)))
  apply q_call
  focus (exact byNext)
  focus (exact byLo)
  focus exact newDrawer_w (S := S) (m := m) byOm (S1.same bySame (Nat.le_refl _)) fit
  rintro _ h2 ⟨d, l, rfl, e1, e2, e3, e4, e5, D2⟩ q2 hn2
  have e1' : h1.next ≤ l := by (exact byOm)
  have e3' : h1.next ≤ d := by (exact byOm)
  (focus ((try with_reducible apply wpC.to); (repeat' ((conv => whnf); first | refine byEv ?_ | (apply Fork.mk <;> (intro _; try (exfalso; omega))) | refine xTopF20 ?_ | fail)); all_goals ((conv => whnf); try with_reducible apply At.mk)))
  apply q_callw
  focus exact best_w (lo := h.next) (m := m) (d := d) (l := l) (S := S) byOm (by omega) (by omega) byOm byOm e5 D2
  rintro _ h3 ⟨r, w, c, x, T, rfl, L3, f1, f2, FF, old⟩ q3
  have hn3 := q3.next
  (focus ((try with_reducible apply wpC.to); (repeat' ((conv => whnf); first | refine byEv ?_ | (apply Fork.mk <;> (intro _; try (exfalso; omega))) | refine xTopF20 ?_ | fail)); all_goals ((conv => whnf); try with_reducible apply At.mk)))
  (refine byFin ?_)
  exact ⟨r, w, c, x, T, rfl, L3.frame (get_of fun y hy => byGet), byOm, byOm, FF⟩

end AE.Tryz
