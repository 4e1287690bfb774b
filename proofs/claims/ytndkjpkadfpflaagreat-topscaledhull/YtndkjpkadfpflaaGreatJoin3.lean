/- Walks and plain laws: TopBd, TopH4. -/
import Derived.Test.YtndkjpkadfpflaaGreatTopBc
set_option linter.unusedVariables false
set_option linter.unusedSimpArgs false
set_option linter.unusedSectionVars false

/- Walks of box: a bound that is accepted is passed by none. -/
namespace AE.Tryz
open Go AE Go.Proofs AE.Box
set_option maxRecDepth 100000
set_option linter.unusedVariables false

end AE.Tryz

/- Walks of box: End, and the definitions' CheckTrue. -/
namespace AE.Tryz
open Go AE Go.Proofs AE.Box
set_option maxRecDepth 100000
set_option linter.unusedVariables false

set_option maxHeartbeats 1000000 in
theorem refCheckTrue_w {h : H} {T : Hull} {Y : Grid} {m m' : Nat} (hm : m ≤ h.next) (hm' : m' ≤ h.next) (hT : T.Ok m h) (hY : Y.Ok m' h) (F : Fits2 T Y) : AW Tryz.prog 33 h.next h [.agg ⟨T.cells⟩, .slice Y.b Y.n Y.c] (fun v _ => v = .int .i64 0) := by
  have hT' := hT
  have V := F.v
  have fn := F.n
  have fw := F.w
  obtain ⟨e1, i1, r1, l1, re, ri, rr, rl⟩ := hT
  obtain ⟨ye, yi, yr, yri, yrr⟩ := hY
  obtain ⟨n1, n2, w1, w2, eq, s1, s2, pl, some⟩ := F.v
  refine fun33.call rfl (Nat.le_refl _) ?_
  unfold a33 Hull.cells
  (focus ((try with_reducible apply wpC.to); (repeat' ((conv => whnf); first | refine byEv ?_ | (apply Fork.mk <;> (intro _; try (exfalso; omega))) | refine xTopB20 ?_ | fail)); all_goals ((conv => whnf); try with_reducible apply At.mk)))
  apply q_call
  focus (exact byNext)
  focus (exact byLo)
  focus exact refCheckHull_w (T := T) (m := m) byOm (hT'.same bySame (Nat.le_refl _))
  rintro _ h1 ⟨e, rfl, he⟩ q1 hn1
  obtain rfl : e = 0 := he.2 V
  have g1 : h1.get h.next = .some (.cells [.int .i64 T.sp, .int .i64 T.st, .slice T.b T.n T.c] 24) := (q1.same _ byOm).trans byGet
  have sm1 : Same h.next h h1 := fun x hx => (q1.same x byOm).trans (get_of fun y hy => byGet)
  have hn1' : h.next + 2 ≤ h1.next := by (exact byOm)
  clear q1 he
  (focus ((try with_reducible apply wpC.to); (repeat' ((conv => whnf); first | refine byEv ?_ | (apply Fork.mk <;> (intro _; try (exfalso; omega))) | refine xTopB20 ?_ | fail)); all_goals ((conv => whnf); try with_reducible apply At.mk)))
  refine wp_loop (fun s : Nat => [(1, .slice Y.b Y.n Y.c), (2, .pointer (.some ⟨h.next, 0, none⟩)), (5, .int .i64 s)]) (fun s h4 => Same h.next h h4 ∧ h.next + 2 ≤ h4.next ∧ h4.get h.next = .some (.cells [.int .i64 T.sp, .int .i64 T.st, .slice T.b T.n T.c] 24) ∧ s ≤ T.n) (fun s => T.n - s) 0 ⟨rfl, rfl, rfl, trivial⟩ ⟨bySame, byOm, byGet, by simp⟩ ?_
  clear sm1 g1 hn1'
  rintro i g4 h4 ⟨sm4, hn4, g4', hi⟩ K hK
  by_cases hin : i < T.n
  · have ewi := eq i hin
    have hiy : i < Y.n := by omega
    (focus ((try with_reducible apply wpC.to); (repeat' ((conv => whnf); first | refine byEv ?_ | (apply Fork.mk <;> (intro _; try (exfalso; omega))) | refine xTopB20 ?_ | fail)); all_goals ((conv => whnf); try with_reducible apply At.mk)))
    exact hK (i + 1) _ _ ⟨rfl, rfl, int_of rfl (by omega), trivial⟩ ⟨bySame, byOm, byGet, by omega⟩ (by omega)
  obtain rfl : i = T.n := by omega
  clear hK
  (focus ((try with_reducible apply wpC.to); (repeat' ((conv => whnf); first | refine byEv ?_ | (apply Fork.mk <;> (intro _; try (exfalso; omega))) | refine xTopB20 ?_ | fail)); all_goals ((conv => whnf); try with_reducible apply At.mk)))
  refine wp_loop (fun s : Nat => [(1, .slice Y.b Y.n Y.c), (2, .pointer (.some ⟨h.next, 0, none⟩)), (6, .int .i64 s)]) (fun s h4 => Same h.next h h4 ∧ h.next + 2 ≤ h4.next ∧ h4.get h.next = .some (.cells [.int .i64 T.sp, .int .i64 T.st, .slice T.b T.n T.c] 24) ∧ s ≤ T.n) (fun s => T.n - s) 0 ⟨rfl, rfl, rfl, trivial⟩ ⟨bySame, byOm, byGet, by simp⟩ ?_
  clear sm4 g4' hn4
  rintro i g5 h5 ⟨sm5, hn5, g5', hi5⟩ K5 hK5
  by_cases hin5 : i < T.n
  · have rei := re i hin5
    have rii := ri i hin5
    have rri := rr i hin5
    have ewi := eq i hin5
    have hiy : i < Y.n := by omega
    have yii := yri i hiy
    have yrri := yrr i hiy
    (focus ((try with_reducible apply wpC.to); (repeat' ((conv => whnf); first | refine byEv ?_ | (apply Fork.mk <;> (intro _; try (exfalso; omega))) | refine xTopB20 ?_ | fail)); all_goals ((conv => whnf); try with_reducible apply At.mk)))
    refine wp_loop (fun s : Nat => [(1, .slice Y.b Y.n Y.c), (2, .pointer (.some ⟨h.next, 0, none⟩)), (6, .int .i64 i), (7, .int .i64 s)]) (fun s h4 => Same h.next h h4 ∧ h.next + 2 ≤ h4.next ∧ h4.get h.next = .some (.cells [.int .i64 T.sp, .int .i64 T.st, .slice T.b T.n T.c] 24) ∧ s ≤ T.w 0) (fun s => T.w 0 - s) 0 ⟨rfl, rfl, rfl, rfl, trivial⟩ ⟨bySame, byOm, byGet, by simp⟩ ?_
    rintro k g6 h6 ⟨sm6, hn6, g6', hk⟩ K6 hK6
    by_cases hkw : k < T.w 0
    · have hki : k < T.w i := by omega
      have hp' := F.at hin5 hkw
      have hky : k < Y.w := by omega
      (focus ((try with_reducible apply wpC.to); (repeat' ((conv => whnf); first | refine byEv ?_ | (apply Fork.mk <;> (intro _; try (exfalso; omega))) | refine xTopB20 ?_ | fail)); all_goals ((conv => whnf); try with_reducible apply At.mk)))
      exact hK6 (k + 1) _ _ ⟨rfl, rfl, rfl, int_of rfl (by omega), trivial⟩ ⟨bySame, byOm, byGet, by omega⟩ (by omega)
    · obtain rfl : k = T.w 0 := by omega
      (focus ((try with_reducible apply wpC.to); (repeat' ((conv => whnf); first | refine byEv ?_ | (apply Fork.mk <;> (intro _; try (exfalso; omega))) | refine xTopB20 ?_ | fail)); all_goals ((conv => whnf); try with_reducible apply At.mk)))
      exact hK5 (i + 1) _ _ ⟨rfl, rfl, int_of rfl (by omega), trivial⟩ ⟨bySame, byOm, byGet, by omega⟩ (by omega)
  · obtain rfl : i = T.n := by omega
    (focus ((try with_reducible apply wpC.to); (repeat' ((conv => whnf); first | refine byEv ?_ | (apply Fork.mk <;> (intro _; try (exfalso; omega))) | refine xTopB20 ?_ | fail)); all_goals ((conv => whnf); try with_reducible apply At.mk)))
    (refine byFin ?_)
    rfl
end AE.Tryz
