/- Walks of fair: Fairest, and Check of a line within the spots. -/
import Derived.Test.YtndkjpkadfpflaaGreatTopF7
set_option linter.unusedVariables false
set_option linter.unusedSimpArgs false
set_option linter.unusedSectionVars false
namespace AE.Tryz
open Go AE Go.Proofs AE.Fair
set_option maxRecDepth 100000
set_option linter.unusedVariables false

theorem fairest_w {h : H} {S : Spots} {m : Nat} (hm : m ≤ h.next) (hS : S.r.Ok m h) (he : spotsErr S = 0) : AW Tryz.prog 10 h.next h [.agg ⟨S.cells⟩] (fun v h' => ∃ r w c x T, v = .tuple #[.slice w S.r.n c, .int .i64 T, .int .i64 0] ∧ LG r h' 2 S.r.n x w c ∧ h.next ≤ r ∧ r < h'.next ∧ Fairest S x T) := by
  have fit := spots_fit he
  refine fun10.call rfl (Nat.le_refl _) ?_
  unfold a10 Spots.cells
  (focus ((try with_reducible apply wpC.to); (repeat' ((conv => whnf); first | refine byEv ?_ | (apply Fork.mk <;> (intro _; try (exfalso; omega))) | refine xTopF20 ?_ | fail)); all_goals ((conv => whnf); try with_reducible apply At.mk)))
  apply q_call
  focus (exact byNext)
  focus (exact byLo)
  focus exact checkSpots_w (S := S) (m := m) byOm (hS.same bySame (Nat.le_refl _))
  intro v h1 hv q1 hn1
  rw [he] at hv
  subst hv
  have S1 : S.r.Ok m h1 := hS.same (fun x hx => (q1.same x byOm).trans (get_of fun y hy => byGet)) (Nat.le_refl _)
  have g1 : h1.get h.next = some (.cells [.slice S.r.b S.r.n S.r.c, .int .i64 S.t] 34) := (q1.same _ byOm).trans byGet
  have hn1' : h.next + 7 ≤ h1.next := by (exact byOm)
  (focus ((try with_reducible apply wpC.to); (repeat' ((conv => whnf); first | refine byEv ?_ | (apply Fork.mk <;> (intro _; try (exfalso; omega))) | refine xTopF20 ?_ | fail)); all_goals ((conv => whnf); try with_reducible apply At.mk)))
  apply q_call
  focus (exact byNext)
  focus (exact byLo)
  focus exact newDrawer_w (S := S) (m := m) byOm (S1.same bySame (Nat.le_refl _)) fit
  rintro _ h2 ⟨d, l, rfl, e1, e2, e3, e4, e5, D2⟩ q2 hn2
  have e1' : h1.next ≤ l := by (exact byOm)
  have e3' : h1.next ≤ d := by (exact byOm)
  (focus ((try with_reducible apply wpC.to); (repeat' ((conv => whnf); first | refine byEv ?_ | (apply Fork.mk <;> (intro _; try (exfalso; omega))) | refine xTopF20 ?_ | fail)); all_goals ((conv => whnf); try with_reducible apply At.mk)))
  apply q_callw
  focus exact best_w (lo := h.next) (m := m) (d := d) (l := l) (S := S) byOm (by omega) (by omega) byOm byOm e5 D2
  rintro _ h3 ⟨r, w, c, x, T, rfl, L3, f1, f2, FF, old⟩ q3
  have hn3 := q3.next
  (focus ((try with_reducible apply wpC.to); (repeat' ((conv => whnf); first | refine byEv ?_ | (apply Fork.mk <;> (intro _; try (exfalso; omega))) | refine xTopF20 ?_ | fail)); all_goals ((conv => whnf); try with_reducible apply At.mk)))
  (refine byFin ?_)
  exact ⟨r, w, c, x, T, rfl, L3.frame (get_of fun y hy => byGet), byOm, byOm, FF⟩

theorem check_w {h : H} {S : Spots} {T : Arr} {m m' : Nat} (hm : m ≤ h.next) (hm' : m' ≤ h.next) (hS : S.r.Ok m h) (hT : T.Ok m' h) (he : spotsErr S = 0) (hn : T.n = S.r.n) (hin : ∀ j, j < S.r.n → (S.r.f j).lo ≤ T.f j ∧ T.f j ≤ (S.r.f j).hi) :
    AW Tryz.prog 30 h.next h [.agg ⟨S.cells⟩, .slice T.b T.n T.c] (fun v _ => v = .tuple #[.int .i64 (bend T.f T.n + S.t * changes T.f T.n), .int .i64 0]) := by
  have fit := spots_fit he
  have n1 := fit.good.n1
  have n2 := fit.good.n2
  have t1 := fit.good.t1
  have t2 := fit.good.t2
  have hb : ∀ i, i < T.n → -1000000 ≤ T.f i ∧ T.f i ≤ 1000000 := fun i hi => by
    have a := hin i (by omega)
    have b := fit.good.lo1 i (by omega)
    have c := fit.hi i (by omega)
    unfold Spots.lo at b c
    omega
  have cb : (0 ≤ changes T.f T.n ∧ changes T.f T.n ≤ 24) ∧ 0 ≤ bend T.f T.n ∧ bend T.f T.n ≤ 100000000 := by
    unfold changes bend
    by_cases h1 : T.n = 1
    · rw [h1]; simp [ms]
    · have := ms_bd (f := T.f) (B := 1000000) (k := T.n - 2) fun i hi => hb i (by omega)
      omega
  have tb : 0 ≤ S.t * changes T.f T.n ∧ S.t * changes T.f T.n ≤ 24000000 := by
    have a := Int.mul_nonneg t1 cb.1.1
    have b := Int.mul_le_mul (a := S.t) (b := changes T.f T.n) (c := 1000000) (d := 24) t2 cb.1.2 cb.1.1 (by omega)
    omega
  obtain ⟨te, ti, tr, tl⟩ := hT
  have hT : T.Ok m' h := ⟨te, ti, tr, tl⟩
  obtain ⟨se, si, sr, sl⟩ := hS
  have hS : S.r.Ok m h := ⟨se, si, sr, sl⟩
  refine fun30.call rfl (Nat.le_refl _) ?_
  unfold a30 Spots.cells
  (focus ((try with_reducible apply wpC.to); (repeat' ((conv => whnf); first | refine byEv ?_ | (apply Fork.mk <;> (intro _; try (exfalso; omega))) | ((first | refine kTopF11c ?_ | refine kTopF10c ?_ | refine kTopSc2c ?_ | refine kTopSc0c ?_); first | ((first | apply q_allD | apply q_alli | apply q_allB) <;> intro _ _ _ _ <;> try contradiction) | (apply q_allv; intro _ _ _)) | refine xTopF20 ?_ | fail)); all_goals ((conv => whnf); try with_reducible apply At.mk)))
  apply q_call
  focus (exact byNext)
  focus (exact byLo)
  focus exact checkSpots_w (S := S) (m := m) byOm (hS.same bySame (Nat.le_refl _))
  intro v h1 hv q1 hn1
  rw [he] at hv
  subst hv
  have s1 : Same h.next h h1 := fun x hx => (q1.same x byOm).trans (get_of fun y hy => byGet)
  have g1 : h1.get h.next = some (.cells [.slice S.r.b S.r.n S.r.c, .int .i64 S.t] 34) := (q1.same _ byOm).trans byGet
  have hn1' : h.next + 6 ≤ h1.next := by (exact byOm)
  clear q1
  (focus ((try with_reducible apply wpC.to); (repeat' ((conv => whnf); first | refine byEv ?_ | (apply Fork.mk <;> (intro _; try (exfalso; omega))) | ((first | refine kTopF11c ?_ | refine kTopF10c ?_ | refine kTopSc2c ?_ | refine kTopSc0c ?_); first | ((first | apply q_allD | apply q_alli | apply q_allB) <;> intro _ _ _ _ <;> try contradiction) | (apply q_allv; intro _ _ _)) | refine xTopF20 ?_ | fail)); all_goals ((conv => whnf); try with_reducible apply At.mk)))
  refine wp_loop (fun s : Nat => [(1, .slice T.b T.n T.c), (2, .pointer (some ⟨h.next, 0, none⟩)), (23, .slice S.r.b S.r.n S.r.c), (24, .int .i64 S.r.n), (25, .int .i64 s)])
    (fun s h3 => Same h.next h h3 ∧ h3.get h.next = some (.cells [.slice S.r.b S.r.n S.r.c, .int .i64 S.t] 34) ∧ h.next + 6 ≤ h3.next ∧ s ≤ S.r.n) (fun s => S.r.n - s) 0 ⟨rfl, rfl, rfl, rfl, rfl, trivial⟩ ⟨bySame, byGet, byOm, by omega⟩ ?_
  clear s1 g1 hn1'
  rintro s g3 h3 ⟨s3, g3', hn3, hs3⟩ K hK
  by_cases hsl : s < S.r.n
  · have b1 := hin s hsl
    have b2 := hb s (by omega)
    (focus ((try with_reducible apply wpC.to); (repeat' ((conv => whnf); first | refine byEv ?_ | (apply Fork.mk <;> (intro _; try (exfalso; omega))) | ((first | refine kTopF11c ?_ | refine kTopF10c ?_ | refine kTopSc2c ?_ | refine kTopSc0c ?_); first | ((first | apply q_allD | apply q_alli | apply q_allB) <;> intro _ _ _ _ <;> try contradiction) | (apply q_allv; intro _ _ _)) | refine xTopF20 ?_ | fail)); all_goals ((conv => whnf); try with_reducible apply At.mk)))
    refine hK (s + 1) _ _ ⟨rfl, rfl, rfl, rfl, int_of rfl (by omega), trivial⟩ ⟨bySame, byGet, byOm, by omega⟩ (by omega)
  have es : s = S.r.n := by omega
  subst es
  (focus ((try with_reducible apply wpC.to); (repeat' ((conv => whnf); first | refine byEv ?_ | (apply Fork.mk <;> (intro _; try (exfalso; omega))) | ((first | refine kTopF11c ?_ | refine kTopF10c ?_ | refine kTopSc2c ?_ | refine kTopSc0c ?_); first | ((first | apply q_allD | apply q_alli | apply q_allB) <;> intro _ _ _ _ <;> try contradiction) | (apply q_allv; intro _ _ _)) | refine xTopF20 ?_ | fail)); all_goals ((conv => whnf); try with_reducible apply At.mk)))
  (refine byFin ?_)
  rfl
end AE.Tryz
