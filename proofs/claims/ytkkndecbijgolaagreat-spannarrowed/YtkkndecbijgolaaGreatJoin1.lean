/- Walks and plain laws: GSpanNc, GSpanNd. -/
import Derived.Test.YtkkndecbijgolaaGreatJoin4
set_option linter.unusedVariables false
set_option linter.unusedSimpArgs false
set_option linter.unusedSectionVars false

/- Walks of span's definitions: the span of two factors; which choices are valid. -/
namespace AE.Tryz
open Go AE Go.Proofs AE.Sp
set_option maxRecDepth 100000
set_option linter.unusedVariables false

theorem low_lval {L : Runs} {p q : Int} (he : L.lerr p q = 0) : L.lval p q = L.low p q := by
  obtain ⟨N, D, k⟩ := lv_ok he
  rw [k.e, k.k.low]
set_option maxHeartbeats 4000000 in
theorem span_r {h : H} {L : Runs} {m : Nat} {p q : Int} (hm : m ≤ h.next) (hL : L.Ok m h) (he : L.lerr p q = 0) : AW Tryz.prog 14 h.next h [.slice L.b L.n L.c, .int .i64 p, .int .i64 q] (fun v _ => v = .agg ⟨(L.wide p q).cells⟩) := by
  obtain ⟨e2, cl, bd⟩ := Runs.lerr_0 he
  obtain ⟨e1, fac⟩ := Runs.err2_0 e2
  obtain ⟨ln, lv⟩ := L.err_0 e1
  have he' : L.lerr (-p) (-q) = 0 := Runs.lerr_ok (Runs.err2_of e1 (fac_neg fac)) cl (bnd_negI lv bd)
  obtain ⟨⟨f1, f2⟩, f3, f4⟩ := id fac
  obtain ⟨N, D, k1⟩ := lv_ok he
  obtain ⟨N', D', k2⟩ := lv_ok he'
  have r1 := k1.rng
  have r2 := k2.rng
  refine fun14.call rfl (Nat.le_refl _) ?_
  unfold a14
  (focus ((try with_reducible apply wpC.to); (repeat' ((conv => whnf); first | refine byEv ?_ | fail)); all_goals ((conv => whnf); try with_reducible apply At.mk)))
  apply q_callv
  focus (exact byNext)
  focus (exact byLo)
  focus exact least_r (L := L) (m := m) (p := p) (q := q) byOm (hL.same bySame (Nat.le_refl _))
  intro h2 q2 n2
  rw [he]
  unfold Fr.cells
  (focus ((try with_reducible apply wpC.to); (repeat' ((conv => whnf); first | refine byEv ?_ | fail)); all_goals ((conv => whnf); try with_reducible apply At.mk)))
  apply q_callv
  focus (exact byNext)
  focus (exact byLo)
  focus exact least_r (L := L) (m := m) (p := -p) (q := -q) byOm (hL.same bySame (Nat.le_refl _))
  intro h3 q3 n3
  rw [he']
  unfold Fr.cells
  have m1 := mul_bnd (a := (L.lval (-p) (-q)).n) (A := 160000000) (b := (L.lval p q).d) (B := 800) (by omega) (by omega) (by omega) (by omega)
  have m2 := mul_bnd (a := (L.lval p q).n) (A := 160000000) (b := (L.lval (-p) (-q)).d) (B := 800) (by omega) (by omega) (by omega) (by omega)
  have m3 := mul_bnd (a := (L.lval p q).d) (A := 800) (b := (L.lval (-p) (-q)).d) (B := 800) (by omega) (by omega) (by omega) (by omega)
  have m4 := Int.mul_pos r1.1.1 r2.1.1
  have m5 : -(L.lval (-p) (-q)).n * (L.lval p q).d = -((L.lval (-p) (-q)).n * (L.lval p q).d) := Int.neg_mul _ _
  (focus ((try with_reducible apply wpC.to); (repeat' ((conv => whnf); first | refine byEv ?_ | fail)); all_goals ((conv => whnf); try with_reducible apply At.mk)))
  apply q_callv
  focus (exact byNext)
  focus (exact byLo)
  focus exact reduced_r (by omega) (by omega)
  intro h4 q4 n4
  unfold Fr.cells
  (focus ((try with_reducible apply wpC.to); (repeat' ((conv => whnf); first | refine byEv ?_ | fail)); all_goals ((conv => whnf); try with_reducible apply At.mk)))
  (refine byFin ?_)
  unfold Runs.wide
  rw [← low_lval he, ← low_lval he']
end AE.Tryz

/- Walks of span's definitions: which choices are valid. -/
namespace AE.Tryz
open Go AE Go.Proofs AE.Sp
set_option maxRecDepth 100000
set_option linter.unusedVariables false

theorem el3_0 {h : H} {a : Addr} {n m : Nat} {f0 f1 f2 : Nat → Value} (hi : Els h a n 3 fun i => [f0 i, f1 i, f2 i]) (h1 : m < n) : h.loadN (aadd (aadd a (m * 3)) 0) 1 = some [f0 m] := load_part (hi m h1) rfl
theorem el3_1 {h : H} {a : Addr} {n m : Nat} {f0 f1 f2 : Nat → Value} (hi : Els h a n 3 fun i => [f0 i, f1 i, f2 i]) (h1 : m < n) : h.loadN (aadd (aadd a (m * 3)) 1) 1 = some [f1 m] := load_part (hi m h1) rfl
theorem el3_2 {h : H} {a : Addr} {n m : Nat} {f0 f1 f2 : Nat → Value} (hi : Els h a n 3 fun i => [f0 i, f1 i, f2 i]) (h1 : m < n) : h.loadN (aadd (aadd a (m * 3)) 2) 1 = some [f2 m] := load_part (hi m h1) rfl
theorem xGSpanNd0 {G G' : Prop} (g : G') (t : G' → G := by (((with_reducible apply Load1.mk); (focus ((repeat (first | (apply el3_0 <;> first | assumption | omega) | (apply el3_1 <;> first | assumption | omega) | (apply el3_2 <;> first | assumption | omega) | with_reducible apply bump_old | ((with_reducible apply put_old); focus (dsimp only [aadd]; omega)) | ((with_reducible apply quiet_old); (focus assumption); focus (dsimp only [aadd]; omega)) | ((with_reducible apply same_old); (focus assumption); focus (dsimp only [aadd]; omega)))); (first | done | fail))); (focus exact byVal)))) : G := t g

end AE.Tryz
