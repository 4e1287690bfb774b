/- Walks of the laws of charts: what they draw: charts that are valid, true pulls, points. -/
import Derived.Test.YtbfhhncmmllblaaChartY
import Derived.Test.YtbfhhncmmllblaaChartRe
set_option linter.unusedVariables false
set_option linter.unusedSimpArgs false
set_option linter.unusedSectionVars false
namespace AE.Try
open Go AE Go.Proofs
set_option maxRecDepth 100000
set_option linter.unusedVariables false

/-! ### numbers that come -/

/-- Numbers of some kind from 0 on, below 2^32. -/
structure By (q : IntKind) (B : Arr) (m : Nat) (h : H) : Prop where
  e : 0 < B.n → B.b = some B.a
  i : Vals h B.a B.n (fun i => .int q (B.f i))
  r : 0 < B.n → B.a.block < m
  l : B.n ≤ 9223372036854775807
  p : ∀ i, i < B.n → 0 ≤ B.f i ∧ B.f i < 4294967296
theorem By.same {q : IntKind} {B : Arr} {m m' : Nat} {h h' : H} (k : By q B m h) (s : Same m h h') (hm : m ≤ m') : By q B m' h' :=
  ⟨k.e, k.i.same s k.r, fun h => by have := k.r h; omega, k.l, k.p⟩

theorem kChartZa0 {G : Prop} (g : G := by ((apply AW.arg1; (focus (apply check_r; rotate_left; (focus (apply Tbl.Ok.same; (focus assumption); (focus exact bySame); (focus exact Nat.le_refl _))); (focus exact byOm))); (focus exact Is.rfl)))) : G := g

theorem fine_w {h : H} {T : Tbl} {m : Nat} (hm : m ≤ h.next) (hT : T.Ok m h) : AW Try.prog 30 h.next h [.agg ⟨T.cells⟩] (fun v _ => ∃ b, v = .bool b ∧ (b = true → T.Good)) := by
  refine fun30.call rfl (Nat.le_refl _) ?_
  unfold a30 Tbl.cells
  (focus ((try with_reducible apply wpC.to); (repeat' ((conv => whnf); first | refine byEv ?_ | ((apply Fork.mk) <;> (intro _; try (exfalso; omega; done))) | ((apply q_call); (focus exact byNext); (focus exact byLo); (focus (first | exact kChartZa0 | exact kChartRb0)); first | ((apply q_allB) <;> (intro z_b _ _ _; first | exact Bool.noConfusion z_b | replace z_b := of_decide_eq_true z_b | replace z_b := of_decide_eq_false z_b | skip) <;> (first | contradiction | (revert z_b; intros))) | ((apply q_alli) <;> (intro _ _ _ _; try contradiction)) | ((apply q_allv); intro _ _ _)) | fail)); all_goals (conv => whnf); all_goals (try with_reducible apply At.mk)))
  apply q_call
  focus (exact byNext)
  focus (exact byLo)
  focus exact great_w (T := T) (p := noPul) (m := m) (by (exact byOm)) (hT.same (by (exact bySame)) (Nat.le_refl _)) (noPul_ok _ _)
  rintro _ h2 ⟨b, rfl, hb⟩ q2 n2
  cases b
  · (focus ((try with_reducible apply wpC.to); (repeat' ((conv => whnf); first | refine byEv ?_ | ((apply Fork.mk) <;> (intro _; try (exfalso; omega; done))) | ((apply q_call); (focus exact byNext); (focus exact byLo); (focus (first | exact kChartZa0 | exact kChartRb0)); first | ((apply q_allB) <;> (intro z_b _ _ _; first | exact Bool.noConfusion z_b | replace z_b := of_decide_eq_true z_b | replace z_b := of_decide_eq_false z_b | skip) <;> (first | contradiction | (revert z_b; intros))) | ((apply q_alli) <;> (intro _ _ _ _; try contradiction)) | ((apply q_allv); intro _ _ _)) | fail)); all_goals (conv => whnf); all_goals (try with_reducible apply At.mk)))
    · (refine byFin ?_)
      exact ⟨_, rfl, fun _ => Tbl.good (by assumption)⟩
    · (refine byFin ?_)
      exact ⟨_, rfl, fun k => Bool.noConfusion k⟩
  · (focus ((try with_reducible apply wpC.to); (repeat' ((conv => whnf); first | refine byEv ?_ | ((apply Fork.mk) <;> (intro _; try (exfalso; omega; done))) | ((apply q_call); (focus exact byNext); (focus exact byLo); (focus (first | exact kChartZa0 | exact kChartRb0)); first | ((apply q_allB) <;> (intro z_b _ _ _; first | exact Bool.noConfusion z_b | replace z_b := of_decide_eq_true z_b | replace z_b := of_decide_eq_false z_b | skip) <;> (first | contradiction | (revert z_b; intros))) | ((apply q_alli) <;> (intro _ _ _ _; try contradiction)) | ((apply q_allv); intro _ _ _)) | fail)); all_goals (conv => whnf); all_goals (try with_reducible apply At.mk)))
    (refine byFin ?_)
    exact ⟨_, rfl, fun k => Bool.noConfusion k⟩

theorem emod_in {x b : Int} (h : 0 < b) : 0 ≤ x % b ∧ x % b < b := ⟨Int.emod_nonneg _ (by omega), Int.emod_lt_of_pos _ h⟩
theorem point_w {h : H} {T : Tbl} {m : Nat} {x y : Int} (hm : m ≤ h.next) (hT : T.Ok m h) (g : T.Good) (hx : 0 ≤ x ∧ x < 65536) (hy : 0 ≤ y ∧ y < 65536) : AW Try.prog 32 h.next h [.agg ⟨T.cells⟩, .agg ⟨[.int .u16 x, .int .u16 y]⟩] (fun v _ => ∃ p : Pt, v = .agg ⟨p.cells⟩ ∧ T.On p) := by
  have gp2 := g.p2
  have ga2 := g.a2
  have gp8 := g.p8
  have ga10 := g.a10
  obtain ⟨⟨e1, i1, r1, l1⟩, ⟨e2, i2, r2, l2⟩, -⟩ := hT
  have p0 := g.rp.rng 0 (by omega)
  have p1 := g.rp.rng (T.P.n - 1) (by omega)
  have p2 := g.rp.le (i := 0) (j := T.P.n - 1) (by omega) (by omega)
  have a0 := g.ra.rng 0 (by omega)
  have a1 := g.ra.rng (T.A.n - 1) (by omega)
  have a2 := g.ra.le (i := 0) (j := T.A.n - 1) (by omega) (by omega)
  have mp := emod_in (x := x) (b := T.P.f (T.P.n - 1) - T.P.f 0 + 1) (by omega)
  have ma := emod_in (x := y) (b := T.A.f (T.A.n - 1) - T.A.f 0 + 1) (by omega)
  refine fun32.call rfl (Nat.le_refl _) ?_
  unfold a32 Tbl.cells
  (focus ((try with_reducible apply wpC.to); (repeat' ((conv => whnf); first | refine byEv ?_ | ((apply Load1.mk); (focus ((repeat (first | (apply el_lo <;> first | assumption | omega) | (apply el_hi <;> first | assumption | omega) | apply bump_old | ((apply put_old); focus (dsimp only [aadd]; omega)) | ((apply quiet_old); (focus assumption); focus (dsimp only [aadd]; omega)) | ((apply same_old); (focus assumption); focus (dsimp only [aadd]; omega)))); done)); (focus exact byVal)) | fail)); all_goals (conv => whnf); all_goals (try with_reducible apply At.mk)))
  (refine byFin ?_)
  exact ⟨⟨T.P.f 0 + x % (T.P.f (T.P.n - 1) - T.P.f 0 + 1), T.A.f 0 + y % (T.A.f (T.A.n - 1) - T.A.f 0 + 1)⟩, rfl, ⟨by dsimp only; omega, by dsimp only; omega⟩, ⟨by dsimp only; omega, by dsimp only; omega⟩⟩

/-! ### fractions -/

/-- A fraction that can be a pull. -/
structure Fr.Formed (x : Fr) : Prop where
  d0 : 0 < x.d
  d1 : x.d ≤ 4000000
  n0 : 0 ≤ x.n
  n1 : x.n ≤ 100000 * x.d
end AE.Try
