/- Walks of the laws of charts: the pull at an advance that is a fraction. -/
import Derived.Test.YtbfhhncmmllblaaJoin5
import Derived.Test.YtbfhhncmmllblaaJoin2
import Derived.Test.YtbfhhncmmllblaaChartZg
set_option linter.unusedVariables false
set_option linter.unusedSimpArgs false
set_option linter.unusedSectionVars false
namespace AE.Try
open Go AE Go.Proofs
set_option maxRecDepth 100000
set_option linter.unusedVariables false

/-- Charts that ChartMet speaks of. -/
structure Tbl.Small (T : Tbl) : Prop where
  p : T.P.f (T.P.n - 1) ≤ 100
  a : T.A.f (T.A.n - 1) ≤ 100
  h : ∀ i k, i < T.P.n → k < T.A.n → T.hi i k ≤ 1000

section
variable {T : Tbl} {x : Int} {n : Nd} {f : Nat → Nat → Int}
theorem Tbl.Small.wd (sm : T.Small) (g : T.Good) (o : AE.Try.On T.P.f T.P.n x) : 0 < T.wd x ∧ T.wd x ≤ 100 := by
  obtain ⟨n1, n2, n3, n4⟩ := near g o
  have h1 := g.rp.le (i := nb T.P.f T.P.n x + 1) (j := T.P.n - 1) (by omega) (by omega)
  have h2 := g.rp.rng (nb T.P.f T.P.n x) (by omega)
  have := sm.p
  refine ⟨n4, ?_⟩
  unfold Tbl.wd
  omega
theorem Tbl.Small.pw (sm : T.Small) (g : T.Good) (o : AE.Try.On T.P.f T.P.n x) (hf : ∀ i k, i < T.P.n → k < T.A.n → T.lo i k ≤ f i k ∧ f i k ≤ T.hi i k) {k : Nat} (hk : k < T.A.n) : 0 ≤ T.pw f x k ∧ T.pw f x k ≤ 1000 * T.wd x := by
  obtain ⟨n1, n2, n3, n4⟩ := near g o
  have r1 := hf (nb T.P.f T.P.n x) k (by omega) hk
  have r2 := hf (nb T.P.f T.P.n x + 1) k n1 hk
  have b1 := g.bd (nb T.P.f T.P.n x) k (by omega) hk
  have b2 := g.bd (nb T.P.f T.P.n x + 1) k n1 hk
  have s1 := sm.h (nb T.P.f T.P.n x) k (by omega) hk
  have s2 := sm.h (nb T.P.f T.P.n x + 1) k n1 hk
  unfold Tbl.Bd at b1 b2
  have m1 := mul4 n2 (Int.le_refl _) (show 0 ≤ f (nb T.P.f T.P.n x) k by omega) (show f (nb T.P.f T.P.n x) k ≤ 1000 by omega)
  have m2 := mul4 n3 (Int.le_refl _) (show 0 ≤ f (nb T.P.f T.P.n x + 1) k by omega) (show f (nb T.P.f T.P.n x + 1) k ≤ 1000 by omega)
  unfold Tbl.pw Tbl.wd
  omega
theorem Tbl.Small.ab (sm : T.Small) (g : T.Good) (o : AE.Try.On T.P.f T.P.n x) (hf : ∀ i k, i < T.P.n → k < T.A.n → T.lo i k ≤ f i k ∧ f i k ≤ T.hi i k) (hb : 0 ≤ n.b ∧ n.b ≤ 510) (hs : 0 ≤ n.s ∧ n.s ≤ 256) {k : Nat} (hk : k < T.A.n) : -2611000 ≤ T.ab f x n k ∧ T.ab f x n k ≤ 100000 := by
  have w := sm.wd g o
  have p := sm.pw g o hf hk
  have r := g.ra.rng k hk
  have r1 := g.ra.le (i := k) (j := T.A.n - 1) (by omega) (by omega)
  have r2 := sm.a
  have m1 := mul4 hs.1 hs.2 r.1 (show T.A.f k ≤ 100 by omega)
  have m2 := mul4 (Int.le_of_lt w.1) w.2 (show 0 ≤ n.b + n.s * T.A.f k by omega) (show n.b + n.s * T.A.f k ≤ 26110 by omega)
  rw [ab_eq]
  omega
theorem fr_one (a : Int) : fr a 1 = ⟨a, 1⟩ := by
  unfold fr
  rw [Int.gcd_one]
  simp
theorem root_small {A g : Nat → Int} {m q : Nat} {y : Fr} (k : RootAt A g m y q) (hA : ∀ j, j + 1 < m → A j < A (j + 1)) (hg : ∀ j, j < m → -2611000 ≤ g j ∧ g j ≤ 100000) : y.d ≤ 2711000 ∧ fr y.n y.d = y := by
  obtain ⟨hq, hp, hc⟩ := k
  have h1 := hg q hq
  have h2 := hg (q - 1) (by omega)
  rcases hc with ⟨-, rfl⟩ | ⟨h0, hneg, rfl⟩
  · exact ⟨(by decide : (1 : Int) ≤ 2711000), fr_one _⟩
  · have ha := hp (q - 1) (by omega)
    have F := fr_of (n := A (q - 1) * (-g q) + A q * g (q - 1)) (d := g (q - 1) + (-g q)) (by omega)
    refine ⟨Int.le_trans F.le_d (by omega), ?_⟩
    obtain ⟨hd, z, hz, e1, e2⟩ := F
    generalize hX : fr (A (q - 1) * (-g q) + A q * g (q - 1)) (g (q - 1) + (-g q)) = X at *
    rw [e1, e2, fr_scale hd hz] at hX
    exact hX
end


set_option maxHeartbeats 4000000 in
theorem pulled_w {h : H} {T : Tbl} {A : Pul} {m q : Nat} {x : Int} {y : Fr} {n : Nd} (hm : m ≤ h.next) (hT : T.Ok m h) (hA : A.Ok m h) (g : T.Good) (tA : T.True A) (sm : T.Small) (o : AE.Try.On T.P.f T.P.n x) (hb : 0 ≤ n.b ∧ n.b ≤ 510) (hs : 0 ≤ n.s ∧ n.s ≤ 256) (k : RootAt T.A.f (T.ab A.f x n) T.A.n y q) :
    AW Try.prog 37 h.next h [.agg ⟨T.cells⟩, .slice A.M.b A.M.n A.M.c, .int .i64 x, .agg ⟨y.cells⟩] (fun v _ => v = .agg ⟨(fr (n.b * y.d + n.s * y.n) y.d).cells⟩) := by
  have gp8 := g.p8
  have ga10 := g.a10
  have ga2 := g.a2
  have me := met_eq (n := n) g o k
  obtain ⟨b1, b2, b3, b4, b5, b6⟩ := k.between g.a2 g.ra.up
  have ry := root_small k g.ra.up fun j hj => sm.ab g o tA.rng hb hs hj
  have w := sm.wd g o
  have p0 := sm.pw g o tA.rng (show q - 1 < T.A.n by omega)
  have p1 := sm.pw g o tA.rng b1
  have G0 := val_grid (f := A.f) g o (show q - 1 < T.A.n by omega)
  have G1 := val_grid (f := A.f) g o b1
  have r0 := g.ra.rng (q - 1) (by omega)
  have r1 := g.ra.rng (q - 1 + 1) b1
  have up := g.ra.up (q - 1) b1
  have ra := g.ra.le (i := q - 1 + 1) (j := T.A.n - 1) (by omega) (by omega)
  have sa := sm.a
  have F0 := G0.2 ▸ fr_of (n := T.pw A.f x (q - 1)) w.1
  have F1 := G1.2 ▸ fr_of (n := T.pw A.f x (q - 1 + 1)) w.1
  generalize hP : T.pw A.f x (q - 1) = P at *
  generalize hQ : T.pw A.f x (q - 1 + 1) = Q at *
  generalize hW : T.wd x = W at *
  generalize hu : T.val ⟨x, T.A.f (q - 1)⟩ A.f = u at *
  generalize hv : T.val ⟨x, T.A.f (q - 1 + 1)⟩ A.f = v at *
  have ub := F0.bnd (X := 100000) (by omega) (by omega)
  have vb := F1.bnd (X := 100000) (by omega) (by omega)
  have ud := F0.le_d
  have vd := F1.le_d
  have u0 := F0.d0
  have v0 := F1.d0
  refine fun37.call rfl (Nat.le_refl _) ?_
  unfold a37 Tbl.cells Fr.cells
  (focus ((try with_reducible apply wpC.to); (repeat' ((conv => whnf); first | refine byEv ?_ | ((apply Fork.mk) <;> (intro _; try (exfalso; omega; done))) | ((apply q_call); (focus exact byNext); (focus exact byLo); (focus (first | exact kChartZe0 | exact kChartZe0 | exact kChartRd0)); first | ((apply q_allB) <;> (intro z_b _ _ _; first | exact Bool.noConfusion z_b | replace z_b := of_decide_eq_true z_b | replace z_b := of_decide_eq_false z_b | skip) <;> (first | contradiction | (revert z_b; intros))) | ((apply q_alli) <;> (intro _ _ _ _; try contradiction)) | ((apply q_allv); intro _ _ _)) | ((apply Load1.mk); (focus ((repeat (first | (apply el_lo <;> first | assumption | omega) | (apply el_hi <;> first | assumption | omega) | apply bump_old | ((apply put_old); focus (dsimp only [aadd]; omega)) | ((apply quiet_old); (focus assumption); focus (dsimp only [aadd]; omega)) | ((apply same_old); (focus assumption); focus (dsimp only [aadd]; omega)))); done)); (focus exact byVal)) | fail)); all_goals (conv => whnf); all_goals (try with_reducible apply At.mk)))
  refine wp_loop (fun s : Nat => [(1, .slice A.M.b A.M.n A.M.c), (2, .int .i64 x), (4, .pointer (some ⟨h.next, 0, none⟩)), (7, .pointer (some ⟨h.next + 1, 0, none⟩)), (8, .pointer (some ⟨h.next + 2, 0, none⟩)), (9, .int .i64 s)])
    (fun s h1 => h1.get h.next = some (.cells (exBox T) 25) ∧ h1.get (h.next + 1) = some (.cells [.int .i64 y.n, .int .i64 y.d] 32) ∧ h1.get (h.next + 2) = some (.cells [.int .i64 0, .int .i64 0] 32) ∧ Same m h h1 ∧ h.next + 3 ≤ h1.next ∧ s ≤ q - 1) (fun s => q - 1 - s) 0 ⟨rfl, rfl, rfl, rfl, rfl, rfl, trivial⟩ ⟨by unfold exBox; (exact byGet), by (exact byGet), by (exact byGet), by (exact bySame), by (exact byOm), by omega⟩ ?_
  rintro s g' h1 ⟨x1, x2, x3, sm1, n1, hsq⟩ K hK
  unfold exBox at x1
  obtain ⟨ka1, ka2, ka3, ka4⟩ := hT.A
  have ka5 := ka2.same sm1 ka3
  have hL : (1 : Int) ≤ y.d ∧ y.d ≤ 2711000 := by omega
  have yl : 0 ≤ y.n := Int.le_trans (Int.mul_nonneg r0.1 (by omega)) b4
  have yh : y.n ≤ 100 * 2711000 := Int.le_trans b3 (mul4 r1.1 (by omega) (by omega) hL.2).2
  by_cases hlt : s < q - 1
  · obtain ⟨c1, c2⟩ := b2 s hlt
    have rs := g.ra.rng (s + 1) (by omega)
    have rs' := g.ra.le (i := s + 1) (j := T.A.n - 1) (by omega) (by omega)
    have ms := mul4 rs.1 (show T.A.f (s + 1) ≤ 100 by omega) (show 0 ≤ y.d by omega) hL.2
    (focus ((try with_reducible apply wpC.to); (repeat' ((conv => whnf); first | refine byEv ?_ | ((apply Fork.mk) <;> (intro _; try (exfalso; omega; done))) | ((apply q_call); (focus exact byNext); (focus exact byLo); (focus (first | exact kChartZe0 | exact kChartZe0 | exact kChartRd0)); first | ((apply q_allB) <;> (intro z_b _ _ _; first | exact Bool.noConfusion z_b | replace z_b := of_decide_eq_true z_b | replace z_b := of_decide_eq_false z_b | skip) <;> (first | contradiction | (revert z_b; intros))) | ((apply q_alli) <;> (intro _ _ _ _; try contradiction)) | ((apply q_allv); intro _ _ _)) | ((apply Load1.mk); (focus ((repeat (first | (apply el_lo <;> first | assumption | omega) | (apply el_hi <;> first | assumption | omega) | apply bump_old | ((apply put_old); focus (dsimp only [aadd]; omega)) | ((apply quiet_old); (focus assumption); focus (dsimp only [aadd]; omega)) | ((apply same_old); (focus assumption); focus (dsimp only [aadd]; omega)))); done)); (focus exact byVal)) | fail)); all_goals (conv => whnf); all_goals (try with_reducible apply At.mk)))
    exact hK (s + 1) _ _ ⟨rfl, rfl, rfl, rfl, rfl, int_of rfl (by omega), trivial⟩ ⟨by unfold exBox; (exact byGet), by (exact byGet), by (exact byGet), by (exact bySame), by (exact byOm), by omega⟩ (by omega)
  · obtain rfl : s = q - 1 := by omega
    have m1 := mul4 r1.1 (show T.A.f (q - 1 + 1) ≤ 100 by omega) (show 0 ≤ y.d by omega) hL.2
    have hA1 : A.Ok m h1 := hA.same sm1 (Nat.le_refl _)
    have hT1 : T.Ok m h1 := hT.same sm1 (Nat.le_refl _)
    have m0 := mul4 r0.1 (show T.A.f (q - 1) ≤ 100 by omega) (show 0 ≤ y.d by omega) hL.2
    have mt := mul4 (show 0 ≤ T.A.f (q - 1 + 1) - T.A.f (q - 1) by omega) (show T.A.f (q - 1 + 1) - T.A.f (q - 1) ≤ 100 by omega) (show 0 ≤ y.d by omega) hL.2
    have mt0 := Int.mul_pos (show 0 < T.A.f (q - 1 + 1) - T.A.f (q - 1) by omega) b6
    have md := mul4 (Int.le_of_lt u0) (show u.d ≤ 100 by omega) (Int.le_of_lt v0) (show v.d ≤ 100 by omega)
    have md0 := Int.mul_pos u0 v0
    have mu := mul_bnd (a := u.n) (b := v.d) (A := 100000) (B := 100) ub.1 ub.2 (by omega) (by omega)
    have mv := mul_bnd (a := v.n) (b := u.d) (A := 100000) (B := 100) vb.1 vb.2 (by omega) (by omega)
    -- what comes out
    have Fa : FrOf (fr (u.n * v.d) (u.d * v.d)) P W := by
      rw [fr_scale u0 v0]
      have e := F0.d0
      obtain ⟨_, z, hz, e1, e2⟩ := F0
      have : fr u.n u.d = fr P W := by rw [e1, e2, fr_scale e hz]
      rw [this]; exact fr_of w.1
    have Fx : FrOf (fr (v.n * u.d - u.n * v.d) (u.d * v.d)) (Q - P) W := by
      have e := less_fr F1 F0
      rw [Int.mul_comm v.d u.d] at e
      rw [e, show Q * W - P * W = (Q - P) * W by rw [Int.sub_mul], fr_scale w.1 w.1]
      exact fr_of w.1
    have Fp : FrOf (fr (y.n - T.A.f (q - 1) * y.d) ((T.A.f (q - 1 + 1) - T.A.f (q - 1)) * y.d)) (y.n - T.A.f (q - 1) * y.d) ((T.A.f (q - 1 + 1) - T.A.f (q - 1)) * y.d) := fr_of mt0
    have xb := Fx.bnd (X := 100000) (by omega) (by omega)
    have xd := Fx.le_d
    have x0 := Fx.d0
    have ab := Fa.bnd (X := 100000) (by omega) (by omega)
    have ad := Fa.le_d
    have a0 := Fa.d0
    have pb := Fp.bnd (X := 271100000) (by omega) (by omega)
    have pd := Fp.le_d
    have pp := Fp.d0
    have hfin : ∀ z : Fr, z = fr (n.b * y.d + n.s * y.n) y.d → True := fun _ _ => trivial
    generalize hX : fr (v.n * u.d - u.n * v.d) (u.d * v.d) = X at *
    generalize hB : fr (u.n * v.d) (u.d * v.d) = B at *
    generalize hC : fr (y.n - T.A.f (q - 1) * y.d) ((T.A.f (q - 1 + 1) - T.A.f (q - 1)) * y.d) = C at *
    have vr0 : ∀ hh : H, m ≤ hh.next → Same m h hh → AW Try.prog 16 hh.next hh [.agg ⟨T.cells⟩, .slice A.M.b A.M.n A.M.c, .agg ⟨(⟨x, T.A.f (q - 1)⟩ : Pt).cells⟩] (fun v _ => v = .tuple #[.agg ⟨u.cells⟩, .int .i64 0]) := fun hh h1 h2 => by
      have := valuer_ok (T := T) (p := A) (at_ := ⟨x, T.A.f (q - 1)⟩) (m := m) (h := hh) h1 (hT.same h2 (Nat.le_refl _)) (hA.same h2 (Nat.le_refl _)) g tA G0.1
      rw [hu] at this
      exact this
    have vr1 : ∀ hh : H, m ≤ hh.next → Same m h hh → AW Try.prog 16 hh.next hh [.agg ⟨T.cells⟩, .slice A.M.b A.M.n A.M.c, .agg ⟨(⟨x, T.A.f (q - 1 + 1)⟩ : Pt).cells⟩] (fun w _ => w = .tuple #[.agg ⟨v.cells⟩, .int .i64 0]) := fun hh h1 h2 => by
      have := valuer_ok (T := T) (p := A) (at_ := ⟨x, T.A.f (q - 1 + 1)⟩) (m := m) (h := hh) h1 (hT.same h2 (Nat.le_refl _)) (hA.same h2 (Nat.le_refl _)) g tA G1.1
      rw [hv] at this
      exact this
    have tw := fun hh : H => times_w (h := hh) (a := X) (b := C) (X := 100000) (Y := 271100000) x0 pp xb.1 xb.2 pb.1 pb.2 (by decide) (by decide) (by decide) (by have := mul4 (Int.le_of_lt pp) (show C.d ≤ 271100000 by omega) (Int.le_of_lt x0) (show X.d ≤ 100 by omega); omega) (by omega) (by omega)
    have Ft : FrOf (fr (X.n * C.n) (C.d * X.d)) ((Q - P) * (y.n - T.A.f (q - 1) * y.d)) (W * ((T.A.f (q - 1 + 1) - T.A.f (q - 1)) * y.d)) := by
      have e := mul_fr Fx Fp
      rw [Int.mul_comm C.d X.d, e]
      exact fr_of (Int.mul_pos w.1 mt0)
    have Fd : (fr (X.n * C.n) (C.d * X.d)).d ≤ 27110000000 := by
      have h1 := (fr_of (n := X.n * C.n) (Int.mul_pos pp x0)).le_d
      have h2 := (mul4 (Int.le_of_lt pp) (show C.d ≤ 271100000 by omega) (Int.le_of_lt x0) (show X.d ≤ 100 by omega)).2
      omega
    have Fn := (fr_of (n := X.n * C.n) (Int.mul_pos pp x0)).bnd (X := 100000 * 271100000) (mul_bnd xb.1 xb.2 pb.1 pb.2).1 (mul_bnd xb.1 xb.2 pb.1 pb.2).2
    have Fo := Ft.d0
    generalize hD : fr (X.n * C.n) (C.d * X.d) = D at *
    have sw := fun hh : H => sum_w (h := hh) (a := B) (b := D) (X := 2711000000000000) (Y := 2711000000000000) a0 Fo (mul_bnd (A := 100000) (B := 27110000000) ab.1 ab.2 (by omega) (by omega)) (mul_bnd (A := 27110000000000) (B := 100) (by omega) (by omega) (by omega) (by omega)) (by decide) (by decide) (by have := mul4 (Int.le_of_lt a0) (show B.d ≤ 100 by omega) (Int.le_of_lt Fo) Fd; omega)
    have es : fr (B.n * D.d + D.n * B.d) (B.d * D.d) = fr (n.b * y.d + n.s * y.n) y.d := by
      rw [add_fr Fa Ft]
      refine fr_eq (Int.mul_pos w.1 (Int.mul_pos w.1 mt0)) b6 ?_
      generalize T.A.f (q - 1 + 1) - T.A.f (q - 1) = Z at *
      generalize y.n - T.A.f (q - 1) * y.d = N at *
      have e1 : (P * (W * (Z * y.d)) + (Q - P) * N * W) * y.d = W * (P * (Z * y.d) + (Q - P) * N) * y.d := by grind
      rw [e1, me]
      ac_rfl
    (focus ((try with_reducible apply wpC.to); (repeat' ((conv => whnf); first | refine byEv ?_ | ((apply Fork.mk) <;> (intro _; try (exfalso; omega; done))) | ((apply q_call); (focus exact byNext); (focus exact byLo); (focus (first | exact kChartZe0 | exact kChartZe0 | exact kChartRd0)); first | ((apply q_allB) <;> (intro z_b _ _ _; first | exact Bool.noConfusion z_b | replace z_b := of_decide_eq_true z_b | replace z_b := of_decide_eq_false z_b | skip) <;> (first | contradiction | (revert z_b; intros))) | ((apply q_alli) <;> (intro _ _ _ _; try contradiction)) | ((apply q_allv); intro _ _ _)) | ((apply Load1.mk); (focus ((repeat (first | (apply el_lo <;> first | assumption | omega) | (apply el_hi <;> first | assumption | omega) | apply bump_old | ((apply put_old); focus (dsimp only [aadd]; omega)) | ((apply quiet_old); (focus assumption); focus (dsimp only [aadd]; omega)) | ((apply same_old); (focus assumption); focus (dsimp only [aadd]; omega)))); done)); (focus exact byVal)) | fail)); all_goals (conv => whnf); all_goals (try with_reducible apply At.mk)))
    all_goals
      apply q_callv
      focus (exact byNext)
      focus (exact byLo)
      focus exact vr0 _ (by (exact byOm)) (by (exact bySame))
      intro h2 q2 n2
      (focus ((try with_reducible apply wpC.to); (repeat' ((conv => whnf); first | refine byEv ?_ | ((apply Fork.mk) <;> (intro _; try (exfalso; omega; done))) | ((apply q_call); (focus exact byNext); (focus exact byLo); (focus (first | exact kChartZe0 | exact kChartZe0 | exact kChartRd0)); first | ((apply q_allB) <;> (intro z_b _ _ _; first | exact Bool.noConfusion z_b | replace z_b := of_decide_eq_true z_b | replace z_b := of_decide_eq_false z_b | skip) <;> (first | contradiction | (revert z_b; intros))) | ((apply q_alli) <;> (intro _ _ _ _; try contradiction)) | ((apply q_allv); intro _ _ _)) | ((apply Load1.mk); (focus ((repeat (first | (apply el_lo <;> first | assumption | omega) | (apply el_hi <;> first | assumption | omega) | apply bump_old | ((apply put_old); focus (dsimp only [aadd]; omega)) | ((apply quiet_old); (focus assumption); focus (dsimp only [aadd]; omega)) | ((apply same_old); (focus assumption); focus (dsimp only [aadd]; omega)))); done)); (focus exact byVal)) | fail)); all_goals (conv => whnf); all_goals (try with_reducible apply At.mk)))
      apply q_callv
      focus (exact byNext)
      focus (exact byLo)
      focus exact vr1 _ (by (exact byOm)) (by (exact bySame))
      intro h3 q3 n3
      (focus ((try with_reducible apply wpC.to); (repeat' ((conv => whnf); first | refine byEv ?_ | ((apply Fork.mk) <;> (intro _; try (exfalso; omega; done))) | ((apply q_call); (focus exact byNext); (focus exact byLo); (focus (first | exact kChartZe0 | exact kChartZe0 | exact kChartRd0)); first | ((apply q_allB) <;> (intro z_b _ _ _; first | exact Bool.noConfusion z_b | replace z_b := of_decide_eq_true z_b | replace z_b := of_decide_eq_false z_b | skip) <;> (first | contradiction | (revert z_b; intros))) | ((apply q_alli) <;> (intro _ _ _ _; try contradiction)) | ((apply q_allv); intro _ _ _)) | ((apply Load1.mk); (focus ((repeat (first | (apply el_lo <;> first | assumption | omega) | (apply el_hi <;> first | assumption | omega) | apply bump_old | ((apply put_old); focus (dsimp only [aadd]; omega)) | ((apply quiet_old); (focus assumption); focus (dsimp only [aadd]; omega)) | ((apply same_old); (focus assumption); focus (dsimp only [aadd]; omega)))); done)); (focus exact byVal)) | fail)); all_goals (conv => whnf); all_goals (try with_reducible apply At.mk)))
      rw [hX, hC]
      apply q_callv
      focus (exact byNext)
      focus (exact byLo)
      focus exact tw _
      intro h4 q4 n4
      (focus ((try with_reducible apply wpC.to); (repeat' ((conv => whnf); first | refine byEv ?_ | ((apply Fork.mk) <;> (intro _; try (exfalso; omega; done))) | ((apply q_call); (focus exact byNext); (focus exact byLo); (focus (first | exact kChartZe0 | exact kChartZe0 | exact kChartRd0)); first | ((apply q_allB) <;> (intro z_b _ _ _; first | exact Bool.noConfusion z_b | replace z_b := of_decide_eq_true z_b | replace z_b := of_decide_eq_false z_b | skip) <;> (first | contradiction | (revert z_b; intros))) | ((apply q_alli) <;> (intro _ _ _ _; try contradiction)) | ((apply q_allv); intro _ _ _)) | ((apply Load1.mk); (focus ((repeat (first | (apply el_lo <;> first | assumption | omega) | (apply el_hi <;> first | assumption | omega) | apply bump_old | ((apply put_old); focus (dsimp only [aadd]; omega)) | ((apply quiet_old); (focus assumption); focus (dsimp only [aadd]; omega)) | ((apply same_old); (focus assumption); focus (dsimp only [aadd]; omega)))); done)); (focus exact byVal)) | fail)); all_goals (conv => whnf); all_goals (try with_reducible apply At.mk)))
      rw [hB]
      apply q_callv
      focus (exact byNext)
      focus (exact byLo)
      focus exact sw _
      intro h5 q5 n5
      (focus ((try with_reducible apply wpC.to); (repeat' ((conv => whnf); first | refine byEv ?_ | ((apply Fork.mk) <;> (intro _; try (exfalso; omega; done))) | ((apply q_call); (focus exact byNext); (focus exact byLo); (focus (first | exact kChartZe0 | exact kChartZe0 | exact kChartRd0)); first | ((apply q_allB) <;> (intro z_b _ _ _; first | exact Bool.noConfusion z_b | replace z_b := of_decide_eq_true z_b | replace z_b := of_decide_eq_false z_b | skip) <;> (first | contradiction | (revert z_b; intros))) | ((apply q_alli) <;> (intro _ _ _ _; try contradiction)) | ((apply q_allv); intro _ _ _)) | ((apply Load1.mk); (focus ((repeat (first | (apply el_lo <;> first | assumption | omega) | (apply el_hi <;> first | assumption | omega) | apply bump_old | ((apply put_old); focus (dsimp only [aadd]; omega)) | ((apply quiet_old); (focus assumption); focus (dsimp only [aadd]; omega)) | ((apply same_old); (focus assumption); focus (dsimp only [aadd]; omega)))); done)); (focus exact byVal)) | fail)); all_goals (conv => whnf); all_goals (try with_reducible apply At.mk)))
      (refine byFin ?_)
      rw [es]
end AE.Try
