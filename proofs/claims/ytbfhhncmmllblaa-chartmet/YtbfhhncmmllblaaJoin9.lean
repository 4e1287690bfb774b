/- Walks and plain laws: ChartZa, ChartZb. -/
import Derived.Test.YtbfhhncmmllblaaChartY
import Derived.Test.YtbfhhncmmllblaaChartRe
set_option linter.unusedVariables false
set_option linter.unusedSimpArgs false
set_option linter.unusedSectionVars false

/- Walks of the laws of charts: what they draw: charts that are valid, true pulls, points. -/
namespace AE.Try
open Go AE Go.Proofs
set_option maxRecDepth 100000
set_option linter.unusedVariables false

/-! ### numbers that come -/

/-- Numbers of some kind from 0 on, below 2^32. -/
structure By (q : IntKind) (B : Arr) (m : Nat) (h : H) : Prop where
  e : 0 < B.n → B.b = some B.a
  i : Vals h B.a B.n (fun i => .int q (B.f i))
  r : 0 < B.n → B.a.block < m
  l : B.n ≤ 9223372036854775807
  p : ∀ i, i < B.n → 0 ≤ B.f i ∧ B.f i < 4294967296
theorem By.same {q : IntKind} {B : Arr} {m m' : Nat} {h h' : H} (k : By q B m h) (s : Same m h h') (hm : m ≤ m') : By q B m' h' :=
  ⟨k.e, k.i.same s k.r, fun h => by have := k.r h; omega, k.l, k.p⟩

theorem kChartZa0 {G : Prop} (g : G := by ((apply AW.arg1; (focus (apply check_r; rotate_left; (focus (apply Tbl.Ok.same; (focus assumption); (focus exact bySame); (focus exact Nat.le_refl _))); (focus exact byOm))); (focus exact Is.rfl)))) : G := g

theorem fine_w {h : H} {T : Tbl} {m : Nat} (hm : m ≤ h.next) (hT : T.Ok m h) : AW Try.prog 30 h.next h [.agg ⟨T.cells⟩] (fun v _ => ∃ b, v = .bool b ∧ (b = true → T.Good)) := by
  refine fun30.call rfl (Nat.le_refl _) ?_
  unfold a30 Tbl.cells
  (focus ((try with_reducible apply wpC.to); (repeat' ((conv => whnf); first | refine byEv ?_ | ((apply Fork.mk) <;> (intro _; try (exfalso; omega; done))) | ((apply q_call); (focus exact byNext); (focus exact byLo); (focus (first | exact kChartZa0 | exact kChartRb0)); first | ((apply q_allB) <;> (intro z_b _ _ _; first | exact Bool.noConfusion z_b | replace z_b := of_decide_eq_true z_b | replace z_b := of_decide_eq_false z_b | skip) <;> (first | contradiction | (revert z_b; intros))) | ((apply q_alli) <;> (intro _ _ _ _; try contradiction)) | ((apply q_allv); intro _ _ _)) | fail)); all_goals (conv => whnf); all_goals (try with_reducible apply At.mk)))
  apply q_call
  focus (exact byNext)
  focus (exact byLo)
  focus exact great_w (T := T) (p := noPul) (m := m) (by (exact byOm)) (hT.same (by (exact bySame)) (Nat.le_refl _)) (noPul_ok _ _)
  rintro _ h2 ⟨b, rfl, hb⟩ q2 n2
  cases b
  · (focus ((try with_reducible apply wpC.to); (repeat' ((conv => whnf); first | refine byEv ?_ | ((apply Fork.mk) <;> (intro _; try (exfalso; omega; done))) | ((apply q_call); (focus exact byNext); (focus exact byLo); (focus (first | exact kChartZa0 | exact kChartRb0)); first | ((apply q_allB) <;> (intro z_b _ _ _; first | exact Bool.noConfusion z_b | replace z_b := of_decide_eq_true z_b | replace z_b := of_decide_eq_false z_b | skip) <;> (first | contradiction | (revert z_b; intros))) | ((apply q_alli) <;> (intro _ _ _ _; try contradiction)) | ((apply q_allv); intro _ _ _)) | fail)); all_goals (conv => whnf); all_goals (try with_reducible apply At.mk)))
    · (refine byFin ?_)
      exact ⟨_, rfl, fun _ => Tbl.good (by assumption)⟩
    · (refine byFin ?_)
      exact ⟨_, rfl, fun k => Bool.noConfusion k⟩
  · (focus ((try with_reducible apply wpC.to); (repeat' ((conv => whnf); first | refine byEv ?_ | ((apply Fork.mk) <;> (intro _; try (exfalso; omega; done))) | ((apply q_call); (focus exact byNext); (focus exact byLo); (focus (first | exact kChartZa0 | exact kChartRb0)); first | ((apply q_allB) <;> (intro z_b _ _ _; first | exact Bool.noConfusion z_b | replace z_b := of_decide_eq_true z_b | replace z_b := of_decide_eq_false z_b | skip) <;> (first | contradiction | (revert z_b; intros))) | ((apply q_alli) <;> (intro _ _ _ _; try contradiction)) | ((apply q_allv); intro _ _ _)) | fail)); all_goals (conv => whnf); all_goals (try with_reducible apply At.mk)))
    (refine byFin ?_)
    exact ⟨_, rfl, fun k => Bool.noConfusion k⟩

theorem emod_in {x b : Int} (h : 0 < b) : 0 ≤ x % b ∧ x % b < b := ⟨Int.emod_nonneg _ (by omega), Int.emod_lt_of_pos _ h⟩
theorem point_w {h : H} {T : Tbl} {m : Nat} {x y : Int} (hm : m ≤ h.next) (hT : T.Ok m h) (g : T.Good) (hx : 0 ≤ x ∧ x < 65536) (hy : 0 ≤ y ∧ y < 65536) : AW Try.prog 32 h.next h [.agg ⟨T.cells⟩, .agg ⟨[.int .u16 x, .int .u16 y]⟩] (fun v _ => ∃ p : Pt, v = .agg ⟨p.cells⟩ ∧ T.On p) := by
  have gp2 := g.p2
  have ga2 := g.a2
  have gp8 := g.p8
  have ga10 := g.a10
  obtain ⟨⟨e1, i1, r1, l1⟩, ⟨e2, i2, r2, l2⟩, -⟩ := hT
  have p0 := g.rp.rng 0 (by omega)
  have p1 := g.rp.rng (T.P.n - 1) (by omega)
  have p2 := g.rp.le (i := 0) (j := T.P.n - 1) (by omega) (by omega)
  have a0 := g.ra.rng 0 (by omega)
  have a1 := g.ra.rng (T.A.n - 1) (by omega)
  have a2 := g.ra.le (i := 0) (j := T.A.n - 1) (by omega) (by omega)
  have mp := emod_in (x := x) (b := T.P.f (T.P.n - 1) - T.P.f 0 + 1) (by omega)
  have ma := emod_in (x := y) (b := T.A.f (T.A.n - 1) - T.A.f 0 + 1) (by omega)
  refine fun32.call rfl (Nat.le_refl _) ?_
  unfold a32 Tbl.cells
  (focus ((try with_reducible apply wpC.to); (repeat' ((conv => whnf); first | refine byEv ?_ | ((apply Load1.mk); (focus ((repeat (first | (apply el_lo <;> first | assumption | omega) | (apply el_hi <;> first | assumption | omega) | apply bump_old | ((apply put_old); focus (dsimp only [aadd]; omega)) | ((apply quiet_old); (focus assumption); focus (dsimp only [aadd]; omega)) | ((apply same_old); (focus assumption); focus (dsimp only [aadd]; omega)))); done)); (focus exact byVal)) | fail)); all_goals (conv => whnf); all_goals (try with_reducible apply At.mk)))
  (refine byFin ?_)
  exact ⟨⟨T.P.f 0 + x % (T.P.f (T.P.n - 1) - T.P.f 0 + 1), T.A.f 0 + y % (T.A.f (T.A.n - 1) - T.A.f 0 + 1)⟩, rfl, ⟨by dsimp only; omega, by dsimp only; omega⟩, ⟨by dsimp only; omega, by dsimp only; omega⟩⟩

/-! ### fractions -/

theorem mul4 {a b A B : Int} (h0 : 0 ≤ a) (h1 : a ≤ A) (h2 : 0 ≤ b) (h3 : b ≤ B) : 0 ≤ a * b ∧ a * b ≤ A * B :=
  ⟨Int.mul_nonneg h0 h2, Int.le_trans (Int.mul_le_mul_of_nonneg_right h1 h2) (Int.mul_le_mul_of_nonneg_left h3 (by omega))⟩
end AE.Try

/- Walks of the laws of charts: the pulls of a true chart, by numbers. -/
namespace AE.Try
open Go AE Go.Proofs
set_option maxRecDepth 100000
set_option linter.unusedVariables false

/-- The pull at a place, by numbers. -/
def drawn (T : Tbl) (B : Arr) (i k : Nat) : Int := if B.n = 0 then T.lo i k else T.lo i k + B.f ((i * T.A.n + k) % B.n) % (T.hi i k - T.lo i k + 1)
theorem drawn_in {T : Tbl} {B : Arr} {i k : Nat} (h : T.lo i k ≤ T.hi i k) : T.lo i k ≤ drawn T B i k ∧ drawn T B i k ≤ T.hi i k := by
  unfold drawn
  split
  · omega
  · have := emod_in (x := B.f ((i * T.A.n + k) % B.n)) (b := T.hi i k - T.lo i k + 1) (by omega)
    omega

set_option maxHeartbeats 4000000 in
theorem draw_s {h : H} {T : Tbl} {B : Arr} {m : Nat} (hm : m ≤ h.next) (hT : T.Ok m h) (g : T.Good) (hB : By .u32 B m h) : AW Try.prog 31 h.next h [.agg ⟨T.cells⟩, .slice B.b B.n B.c] (fun v h' => ∃ A : Pul, v = .slice A.M.b A.M.n A.M.c ∧ (∃ O : Nat → Prop, OM O A h.next h'.next h') ∧ (A.M.n = T.P.n ∧ ∀ i, i < T.P.n → A.M.w i = T.A.n) ∧ A.f = drawn T B ∧ (0 < A.M.n → ∃ z, A.M.a.spot = some z) ∧ A.M.c = 0) := by
  have gn := g.n
  have gw := g.w
  have gp2 := g.p2
  have ga2 := g.a2
  have gp8 := g.p8
  have ga10 := g.a10
  obtain ⟨kP, kA, kR⟩ := hT
  obtain ⟨e1, i1, r1, l1, re, ri, rr, rl⟩ := kR
  obtain ⟨e9, i9, r9, l9, p9⟩ := hB
  refine fun31.call rfl (Nat.le_refl _) ?_
  unfold a31 Tbl.cells
  (focus ((try with_reducible apply wpC.to); (repeat' ((conv => whnf); first | refine byEv ?_ | ((apply Fork.mk) <;> (intro _; try (exfalso; omega; done))) | ((apply Load1.mk); (focus ((repeat (first | (apply el_lo <;> first | assumption | omega) | (apply el_hi <;> first | assumption | omega) | apply bump_old | ((apply put_old); focus (dsimp only [aadd]; omega)) | ((apply quiet_old); (focus assumption); focus (dsimp only [aadd]; omega)) | ((apply same_old); (focus assumption); focus (dsimp only [aadd]; omega)))); done)); (focus exact byVal)) | fail)); all_goals (conv => whnf); all_goals (try with_reducible apply At.mk)))
  refine wp_loop (fun s : Nat × Option Addr × Mat => [(1, .slice B.b B.n B.c), (2, .pointer (some ⟨h.next, 0, none⟩)), (5, .slice s.2.1 s.1 0), (6, .int .i64 ((s.1 * T.A.n : Nat) : Int)), (7, .int .i64 s.1)])
    (fun s h1 => h1.get h.next = some (.cells (exBox T) 25) ∧ Same m h h1 ∧ h.next + 1 ≤ h1.next ∧ s.1 ≤ T.R.n ∧ (∀ i, i < s.1 → s.2.2.w i = T.A.n) ∧ ∃ O1 : Nat → Prop, (∀ r, O1 r → r < h1.next) ∧ LB O1 s.2.2 s.1 (drawn T B) (h.next + 1) h1.next h1 s.2.1) (fun s => T.R.n - s.1) (0, none, noMat) ⟨rfl, rfl, rfl, int_of rfl (by simp), rfl, trivial⟩ ⟨by (exact byGet), by (exact bySame), by (exact byOm), by dsimp only; omega, fun i hi => by dsimp only at hi; omega, fun _ => False, fun _ h => by simp at h, LB.zero⟩ ?_
  rintro ⟨s, v4, M1⟩ g' h1 ⟨g1, sm, n1, hs, hw1, O1, hOb, hP1⟩ K hK
  dsimp only at hs hw1 hP1 ⊢
  unfold exBox at g1
  have i5 := i1.same sm r1
  by_cases hsn : s < T.R.n
  · have hww : T.R.w s = T.A.n := gw s (by omega)
    have lw := rl s hsn
    have hsA : s * T.A.n ≤ 8 * 10 := Nat.mul_le_mul (by omega) ga10
    (focus ((try with_reducible apply wpC.to); (repeat' ((conv => whnf); first | refine byEv ?_ | ((apply Fork.mk) <;> (intro _; try (exfalso; omega; done))) | ((apply Load1.mk); (focus ((repeat (first | (apply el_lo <;> first | assumption | omega) | (apply el_hi <;> first | assumption | omega) | apply bump_old | ((apply put_old); focus (dsimp only [aadd]; omega)) | ((apply quiet_old); (focus assumption); focus (dsimp only [aadd]; omega)) | ((apply same_old); (focus assumption); focus (dsimp only [aadd]; omega)))); done)); (focus exact byVal)) | fail)); all_goals (conv => whnf); all_goals (try with_reducible apply At.mk)))
    refine wp_loop (fun t : Nat × Option Addr × Nat => [(1, .slice B.b B.n B.c), (2, .pointer (some ⟨h.next, 0, none⟩)), (5, .slice v4 s 0), (6, .int .i64 ((s * T.A.n + t.1 : Nat) : Int)), (7, .int .i64 s), (8, .slice t.2.1 t.1 0), (9, .int .i64 t.1)])
      (fun t h2 => h2.get h.next = some (.cells (exBox T) 25) ∧ Same m h h2 ∧ h1.next ≤ h2.next ∧ t.1 ≤ T.R.w s ∧ IG t.2.2 h2 t.1 (drawn T B s) t.2.1 ∧ (0 < t.1 → (h1.next ≤ t.2.2 ∧ t.2.2 < h2.next)) ∧ LB O1 M1 s (drawn T B) (h.next + 1) h1.next h2 v4) (fun t => T.R.w s - t.1) (0, none, 0) ⟨rfl, rfl, rfl, rfl, rfl, rfl, rfl, trivial⟩ ⟨by (exact byGet), by (exact bySame), by (exact byOm), by dsimp only; omega, IG.zero, fun h => absurd h (Nat.lt_irrefl 0), hP1.frame (Nat.le_refl _) fun _ _ _ _ => rfl⟩ ?_
    rintro ⟨t, v1, q1⟩ g'' h2 ⟨g2, sm2, n2, ht, G1, hq, hL1⟩ K' hK'
    dsimp only at ht G1 hq ⊢
    unfold exBox at g2
    have i7 := i1.same sm2 r1
    have re7 := re s hsn
    have ri7 := (ri s hsn).same sm2 (rr s hsn)
    have i10 := i9.same sm2 r9
    by_cases htw : t < T.R.w s
    · have rr7 := rr s hsn (by omega)
      have bd := g.bd s t (by omega) (by omega)
      unfold Tbl.Bd at bd
      (focus ((try with_reducible apply wpC.to); (repeat' ((conv => whnf); first | refine byEv ?_ | ((apply Fork.mk) <;> (intro _; try (exfalso; omega; done))) | ((apply Load1.mk); (focus ((repeat (first | (apply el_lo <;> first | assumption | omega) | (apply el_hi <;> first | assumption | omega) | apply bump_old | ((apply put_old); focus (dsimp only [aadd]; omega)) | ((apply quiet_old); (focus assumption); focus (dsimp only [aadd]; omega)) | ((apply same_old); (focus assumption); focus (dsimp only [aadd]; omega)))); done)); (focus exact byVal)) | fail)); all_goals (conv => whnf); all_goals (try with_reducible apply At.mk)))
      · have hB0 : 0 < B.n := by omega
        refine Ix.mk (a := B.a) (m := (s * T.A.n + t) % B.n) (e9 hB0) (Int.natCast_emod _ _).symm (Nat.mod_lt _ hB0) ?_
        have px := p9 _ (Nat.mod_lt (s * T.A.n + t) hB0)
        have hmx := Nat.mod_lt (s * T.A.n + t) hB0
        have r10 := r9 hB0
        have mx := emod_in (x := B.f ((s * T.A.n + t) % B.n)) (b := T.hi s t - T.lo s t + 1) (by omega)
        have ed : drawn T B s t = T.lo s t + B.f ((s * T.A.n + t) % B.n) % (T.hi s t - T.lo s t + 1) := by unfold drawn; rw [if_neg (by omega)]
        (focus ((try with_reducible apply wpC.to); (repeat' ((conv => whnf); first | refine byEv ?_ | ((apply Fork.mk) <;> (intro _; try (exfalso; omega; done))) | ((apply Load1.mk); (focus ((repeat (first | (apply el_lo <;> first | assumption | omega) | (apply el_hi <;> first | assumption | omega) | apply bump_old | ((apply put_old); focus (dsimp only [aadd]; omega)) | ((apply quiet_old); (focus assumption); focus (dsimp only [aadd]; omega)) | ((apply same_old); (focus assumption); focus (dsimp only [aadd]; omega)))); done)); (focus exact byVal)) | fail)); all_goals (conv => whnf); all_goals (try with_reducible apply At.mk)))
        apply q_appI (r := q1) (n := t) (f := drawn T B s) (v := v1)
        case G => exact G1.frame fun h0 => get_of fun y hy => by have := hq h0; (exact byGet)
        case hsv => exact rfl
        case C => rw [ed]; exact Cells.one (by (exact byMem)) (by unfold far; omega) rfl rfl
        case hlo => omega
        case hlr => exact fun h0 => by have := hq h0; omega
        case hsm => omega
        intro v1' q1' row1 a1 a2 a3 G1'
        have c1 : h1.next ≤ q1' ∧ (q1' < h2.next ∨ h2.next + 10 ≤ q1') := by
          rcases Nat.eq_zero_or_pos t with h0 | h0
          · have := a1 h0; omega
          · have := a2 h0; have := hq h0; omega
        (focus ((try with_reducible apply wpC.to); (repeat' ((conv => whnf); first | refine byEv ?_ | ((apply Fork.mk) <;> (intro _; try (exfalso; omega; done))) | ((apply Load1.mk); (focus ((repeat (first | (apply el_lo <;> first | assumption | omega) | (apply el_hi <;> first | assumption | omega) | apply bump_old | ((apply put_old); focus (dsimp only [aadd]; omega)) | ((apply quiet_old); (focus assumption); focus (dsimp only [aadd]; omega)) | ((apply same_old); (focus assumption); focus (dsimp only [aadd]; omega)))); done)); (focus exact byVal)) | fail)); all_goals (conv => whnf); all_goals (try with_reducible apply At.mk)))
        refine hK' (t + 1, v1', q1') _ _ ⟨rfl, rfl, rfl, int_of rfl (by dsimp only; omega), rfl, rfl, int_of rfl (by dsimp only; omega), trivial⟩ ⟨by (exact byGet), by (exact bySame), by (exact byOm), by dsimp only; omega, G1'.frame fun _ => rfl, fun _ => ⟨by dsimp only; omega, by dsimp only; (exact byOm)⟩, hL1.frame (Nat.le_refl _) fun r hr1 hr2 _ => get_of fun y hy => by (exact byGet)⟩ (by dsimp only; omega)
      · have ed : drawn T B s t = T.lo s t := by unfold drawn; rw [if_pos (by omega)]
        apply q_appI (r := q1) (n := t) (f := drawn T B s) (v := v1)
        case G => exact G1.frame fun h0 => get_of fun y hy => by have := hq h0; (exact byGet)
        case hsv => exact rfl
        case C => rw [ed]; exact Cells.one (by (exact byMem)) (by unfold far; omega) rfl rfl
        case hlo => omega
        case hlr => exact fun h0 => by have := hq h0; omega
        case hsm => omega
        intro v1' q1' row1 a1 a2 a3 G1'
        have c1 : h1.next ≤ q1' ∧ (q1' < h2.next ∨ h2.next + 10 ≤ q1') := by
          rcases Nat.eq_zero_or_pos t with h0 | h0
          · have := a1 h0; omega
          · have := a2 h0; have := hq h0; omega
        (focus ((try with_reducible apply wpC.to); (repeat' ((conv => whnf); first | refine byEv ?_ | ((apply Fork.mk) <;> (intro _; try (exfalso; omega; done))) | ((apply Load1.mk); (focus ((repeat (first | (apply el_lo <;> first | assumption | omega) | (apply el_hi <;> first | assumption | omega) | apply bump_old | ((apply put_old); focus (dsimp only [aadd]; omega)) | ((apply quiet_old); (focus assumption); focus (dsimp only [aadd]; omega)) | ((apply same_old); (focus assumption); focus (dsimp only [aadd]; omega)))); done)); (focus exact byVal)) | fail)); all_goals (conv => whnf); all_goals (try with_reducible apply At.mk)))
        refine hK' (t + 1, v1', q1') _ _ ⟨rfl, rfl, rfl, int_of rfl (by dsimp only; omega), rfl, rfl, int_of rfl (by dsimp only; omega), trivial⟩ ⟨by (exact byGet), by (exact bySame), by (exact byOm), by dsimp only; omega, G1'.frame fun _ => rfl, fun _ => ⟨by dsimp only; omega, by dsimp only; (exact byOm)⟩, hL1.frame (Nat.le_refl _) fun r hr1 hr2 _ => get_of fun y hy => by (exact byGet)⟩ (by dsimp only; omega)
    · obtain rfl : t = T.R.w s := by omega
      have hq' := hq (by omega)
      have R1 := G1.row (by omega)
      obtain ⟨x1, rfl, hx1, -⟩ := R1.ints
      (focus ((try with_reducible apply wpC.to); (repeat' ((conv => whnf); first | refine byEv ?_ | ((apply Fork.mk) <;> (intro _; try (exfalso; omega; done))) | ((apply Load1.mk); (focus ((repeat (first | (apply el_lo <;> first | assumption | omega) | (apply el_hi <;> first | assumption | omega) | apply bump_old | ((apply put_old); focus (dsimp only [aadd]; omega)) | ((apply quiet_old); (focus assumption); focus (dsimp only [aadd]; omega)) | ((apply same_old); (focus assumption); focus (dsimp only [aadd]; omega)))); done)); (focus exact byVal)) | fail)); all_goals (conv => whnf); all_goals (try with_reducible apply At.mk)))
      apply q_appLB (O := O1) (O' := fun j => O1 j ∨ j = q1 ∨ j = h2.next + 11) (M := M1) (s := s) (b := h.next + 1) (m := h1.next) (w := T.R.w s) (rc := 0) (cx := 1) (F := drawn T B) (rb := some x1) (ra := x1)
      case hP => exact hL1.frame (Nat.le_refl _) fun r hr1 hr2 _ => get_of fun y hy => by (exact byGet)
      case hO => exact fun _ h => .inl h
      case hO1 => exact .inr (.inr rfl)
      case hsv => exact rfl
      case hx => exact rfl
      case hcx => unfold far; omega
      case hld => (exact byMem)
      case e6 => exact fun _ => rfl
      case G6 => exact fun _ => by rw [hx1]; exact R1.frame (get_of fun y hy => by (exact byGet))
      case r6 => exact fun _ => ⟨by rw [hx1]; omega, .inr (.inl hx1)⟩
      case l6 => exact lw
      case f6 => exact fun _ => by unfold far; omega
      case hlo => omega
      case hbm => omega
      case hm => omega
      case hsm => omega
      intro a4 r row d1 d2 d3 hP3
      (focus ((try with_reducible apply wpC.to); (repeat' ((conv => whnf); first | refine byEv ?_ | ((apply Fork.mk) <;> (intro _; try (exfalso; omega; done))) | ((apply Load1.mk); (focus ((repeat (first | (apply el_lo <;> first | assumption | omega) | (apply el_hi <;> first | assumption | omega) | apply bump_old | ((apply put_old); focus (dsimp only [aadd]; omega)) | ((apply quiet_old); (focus assumption); focus (dsimp only [aadd]; omega)) | ((apply same_old); (focus assumption); focus (dsimp only [aadd]; omega)))); done)); (focus exact byVal)) | fail)); all_goals (conv => whnf); all_goals (try with_reducible apply At.mk)))
      refine hK (s + 1, some a4, M1.add s (some x1) (T.R.w s) 0 x1) _ _ ⟨rfl, rfl, rfl, int_of rfl (by rw [hww, Nat.succ_mul]), int_of rfl (by dsimp only; omega), trivial⟩ ⟨by (exact byGet), by (exact bySame), by (exact byOm), by dsimp only; omega, fun i hi => ?_, (fun j => O1 j ∨ j = q1 ∨ j = h2.next + 11), ?_, hP3.frame (by (exact byOm)) fun j hj1 hj2 ho => rfl⟩ (by dsimp only; omega)
      · dsimp only at hi ⊢
        by_cases e : i = s
        · simp only [Mat.add, if_pos e]; exact hww
        · simp only [Mat.add, if_neg e]; exact hw1 i (by omega)
      · rintro j (h1 | h1 | h1)
        · have := hOb j h1; (exact byOm)
        · (exact byOm)
        · (exact byOm)
  · obtain rfl : s = T.R.n := by omega
    obtain ⟨a1, o1⟩ := hP1.om l1
    (focus ((try with_reducible apply wpC.to); (repeat' ((conv => whnf); first | refine byEv ?_ | ((apply Fork.mk) <;> (intro _; try (exfalso; omega; done))) | ((apply Load1.mk); (focus ((repeat (first | (apply el_lo <;> first | assumption | omega) | (apply el_hi <;> first | assumption | omega) | apply bump_old | ((apply put_old); focus (dsimp only [aadd]; omega)) | ((apply quiet_old); (focus assumption); focus (dsimp only [aadd]; omega)) | ((apply same_old); (focus assumption); focus (dsimp only [aadd]; omega)))); done)); (focus exact byVal)) | fail)); all_goals (conv => whnf); all_goals (try with_reducible apply At.mk)))
    (refine byFin ?_)
    refine ⟨⟨{ M1 with n := T.R.n, b := v4, a := a1, c := 0 }, drawn T B⟩, rfl, ⟨O1, OM.lower (b := h.next + 1) (m := h1.next) (o1.frame (Nat.le_refl _) fun _ _ _ _ => rfl) (by omega) (by (exact byOm))⟩, ⟨gn, fun i hi => hw1 i (by omega)⟩, rfl, fun h0 => ?_, rfl⟩
    obtain ⟨a4, hv, G4, -⟩ := hP1.out h0
    have hv2 := o1.e h0
    obtain ⟨z, _, _, hz, -⟩ := G4.is
    have e1 : a4 = a1 := Option.some.inj (hv.symm.trans hv2)
    have e2 := Option.some.inj hz
    exact ⟨z, by show a1.spot = some z; rw [← e1, e2]⟩
theorem draw_w {h : H} {T : Tbl} {B : Arr} {m : Nat} (hm : m ≤ h.next) (hT : T.Ok m h) (g : T.Good) (hB : By .u32 B m h) : AW Try.prog 31 h.next h [.agg ⟨T.cells⟩, .slice B.b B.n B.c] (fun v h' => ∃ A : Pul, v = .slice A.M.b A.M.n A.M.c ∧ (∃ O : Nat → Prop, OM O A h.next h'.next h') ∧ (A.M.n = T.P.n ∧ ∀ i, i < T.P.n → A.M.w i = T.A.n) ∧ A.f = drawn T B) := by
  obtain ⟨v, h', ⟨A, h1, h2, h3, h4, -⟩, a⟩ := draw_s hm hT g hB
  exact ⟨v, h', ⟨A, h1, h2, h3, h4⟩, a⟩
end AE.Try
