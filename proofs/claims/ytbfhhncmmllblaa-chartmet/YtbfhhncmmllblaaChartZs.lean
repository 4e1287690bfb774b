/- Walks of the laws of charts: ChartMet. -/
import Derived.Test.YtbfhhncmmllblaaChartZr
import Derived.Test.YtbfhhncmmllblaaChartZi
set_option linter.unusedVariables false
set_option linter.unusedSimpArgs false
set_option linter.unusedSectionVars false
namespace AE.Try
open Go AE Go.Proofs
set_option maxRecDepth 100000
set_option linter.unusedVariables false

section
variable {T : Tbl} {x : Int} {n n' : Nd} {f f' : Nat → Nat → Int}
theorem merr_eq {A : Pul} (g : T.Good) (t : T.True A) (fl : T.Fall A.f) (o : On T.P.f T.P.n x) (hn : n.Ok) : T.merr A x n = if (T.mres A.f x n).2 = Bool.true then 0 else 5 := by
  have e1 : T.nderr x n = 0 := by unfold Tbl.nderr; rw [if_neg (fun k => k hn), if_neg (fun k => k o)]
  unfold Tbl.merr
  rw [if_neg (fun k => k (t.err g)), if_neg (fun k => k e1), if_neg]
  rintro ⟨i, hi, hd⟩
  exact hd fun k hk => fl i k hi (by omega)
theorem mserr_eq (g : T.Good) (t0 : T.err = 0) (o : On T.P.f T.P.n x) (hn : n.Ok) : T.mserr x n = if (T.mres T.lo x n).2 = Bool.true ∧ (T.mres T.hi x n).2 = Bool.true then 0 else 5 := by
  have e1 : T.nderr x n = 0 := by unfold Tbl.nderr; rw [if_neg (fun k => k hn), if_neg (fun k => k o)]
  unfold Tbl.mserr
  rw [if_neg (fun k => k t0), if_neg (fun k => k e1)]
theorem lo_fall (g : T.Good) : T.Fall T.lo := fun i k hi hk => (g.fl i k hi hk).1
theorem hi_fall (g : T.Good) : T.Fall T.hi := fun i k hi hk => (g.fl i k hi hk).2
theorem ab_le (g : T.Good) (o : On T.P.f T.P.n x) (h : ∀ i k, i < T.P.n → k < T.A.n → f i k ≤ f' i k) {k : Nat} (hk : k < T.A.n) : T.ab f x n k ≤ T.ab f' x n k := by
  have := pw_le (x := x) g o h hk
  rw [ab_eq, ab_eq]
  omega
theorem ab_base (g : T.Good) (o : On T.P.f T.P.n x) (hb : n.b ≤ n'.b) (hs : n'.s = n.s) (k : Nat) : T.ab f x n' k ≤ T.ab f x n k := by
  obtain ⟨n1, n2, n3, n4⟩ := near g o
  have := Int.mul_le_mul_of_nonneg_left (show n.b + n.s * T.A.f k ≤ n'.b + n.s * T.A.f k by omega) (Int.le_of_lt n4)
  rw [ab_eq, ab_eq, hs]
  omega
theorem met_between (g : T.Good) (fl : T.Fall f) (o : On T.P.f T.P.n x) (hn : n.Ok) (hf : ∀ i k, i < T.P.n → k < T.A.n → T.lo i k ≤ f i k ∧ f i k ≤ T.hi i k) (h1 : (T.mres T.lo x n).2 = Bool.true) (h2 : (T.mres T.hi x n).2 = Bool.true) : (T.mres f x n).2 = Bool.true := by
  have a2 := g.a2
  have k1 := (mres_iff g o (lo_fall g) hn).1 h1
  have k2 := (mres_iff g o (hi_fall g) hn).1 h2
  refine (mres_iff g o fl hn).2 ⟨Int.le_trans k1.1 (ab_le g o (fun i k hi hk => (hf i k hi hk).1) (by omega)), Int.le_trans (ab_le g o (fun i k hi hk => (hf i k hi hk).2) (by omega)) k2.2⟩
theorem root_rng {A g : Nat → Int} {m q : Nat} {y : Fr} (k : RootAt A g m y q) (hm : 2 ≤ m) (hA : ∀ j, j + 1 < m → A j < A (j + 1)) (h0 : ∀ j, j < m → 0 ≤ A j ∧ A j ≤ 100) (hg : ∀ j, j < m → -2611000 ≤ g j ∧ g j ≤ 100000) : (1 ≤ y.d ∧ y.d ≤ 2711000) ∧ (0 ≤ y.n ∧ y.n ≤ 271100000) ∧ A 0 * y.d ≤ y.n ∧ y.n ≤ A (m - 1) * y.d := by
  obtain ⟨b1, b2, b3, b4, b5, b6⟩ := k.between hm hA
  have r := root_small k hA hg
  have c1 := h0 (q - 1) (by omega)
  have c2 := h0 (q - 1 + 1) b1
  have m1 := Int.mul_nonneg c1.1 (show 0 ≤ y.d by omega)
  have m2 := mul4 c2.1 c2.2 (show 0 ≤ y.d by omega) r.1
  have u1 := up_le hA (i := 0) (q - 1) (by omega)
  rw [Nat.zero_add] at u1
  have u2 := up_le hA (i := q - 1 + 1) (m - 1 - (q - 1 + 1)) (by omega)
  rw [show q - 1 + 1 + (m - 1 - (q - 1 + 1)) = m - 1 by omega] at u2
  have v1 := Int.mul_le_mul_of_nonneg_right u1 (show 0 ≤ y.d by omega)
  have v2 := Int.mul_le_mul_of_nonneg_right u2 (show 0 ≤ y.d by omega)
  exact ⟨⟨by omega, r.1⟩, ⟨by omega, by omega⟩, by omega, by omega⟩
theorem root_cf {A g g' : Nat → Int} {m q q' : Nat} {y y' : Fr} (k : RootAt A g m y q) (k' : RootAt A g' m y' q') (hm : 2 ≤ m) (hA : ∀ j, j + 1 < m → A j < A (j + 1)) (h0 : ∀ j, j < m → 0 ≤ A j ∧ A j ≤ 100) (hg : ∀ j, j < m → -2611000 ≤ g j ∧ g j ≤ 100000) (hg' : ∀ j, j < m → -2611000 ≤ g' j ∧ g' j ≤ 100000) (hl : ∀ j, j < m → g j ≤ g' j) : CF 0 y y' := by
  have r1 := root_rng k hm hA h0 hg
  have r2 := root_rng k' hm hA h0 hg'
  exact CF.first (by omega) (by omega) (by omega) (by omega) (k.le k' hA hl)
end

section
variable {h h' hh : H} {T : Tbl} {A : Pul} {m m' : Nat} {x : Int} {n : Nd}
theorem meet_ok (hT : T.Ok m h) (hA : A.Ok m' h') (g : T.Good) (tA : T.True A) (fA : T.Fall A.f) (o : On T.P.f T.P.n x) (hn : n.Ok) (hM : (T.mres A.f x n).2 = Bool.true) (k1 : m ≤ hh.next) (k2 : m' ≤ hh.next) (s1 : Same m h hh) (s2 : Same m' h' hh) : AW Try.prog 23 hh.next hh [.agg ⟨T.cells⟩, .slice A.M.b A.M.n A.M.c, .int .i64 x, .agg ⟨n.cells⟩] (fun v _ => v = .tuple #[.agg ⟨(T.mres A.f x n).1.cells⟩, .int .i64 0]) := by
  have e := merr_eq g tA fA o hn
  rw [if_pos hM] at e
  have := Meet_w (T := T) (p := A) (x := x) (n := n) (m := max m m') (h := hh) (by omega) (hT.same s1 (by omega)) (hA.same s2 (by omega)) (by have := hn.s0; have := hn.s1; omega)
  unfold Tbl.mval at this
  rw [e, if_pos rfl] at this
  exact this
theorem meet_none (hT : T.Ok m h) (hA : A.Ok m' h') (g : T.Good) (tA : T.True A) (fA : T.Fall A.f) (o : On T.P.f T.P.n x) (hn : n.Ok) (hM : ¬ (T.mres A.f x n).2 = Bool.true) (k1 : m ≤ hh.next) (k2 : m' ≤ hh.next) (s1 : Same m h hh) (s2 : Same m' h' hh) : AW Try.prog 23 hh.next hh [.agg ⟨T.cells⟩, .slice A.M.b A.M.n A.M.c, .int .i64 x, .agg ⟨n.cells⟩] (fun v _ => v = .tuple #[.agg ⟨(⟨0, 0⟩ : Fr).cells⟩, .int .i64 5]) := by
  have e := merr_eq g tA fA o hn
  rw [if_neg hM] at e
  have := Meet_w (T := T) (p := A) (x := x) (n := n) (m := max m m') (h := hh) (by omega) (hT.same s1 (by omega)) (hA.same s2 (by omega)) (by have := hn.s0; have := hn.s1; omega)
  unfold Tbl.mval at this
  rw [e, if_neg (by decide)] at this
  exact this
theorem meets_ok (hT : T.Ok m h) (g : T.Good) (o : On T.P.f T.P.n x) (hn : n.Ok) (hS : (T.mres T.lo x n).2 = Bool.true ∧ (T.mres T.hi x n).2 = Bool.true) (k1 : m ≤ hh.next) (s1 : Same m h hh) : AW Try.prog 25 hh.next hh [.agg ⟨T.cells⟩, .int .i64 x, .agg ⟨n.cells⟩] (fun v _ => v = .tuple #[.agg ⟨(T.mres T.lo x n).1.cells ++ (T.mres T.hi x n).1.cells⟩, .int .i64 0]) := by
  have e := mserr_eq g g.err o hn
  rw [if_pos hS] at e
  have := Meets_w (T := T) (x := x) (n := n) (m := m) (h := hh) k1 (hT.same s1 (Nat.le_refl _)) (by have := hn.s0; have := hn.s1; omega)
  unfold Tbl.msval at this
  rw [e, if_pos rfl] at this
  exact this
theorem meets_none (hT : T.Ok m h) (g : T.Good) (o : On T.P.f T.P.n x) (hn : n.Ok) (hS : ¬ ((T.mres T.lo x n).2 = Bool.true ∧ (T.mres T.hi x n).2 = Bool.true)) (k1 : m ≤ hh.next) (s1 : Same m h hh) : AW Try.prog 25 hh.next hh [.agg ⟨T.cells⟩, .int .i64 x, .agg ⟨n.cells⟩] (fun v _ => v = .tuple #[.agg ⟨(⟨0, 0⟩ : Fr).cells ++ (⟨0, 0⟩ : Fr).cells⟩, .int .i64 5]) := by
  have e := mserr_eq g g.err o hn
  rw [if_neg hS] at e
  have := Meets_w (T := T) (x := x) (n := n) (m := m) (h := hh) k1 (hT.same s1 (Nat.le_refl _)) (by have := hn.s0; have := hn.s1; omega)
  unfold Tbl.msval at this
  rw [e, if_neg (by decide)] at this
  exact this
end

set_option maxHeartbeats 8000000 in
theorem met_law {h : H} {T : Tbl} {B : Arr} {m : Nat} {x y b s mo : Int} (hm : m ≤ h.next) (hT : T.Ok m h) (hB : By .u32 B m h) (hx : 0 ≤ x ∧ x < 65536) (hy : 0 ≤ y ∧ y < 65536) (hb : 0 ≤ b ∧ b < 256) (hs : 0 ≤ s ∧ s < 256) (hmo : 0 ≤ mo ∧ mo < 256) : AW Try.prog 7 h.next h [.agg ⟨T.cells⟩, .slice B.b B.n B.c, .agg ⟨[.int .u16 x, .int .u16 y]⟩, .int .u8 b, .int .u8 s, .int .u8 mo] (fun v _ => v = .bool true) := by
  have lB := hB.l
  refine fun7.call rfl (Nat.le_refl _) ?_
  unfold a7 Tbl.cells
  (focus ((try with_reducible apply wpC.to); (repeat' ((conv => whnf); first | refine byEv ?_ | ((apply Fork.mk) <;> (intro _; try (exfalso; omega; done))) | ((apply q_call); (focus exact byNext); (focus exact byLo); (focus (first | exact kChartZe0 | exact kChartZe0 | exact kChartRd0 | exact kChartY2)); first | ((apply q_allB) <;> (intro z_b _ _ _; first | exact Bool.noConfusion z_b | replace z_b := of_decide_eq_true z_b | replace z_b := of_decide_eq_false z_b | skip) <;> (first | contradiction | (revert z_b; intros))) | ((apply q_alli) <;> (intro _ _ _ _; try contradiction)) | ((apply q_allv); intro _ _ _)) | ((apply Load1.mk); (focus ((repeat (first | (apply el_lo <;> first | assumption | omega) | (apply el_hi <;> first | assumption | omega) | apply bump_old | ((apply put_old); focus (dsimp only [aadd]; omega)) | ((apply quiet_old); (focus assumption); focus (dsimp only [aadd]; omega)) | ((apply same_old); (focus assumption); focus (dsimp only [aadd]; omega)))); done)); (focus exact byVal)) | fail)); all_goals (conv => whnf); all_goals (try with_reducible apply At.mk)))
  apply q_call
  focus (exact byNext)
  focus (exact byLo)
  focus exact fine_w (T := T) (m := m) (by (exact byOm)) (hT.same (by (exact bySame)) (Nat.le_refl _))
  rintro _ h1 ⟨c, rfl, hc⟩ q1 n1
  cases c
  · (focus ((try with_reducible apply wpC.to); (repeat' ((conv => whnf); first | refine byEv ?_ | ((apply Fork.mk) <;> (intro _; try (exfalso; omega; done))) | ((apply q_call); (focus exact byNext); (focus exact byLo); (focus (first | exact kChartZe0 | exact kChartZe0 | exact kChartRd0 | exact kChartY2)); first | ((apply q_allB) <;> (intro z_b _ _ _; first | exact Bool.noConfusion z_b | replace z_b := of_decide_eq_true z_b | replace z_b := of_decide_eq_false z_b | skip) <;> (first | contradiction | (revert z_b; intros))) | ((apply q_alli) <;> (intro _ _ _ _; try contradiction)) | ((apply q_allv); intro _ _ _)) | ((apply Load1.mk); (focus ((repeat (first | (apply el_lo <;> first | assumption | omega) | (apply el_hi <;> first | assumption | omega) | apply bump_old | ((apply put_old); focus (dsimp only [aadd]; omega)) | ((apply quiet_old); (focus assumption); focus (dsimp only [aadd]; omega)) | ((apply same_old); (focus assumption); focus (dsimp only [aadd]; omega)))); done)); (focus exact byVal)) | fail)); all_goals (conv => whnf); all_goals (try with_reducible apply At.mk)))
    (refine byFin ?_)
    rfl
  have g := hc rfl
  have gp8 := g.p8
  have ga10 := g.a10
  have ga2 := g.a2
  have gp2 := g.p2
  have gn := g.n
  have hT1 : T.Ok m h1 := hT.same (by (exact bySame)) (Nat.le_refl _)
  obtain ⟨kp1, kp2, kp3, kp4⟩ := hT1.P
  obtain ⟨ka1, ka2, ka3, ka4⟩ := hT1.A
  (focus ((try with_reducible apply wpC.to); (repeat' ((conv => whnf); first | refine byEv ?_ | ((apply Fork.mk) <;> (intro _; try (exfalso; omega; done))) | ((apply q_call); (focus exact byNext); (focus exact byLo); (focus (first | exact kChartZe0 | exact kChartZe0 | exact kChartRd0 | exact kChartY2)); first | ((apply q_allB) <;> (intro z_b _ _ _; first | exact Bool.noConfusion z_b | replace z_b := of_decide_eq_true z_b | replace z_b := of_decide_eq_false z_b | skip) <;> (first | contradiction | (revert z_b; intros))) | ((apply q_alli) <;> (intro _ _ _ _; try contradiction)) | ((apply q_allv); intro _ _ _)) | ((apply Load1.mk); (focus ((repeat (first | (apply el_lo <;> first | assumption | omega) | (apply el_hi <;> first | assumption | omega) | apply bump_old | ((apply put_old); focus (dsimp only [aadd]; omega)) | ((apply quiet_old); (focus assumption); focus (dsimp only [aadd]; omega)) | ((apply same_old); (focus assumption); focus (dsimp only [aadd]; omega)))); done)); (focus exact byVal)) | fail)); all_goals (conv => whnf); all_goals (try with_reducible apply At.mk)))
  · (refine byFin ?_)
    rfl
  · (refine byFin ?_)
    rfl
  · (refine byFin ?_)
    rfl
  have hpS : T.P.f (T.P.n - 1) ≤ 100 := by assumption
  have haS : T.A.f (T.A.n - 1) ≤ 100 := by assumption
  refine wp_loop (fun s' : Nat => [(1, .slice B.b B.n B.c), (3, .int .u8 b), (4, .int .u8 s), (5, .int .u8 mo), (6, .pointer (some ⟨h.next, 0, none⟩)), (8, .pointer (some ⟨h.next + 1, 0, none⟩)), (13, .int .i64 s')])
    (fun s' h1 => h1.get h.next = some (.cells (exBox T) 25) ∧ h1.get (h.next + 1) = some (.cells [.int .u16 x, .int .u16 y] 56) ∧ Same m h h1 ∧ h.next + 2 ≤ h1.next ∧ s' ≤ T.R.n ∧ ∀ i, i < s' → T.hi i 0 ≤ 1000) (fun s' => T.R.n - s') 0 ⟨rfl, rfl, rfl, rfl, rfl, rfl, rfl, trivial⟩ ⟨by unfold exBox; (exact byGet), by (exact byGet), by (exact bySame), by (exact byOm), by omega, fun i hi => absurd hi (Nat.not_lt_zero i)⟩ ?_
  rintro s' g' h2 ⟨x1, x2, sm1, n2, hs1, hs2⟩ K hK
  unfold exBox at x1
  obtain ⟨re1, ri1, rr1, rl1, re2, ri2, rr2, rl2⟩ := hT.R
  have ri5 := ri1.same sm1 rr1
  by_cases hsn : s' < T.R.n
  · have gw := g.w s' (by omega)
    have re7 := re2 s' hsn
    have ri7 := (ri2 s' hsn).same sm1 (rr2 s' hsn)
    have rr7 := rr2 s' hsn (by omega)
    (focus ((try with_reducible apply wpC.to); (repeat' ((conv => whnf); first | refine byEv ?_ | ((apply Fork.mk) <;> (intro _; try (exfalso; omega; done))) | ((apply q_call); (focus exact byNext); (focus exact byLo); (focus (first | exact kChartZe0 | exact kChartZe0 | exact kChartRd0 | exact kChartY2)); first | ((apply q_allB) <;> (intro z_b _ _ _; first | exact Bool.noConfusion z_b | replace z_b := of_decide_eq_true z_b | replace z_b := of_decide_eq_false z_b | skip) <;> (first | contradiction | (revert z_b; intros))) | ((apply q_alli) <;> (intro _ _ _ _; try contradiction)) | ((apply q_allv); intro _ _ _)) | ((apply Load1.mk); (focus ((repeat (first | (apply el_lo <;> first | assumption | omega) | (apply el_hi <;> first | assumption | omega) | apply bump_old | ((apply put_old); focus (dsimp only [aadd]; omega)) | ((apply quiet_old); (focus assumption); focus (dsimp only [aadd]; omega)) | ((apply same_old); (focus assumption); focus (dsimp only [aadd]; omega)))); done)); (focus exact byVal)) | fail)); all_goals (conv => whnf); all_goals (try with_reducible apply At.mk)))
    · (refine byFin ?_)
      rfl
    · refine hK (s' + 1) _ _ ⟨rfl, rfl, rfl, rfl, rfl, rfl, int_of rfl (by omega), trivial⟩ ⟨by unfold exBox; (exact byGet), by (exact byGet), by (exact bySame), by (exact byOm), by omega, fun i hi => ?_⟩ (by omega)
      by_cases e : i = s'
      · subst e; assumption
      · exact hs2 i (by omega)
  · obtain rfl : s' = T.R.n := by omega
    have sm : T.Small := ⟨hpS, haS, fun i k hi hk => by
      have h0 := hs2 i (by omega)
      have : ∀ k, k < T.A.n → T.hi i k ≤ 1000 := fun k => by
        induction k with
        | zero => exact fun _ => h0
        | succ k ih => exact fun hk => Int.le_trans (g.fl i k hi hk).2 (ih (by omega))
      exact this k hk⟩
    have hA100 : ∀ j, j < T.A.n → 0 ≤ T.A.f j ∧ T.A.f j ≤ 100 := fun j hj => by
      have := g.ra.rng j hj
      have := g.ra.le (i := j) (j := T.A.n - 1) (by omega) (by omega)
      omega
    (focus ((try with_reducible apply wpC.to); (repeat' ((conv => whnf); first | refine byEv ?_ | ((apply Fork.mk) <;> (intro _; try (exfalso; omega; done))) | ((apply q_call); (focus exact byNext); (focus exact byLo); (focus (first | exact kChartZe0 | exact kChartZe0 | exact kChartRd0 | exact kChartY2)); first | ((apply q_allB) <;> (intro z_b _ _ _; first | exact Bool.noConfusion z_b | replace z_b := of_decide_eq_true z_b | replace z_b := of_decide_eq_false z_b | skip) <;> (first | contradiction | (revert z_b; intros))) | ((apply q_alli) <;> (intro _ _ _ _; try contradiction)) | ((apply q_allv); intro _ _ _)) | ((apply Load1.mk); (focus ((repeat (first | (apply el_lo <;> first | assumption | omega) | (apply el_hi <;> first | assumption | omega) | apply bump_old | ((apply put_old); focus (dsimp only [aadd]; omega)) | ((apply quiet_old); (focus assumption); focus (dsimp only [aadd]; omega)) | ((apply same_old); (focus assumption); focus (dsimp only [aadd]; omega)))); done)); (focus exact byVal)) | fail)); all_goals (conv => whnf); all_goals (try with_reducible apply At.mk)))
    apply q_call
    focus (exact byNext)
    focus (exact byLo)
    focus exact falling_w (T := T) (B := B) (m := m) (by (exact byOm)) (hT.same (by (exact bySame)) (Nat.le_refl _)) g (hB.same (by (exact bySame)) (Nat.le_refl _))
    rintro _ h3 ⟨A, rfl, ⟨O, oA⟩, ⟨an, aw⟩, rA, fA⟩ q3 n3
    simp only [bump_next] at oA
    have kA : A.Ok h3.next h3 := oA.ok
    have tA : T.True A := ⟨an, aw, rA⟩
    (focus ((try with_reducible apply wpC.to); (repeat' ((conv => whnf); first | refine byEv ?_ | ((apply Fork.mk) <;> (intro _; try (exfalso; omega; done))) | ((apply q_call); (focus exact byNext); (focus exact byLo); (focus (first | exact kChartZe0 | exact kChartZe0 | exact kChartRd0 | exact kChartY2)); first | ((apply q_allB) <;> (intro z_b _ _ _; first | exact Bool.noConfusion z_b | replace z_b := of_decide_eq_true z_b | replace z_b := of_decide_eq_false z_b | skip) <;> (first | contradiction | (revert z_b; intros))) | ((apply q_alli) <;> (intro _ _ _ _; try contradiction)) | ((apply q_allv); intro _ _ _)) | ((apply Load1.mk); (focus ((repeat (first | (apply el_lo <;> first | assumption | omega) | (apply el_hi <;> first | assumption | omega) | apply bump_old | ((apply put_old); focus (dsimp only [aadd]; omega)) | ((apply quiet_old); (focus assumption); focus (dsimp only [aadd]; omega)) | ((apply same_old); (focus assumption); focus (dsimp only [aadd]; omega)))); done)); (focus exact byVal)) | fail)); all_goals (conv => whnf); all_goals (try with_reducible apply At.mk)))
    apply q_call
    focus (exact byNext)
    focus (exact byLo)
    focus exact point_w (T := T) (m := m) (by (exact byOm)) (hT.same (by (exact bySame)) (Nat.le_refl _)) g hx hy
    rintro _ h4 ⟨p, rfl, op⟩ q4 n4
    have ox := op.1
    unfold Pt.cells
    (focus ((try with_reducible apply wpC.to); (repeat' ((conv => whnf); first | refine byEv ?_ | ((apply Fork.mk) <;> (intro _; try (exfalso; omega; done))) | ((apply q_call); (focus exact byNext); (focus exact byLo); (focus (first | exact kChartZe0 | exact kChartZe0 | exact kChartRd0 | exact kChartY2)); first | ((apply q_allB) <;> (intro z_b _ _ _; first | exact Bool.noConfusion z_b | replace z_b := of_decide_eq_true z_b | replace z_b := of_decide_eq_false z_b | skip) <;> (first | contradiction | (revert z_b; intros))) | ((apply q_alli) <;> (intro _ _ _ _; try contradiction)) | ((apply q_allv); intro _ _ _)) | ((apply Load1.mk); (focus ((repeat (first | (apply el_lo <;> first | assumption | omega) | (apply el_hi <;> first | assumption | omega) | apply bump_old | ((apply put_old); focus (dsimp only [aadd]; omega)) | ((apply quiet_old); (focus assumption); focus (dsimp only [aadd]; omega)) | ((apply same_old); (focus assumption); focus (dsimp only [aadd]; omega)))); done)); (focus exact byVal)) | fail)); all_goals (conv => whnf); all_goals (try with_reducible apply At.mk)))
    have hn : (⟨b, 1 + s⟩ : Nd).Ok := ⟨by dsimp only; omega, by dsimp only; omega, by dsimp only; omega, by dsimp only; omega⟩
    have hn2 : (⟨b + mo, 1 + s⟩ : Nd).Ok := ⟨by dsimp only; omega, by dsimp only; omega, by dsimp only; omega, by dsimp only; omega⟩
    by_cases hM : (T.mres A.f p.p ⟨b, 1 + s⟩).2 = Bool.true
    rotate_left
    · have hS : ¬ ((T.mres T.lo p.p ⟨b, 1 + s⟩).2 = Bool.true ∧ (T.mres T.hi p.p ⟨b, 1 + s⟩).2 = Bool.true) := fun k => hM (met_between g fA ox hn rA k.1 k.2)
      apply q_callv
      focus (exact byNext)
      focus (exact byLo)
      focus exact meet_none hT kA g tA fA ox hn hM (by (exact byOm)) (by (exact byOm)) (by (exact bySame)) (by (exact bySame))
      intro h5 q5 n5
      (focus ((try with_reducible apply wpC.to); (repeat' ((conv => whnf); first | refine byEv ?_ | ((apply Fork.mk) <;> (intro _; try (exfalso; omega; done))) | ((apply q_call); (focus exact byNext); (focus exact byLo); (focus (first | exact kChartZe0 | exact kChartZe0 | exact kChartRd0 | exact kChartY2)); first | ((apply q_allB) <;> (intro z_b _ _ _; first | exact Bool.noConfusion z_b | replace z_b := of_decide_eq_true z_b | replace z_b := of_decide_eq_false z_b | skip) <;> (first | contradiction | (revert z_b; intros))) | ((apply q_alli) <;> (intro _ _ _ _; try contradiction)) | ((apply q_allv); intro _ _ _)) | ((apply Load1.mk); (focus ((repeat (first | (apply el_lo <;> first | assumption | omega) | (apply el_hi <;> first | assumption | omega) | apply bump_old | ((apply put_old); focus (dsimp only [aadd]; omega)) | ((apply quiet_old); (focus assumption); focus (dsimp only [aadd]; omega)) | ((apply same_old); (focus assumption); focus (dsimp only [aadd]; omega)))); done)); (focus exact byVal)) | fail)); all_goals (conv => whnf); all_goals (try with_reducible apply At.mk)))
      apply q_callv
      focus (exact byNext)
      focus (exact byLo)
      focus exact meets_none hT g ox hn hS (by (exact byOm)) (by (exact bySame))
      intro h6 q6 n6
      (focus ((try with_reducible apply wpC.to); (repeat' ((conv => whnf); first | refine byEv ?_ | ((apply Fork.mk) <;> (intro _; try (exfalso; omega; done))) | ((apply q_call); (focus exact byNext); (focus exact byLo); (focus (first | exact kChartZe0 | exact kChartZe0 | exact kChartRd0 | exact kChartY2)); first | ((apply q_allB) <;> (intro z_b _ _ _; first | exact Bool.noConfusion z_b | replace z_b := of_decide_eq_true z_b | replace z_b := of_decide_eq_false z_b | skip) <;> (first | contradiction | (revert z_b; intros))) | ((apply q_alli) <;> (intro _ _ _ _; try contradiction)) | ((apply q_allv); intro _ _ _)) | ((apply Load1.mk); (focus ((repeat (first | (apply el_lo <;> first | assumption | omega) | (apply el_hi <;> first | assumption | omega) | apply bump_old | ((apply put_old); focus (dsimp only [aadd]; omega)) | ((apply quiet_old); (focus assumption); focus (dsimp only [aadd]; omega)) | ((apply same_old); (focus assumption); focus (dsimp only [aadd]; omega)))); done)); (focus exact byVal)) | fail)); all_goals (conv => whnf); all_goals (try with_reducible apply At.mk)))
      (refine byFin ?_)
      rfl
    obtain ⟨q, kq⟩ := mres_root hM
    have bq : ∀ j, j < T.A.n → -2611000 ≤ T.ab A.f p.p ⟨b, 1 + s⟩ j ∧ T.ab A.f p.p ⟨b, 1 + s⟩ j ≤ 100000 := fun j hj => sm.ab g ox rA (by dsimp only; omega) (by dsimp only; omega) hj
    have ry := root_rng kq ga2 g.ra.up hA100 bq
    have rf := (root_small kq g.ra.up bq).2
    have pw := fun (hh : H) (k1 : m ≤ hh.next) (k2 : Same m h hh) (k3 : h3.next ≤ hh.next) (k4 : Same h3.next h3 hh) => pulled_w (h := hh) (T := T) (A := A) (m := h3.next) (x := p.p) (n := ⟨b, 1 + s⟩) k3 (hT.same k2 (by omega)) (kA.same k4 (Nat.le_refl _)) g tA sm ox (by dsimp only; omega) (by dsimp only; omega) kq
    have bz : ∀ j, j < T.A.n → -2611000 ≤ T.ab A.f p.p ⟨b + mo, 1 + s⟩ j ∧ T.ab A.f p.p ⟨b + mo, 1 + s⟩ j ≤ 100000 := fun j hj => sm.ab g ox rA (by dsimp only; omega) (by dsimp only; omega) hj
    have bl : ∀ j, j < T.A.n → -2611000 ≤ T.ab T.lo p.p ⟨b, 1 + s⟩ j ∧ T.ab T.lo p.p ⟨b, 1 + s⟩ j ≤ 100000 := fun j hj => sm.ab g ox (fun i k hi hk => ⟨Int.le_refl _, (g.bd i k hi hk).2.1⟩) (by dsimp only; omega) (by dsimp only; omega) hj
    have bh : ∀ j, j < T.A.n → -2611000 ≤ T.ab T.hi p.p ⟨b, 1 + s⟩ j ∧ T.ab T.hi p.p ⟨b, 1 + s⟩ j ≤ 100000 := fun j hj => sm.ab g ox (fun i k hi hk => ⟨(g.bd i k hi hk).2.1, Int.le_refl _⟩) (by dsimp only; omega) (by dsimp only; omega) hj
    by_cases hS : (T.mres T.lo p.p ⟨b, 1 + s⟩).2 = Bool.true ∧ (T.mres T.hi p.p ⟨b, 1 + s⟩).2 = Bool.true
    · apply q_callv
      focus (exact byNext)
      focus (exact byLo)
      focus exact meet_ok hT kA g tA fA ox hn hM (by (exact byOm)) (by (exact byOm)) (by (exact bySame)) (by (exact bySame))
      intro h5 q5 n5
      (focus ((try with_reducible apply wpC.to); (repeat' ((conv => whnf); first | refine byEv ?_ | ((apply Fork.mk) <;> (intro _; try (exfalso; omega; done))) | ((apply q_call); (focus exact byNext); (focus exact byLo); (focus (first | exact kChartZe0 | exact kChartZe0 | exact kChartRd0 | exact kChartY2)); first | ((apply q_allB) <;> (intro z_b _ _ _; first | exact Bool.noConfusion z_b | replace z_b := of_decide_eq_true z_b | replace z_b := of_decide_eq_false z_b | skip) <;> (first | contradiction | (revert z_b; intros))) | ((apply q_alli) <;> (intro _ _ _ _; try contradiction)) | ((apply q_allv); intro _ _ _)) | ((apply Load1.mk); (focus ((repeat (first | (apply el_lo <;> first | assumption | omega) | (apply el_hi <;> first | assumption | omega) | apply bump_old | ((apply put_old); focus (dsimp only [aadd]; omega)) | ((apply quiet_old); (focus assumption); focus (dsimp only [aadd]; omega)) | ((apply same_old); (focus assumption); focus (dsimp only [aadd]; omega)))); done)); (focus exact byVal)) | fail)); all_goals (conv => whnf); all_goals (try with_reducible apply At.mk)))
      apply q_callv
      focus (exact byNext)
      focus (exact byLo)
      focus exact meets_ok hT g ox hn hS (by (exact byOm)) (by (exact bySame))
      intro h6 q6 n6
      obtain ⟨ql, kl⟩ := mres_root hS.1
      obtain ⟨qh, kh⟩ := mres_root hS.2
      obtain ⟨la1, la2, la3, la4⟩ := (hT.same (m' := m) (h' := h6) (by (exact bySame)) (Nat.le_refl _)).A
      have f0 := hA100 0 (by omega)
      have f1 := hA100 (T.A.n - 1) (by omega)
      generalize hY : (T.mres A.f p.p ⟨b, 1 + s⟩).1 = Y at *
      have my0 := mul4 f0.1 f0.2 (show 0 ≤ Y.d by omega) ry.1.2
      have my1 := mul4 f1.1 f1.2 (show 0 ≤ Y.d by omega) ry.1.2
      have my2 := mul4 hb.1 (show b ≤ 255 by omega) (show 0 ≤ Y.d by omega) ry.1.2
      have my3 := mul4 (show 0 ≤ 1 + s by omega) (show 1 + s ≤ 256 by omega) ry.2.1.1 ry.2.1.2
      (focus ((try with_reducible apply wpC.to); (repeat' ((conv => whnf); first | refine byEv ?_ | ((apply Fork.mk) <;> (intro _; try (exfalso; omega; done))) | ((apply q_call); (focus exact byNext); (focus exact byLo); (focus (first | exact kChartZe0 | exact kChartZe0 | exact kChartRd0 | exact kChartY2)); first | ((apply q_allB) <;> (intro z_b _ _ _; first | exact Bool.noConfusion z_b | replace z_b := of_decide_eq_true z_b | replace z_b := of_decide_eq_false z_b | skip) <;> (first | contradiction | (revert z_b; intros))) | ((apply q_alli) <;> (intro _ _ _ _; try contradiction)) | ((apply q_allv); intro _ _ _)) | ((apply Load1.mk); (focus ((repeat (first | (apply el_lo <;> first | assumption | omega) | (apply el_hi <;> first | assumption | omega) | apply bump_old | ((apply put_old); focus (dsimp only [aadd]; omega)) | ((apply quiet_old); (focus assumption); focus (dsimp only [aadd]; omega)) | ((apply same_old); (focus assumption); focus (dsimp only [aadd]; omega)))); done)); (focus exact byVal)) | fail)); all_goals (conv => whnf); all_goals (try with_reducible apply At.mk)))
      rw [rf]
      refine OpE.pure (.bool false) (xPure_neq (A := ⟨Y.cells⟩) (B := ⟨Y.cells⟩) rfl rfl rfl rfl rfl (by kernel_rfl) (eql_fr _)) ?_
      (focus ((try with_reducible apply wpC.to); (repeat' ((conv => whnf); first | refine byEv ?_ | ((apply Fork.mk) <;> (intro _; try (exfalso; omega; done))) | ((apply q_call); (focus exact byNext); (focus exact byLo); (focus (first | exact kChartZe0 | exact kChartZe0 | exact kChartRd0 | exact kChartY2)); first | ((apply q_allB) <;> (intro z_b _ _ _; first | exact Bool.noConfusion z_b | replace z_b := of_decide_eq_true z_b | replace z_b := of_decide_eq_false z_b | skip) <;> (first | contradiction | (revert z_b; intros))) | ((apply q_alli) <;> (intro _ _ _ _; try contradiction)) | ((apply q_allv); intro _ _ _)) | ((apply Load1.mk); (focus ((repeat (first | (apply el_lo <;> first | assumption | omega) | (apply el_hi <;> first | assumption | omega) | apply bump_old | ((apply put_old); focus (dsimp only [aadd]; omega)) | ((apply quiet_old); (focus assumption); focus (dsimp only [aadd]; omega)) | ((apply same_old); (focus assumption); focus (dsimp only [aadd]; omega)))); done)); (focus exact byVal)) | fail)); all_goals (conv => whnf); all_goals (try with_reducible apply At.mk)))
      apply q_callv
      focus (exact byNext)
      focus (exact byLo)
      focus exact pw _ (by (exact byOm)) (by (exact bySame)) (by (exact byOm)) (by (exact bySame))
      intro h7 q7 n7
      (focus ((try with_reducible apply wpC.to); (repeat' ((conv => whnf); first | refine byEv ?_ | ((apply Fork.mk) <;> (intro _; try (exfalso; omega; done))) | ((apply q_call); (focus exact byNext); (focus exact byLo); (focus (first | exact kChartZe0 | exact kChartZe0 | exact kChartRd0 | exact kChartY2)); first | ((apply q_allB) <;> (intro z_b _ _ _; first | exact Bool.noConfusion z_b | replace z_b := of_decide_eq_true z_b | replace z_b := of_decide_eq_false z_b | skip) <;> (first | contradiction | (revert z_b; intros))) | ((apply q_alli) <;> (intro _ _ _ _; try contradiction)) | ((apply q_allv); intro _ _ _)) | ((apply Load1.mk); (focus ((repeat (first | (apply el_lo <;> first | assumption | omega) | (apply el_hi <;> first | assumption | omega) | apply bump_old | ((apply put_old); focus (dsimp only [aadd]; omega)) | ((apply quiet_old); (focus assumption); focus (dsimp only [aadd]; omega)) | ((apply same_old); (focus assumption); focus (dsimp only [aadd]; omega)))); done)); (focus exact byVal)) | fail)); all_goals (conv => whnf); all_goals (try with_reducible apply At.mk)))
      refine OpE.pure (.bool false) (xPure_neq (A := ⟨(fr (b * Y.d + (1 + s) * Y.n) Y.d).cells⟩) (B := ⟨(fr (b * Y.d + (1 + s) * Y.n) Y.d).cells⟩) rfl rfl rfl rfl rfl (by kernel_rfl) (eql_fr _)) ?_
      (focus ((try with_reducible apply wpC.to); (repeat' ((conv => whnf); first | refine byEv ?_ | ((apply Fork.mk) <;> (intro _; try (exfalso; omega; done))) | ((apply q_call); (focus exact byNext); (focus exact byLo); (focus (first | exact kChartZe0 | exact kChartZe0 | exact kChartRd0 | exact kChartY2)); first | ((apply q_allB) <;> (intro z_b _ _ _; first | exact Bool.noConfusion z_b | replace z_b := of_decide_eq_true z_b | replace z_b := of_decide_eq_false z_b | skip) <;> (first | contradiction | (revert z_b; intros))) | ((apply q_alli) <;> (intro _ _ _ _; try contradiction)) | ((apply q_allv); intro _ _ _)) | ((apply Load1.mk); (focus ((repeat (first | (apply el_lo <;> first | assumption | omega) | (apply el_hi <;> first | assumption | omega) | apply bump_old | ((apply put_old); focus (dsimp only [aadd]; omega)) | ((apply quiet_old); (focus assumption); focus (dsimp only [aadd]; omega)) | ((apply same_old); (focus assumption); focus (dsimp only [aadd]; omega)))); done)); (focus exact byVal)) | fail)); all_goals (conv => whnf); all_goals (try with_reducible apply At.mk)))
      apply q_callv
      focus (exact byNext)
      focus (exact byLo)
      focus exact notAbove_w (x := (T.mres T.lo p.p ⟨b, 1 + s⟩).1) (y := Y) (root_cf kl kq ga2 g.ra.up hA100 bl bq fun j hj => ab_le g ox (fun i k hi hk => (rA i k hi hk).1) hj)
      intro h8 q8 n8
      (focus ((try with_reducible apply wpC.to); (repeat' ((conv => whnf); first | refine byEv ?_ | ((apply Fork.mk) <;> (intro _; try (exfalso; omega; done))) | ((apply q_call); (focus exact byNext); (focus exact byLo); (focus (first | exact kChartZe0 | exact kChartZe0 | exact kChartRd0 | exact kChartY2)); first | ((apply q_allB) <;> (intro z_b _ _ _; first | exact Bool.noConfusion z_b | replace z_b := of_decide_eq_true z_b | replace z_b := of_decide_eq_false z_b | skip) <;> (first | contradiction | (revert z_b; intros))) | ((apply q_alli) <;> (intro _ _ _ _; try contradiction)) | ((apply q_allv); intro _ _ _)) | ((apply Load1.mk); (focus ((repeat (first | (apply el_lo <;> first | assumption | omega) | (apply el_hi <;> first | assumption | omega) | apply bump_old | ((apply put_old); focus (dsimp only [aadd]; omega)) | ((apply quiet_old); (focus assumption); focus (dsimp only [aadd]; omega)) | ((apply same_old); (focus assumption); focus (dsimp only [aadd]; omega)))); done)); (focus exact byVal)) | fail)); all_goals (conv => whnf); all_goals (try with_reducible apply At.mk)))
      apply q_callv
      focus (exact byNext)
      focus (exact byLo)
      focus exact notAbove_w (x := Y) (y := (T.mres T.hi p.p ⟨b, 1 + s⟩).1) (root_cf kq kh ga2 g.ra.up hA100 bq bh fun j hj => ab_le g ox (fun i k hi hk => (rA i k hi hk).2) hj)
      intro h9 q9 n9
      (focus ((try with_reducible apply wpC.to); (repeat' ((conv => whnf); first | refine byEv ?_ | ((apply Fork.mk) <;> (intro _; try (exfalso; omega; done))) | ((apply q_call); (focus exact byNext); (focus exact byLo); (focus (first | exact kChartZe0 | exact kChartZe0 | exact kChartRd0 | exact kChartY2)); first | ((apply q_allB) <;> (intro z_b _ _ _; first | exact Bool.noConfusion z_b | replace z_b := of_decide_eq_true z_b | replace z_b := of_decide_eq_false z_b | skip) <;> (first | contradiction | (revert z_b; intros))) | ((apply q_alli) <;> (intro _ _ _ _; try contradiction)) | ((apply q_allv); intro _ _ _)) | ((apply Load1.mk); (focus ((repeat (first | (apply el_lo <;> first | assumption | omega) | (apply el_hi <;> first | assumption | omega) | apply bump_old | ((apply put_old); focus (dsimp only [aadd]; omega)) | ((apply quiet_old); (focus assumption); focus (dsimp only [aadd]; omega)) | ((apply same_old); (focus assumption); focus (dsimp only [aadd]; omega)))); done)); (focus exact byVal)) | fail)); all_goals (conv => whnf); all_goals (try with_reducible apply At.mk)))
      by_cases hZ : (T.mres A.f p.p ⟨b + mo, 1 + s⟩).2 = Bool.true
      · apply q_callv
        focus (exact byNext)
        focus (exact byLo)
        focus exact meet_ok hT kA g tA fA ox hn2 hZ (by (exact byOm)) (by (exact byOm)) (by (exact bySame)) (by (exact bySame))
        intro h10 q10 n10
        obtain ⟨qz, kz⟩ := mres_root hZ
        (focus ((try with_reducible apply wpC.to); (repeat' ((conv => whnf); first | refine byEv ?_ | ((apply Fork.mk) <;> (intro _; try (exfalso; omega; done))) | ((apply q_call); (focus exact byNext); (focus exact byLo); (focus (first | exact kChartZe0 | exact kChartZe0 | exact kChartRd0 | exact kChartY2)); first | ((apply q_allB) <;> (intro z_b _ _ _; first | exact Bool.noConfusion z_b | replace z_b := of_decide_eq_true z_b | replace z_b := of_decide_eq_false z_b | skip) <;> (first | contradiction | (revert z_b; intros))) | ((apply q_alli) <;> (intro _ _ _ _; try contradiction)) | ((apply q_allv); intro _ _ _)) | ((apply Load1.mk); (focus ((repeat (first | (apply el_lo <;> first | assumption | omega) | (apply el_hi <;> first | assumption | omega) | apply bump_old | ((apply put_old); focus (dsimp only [aadd]; omega)) | ((apply quiet_old); (focus assumption); focus (dsimp only [aadd]; omega)) | ((apply same_old); (focus assumption); focus (dsimp only [aadd]; omega)))); done)); (focus exact byVal)) | fail)); all_goals (conv => whnf); all_goals (try with_reducible apply At.mk)))
        apply q_callv
        focus (exact byNext)
        focus (exact byLo)
        focus exact notAbove_w (x := (T.mres A.f p.p ⟨b + mo, 1 + s⟩).1) (y := Y) (root_cf kz kq ga2 g.ra.up hA100 bz bq fun j hj => ab_base (n := ⟨b, 1 + s⟩) (n' := ⟨b + mo, 1 + s⟩) g ox (by dsimp only; omega) rfl j)
        intro h11 q11 n11
        (focus ((try with_reducible apply wpC.to); (repeat' ((conv => whnf); first | refine byEv ?_ | ((apply Fork.mk) <;> (intro _; try (exfalso; omega; done))) | ((apply q_call); (focus exact byNext); (focus exact byLo); (focus (first | exact kChartZe0 | exact kChartZe0 | exact kChartRd0 | exact kChartY2)); first | ((apply q_allB) <;> (intro z_b _ _ _; first | exact Bool.noConfusion z_b | replace z_b := of_decide_eq_true z_b | replace z_b := of_decide_eq_false z_b | skip) <;> (first | contradiction | (revert z_b; intros))) | ((apply q_alli) <;> (intro _ _ _ _; try contradiction)) | ((apply q_allv); intro _ _ _)) | ((apply Load1.mk); (focus ((repeat (first | (apply el_lo <;> first | assumption | omega) | (apply el_hi <;> first | assumption | omega) | apply bump_old | ((apply put_old); focus (dsimp only [aadd]; omega)) | ((apply quiet_old); (focus assumption); focus (dsimp only [aadd]; omega)) | ((apply same_old); (focus assumption); focus (dsimp only [aadd]; omega)))); done)); (focus exact byVal)) | fail)); all_goals (conv => whnf); all_goals (try with_reducible apply At.mk)))
        (refine byFin ?_)
        rfl
      · apply q_callv
        focus (exact byNext)
        focus (exact byLo)
        focus exact meet_none hT kA g tA fA ox hn2 hZ (by (exact byOm)) (by (exact byOm)) (by (exact bySame)) (by (exact bySame))
        intro h10 q10 n10
        (focus ((try with_reducible apply wpC.to); (repeat' ((conv => whnf); first | refine byEv ?_ | ((apply Fork.mk) <;> (intro _; try (exfalso; omega; done))) | ((apply q_call); (focus exact byNext); (focus exact byLo); (focus (first | exact kChartZe0 | exact kChartZe0 | exact kChartRd0 | exact kChartY2)); first | ((apply q_allB) <;> (intro z_b _ _ _; first | exact Bool.noConfusion z_b | replace z_b := of_decide_eq_true z_b | replace z_b := of_decide_eq_false z_b | skip) <;> (first | contradiction | (revert z_b; intros))) | ((apply q_alli) <;> (intro _ _ _ _; try contradiction)) | ((apply q_allv); intro _ _ _)) | ((apply Load1.mk); (focus ((repeat (first | (apply el_lo <;> first | assumption | omega) | (apply el_hi <;> first | assumption | omega) | apply bump_old | ((apply put_old); focus (dsimp only [aadd]; omega)) | ((apply quiet_old); (focus assumption); focus (dsimp only [aadd]; omega)) | ((apply same_old); (focus assumption); focus (dsimp only [aadd]; omega)))); done)); (focus exact byVal)) | fail)); all_goals (conv => whnf); all_goals (try with_reducible apply At.mk)))
        (refine byFin ?_)
        rfl
    · apply q_callv
      focus (exact byNext)
      focus (exact byLo)
      focus exact meet_ok hT kA g tA fA ox hn hM (by (exact byOm)) (by (exact byOm)) (by (exact bySame)) (by (exact bySame))
      intro h5 q5 n5
      (focus ((try with_reducible apply wpC.to); (repeat' ((conv => whnf); first | refine byEv ?_ | ((apply Fork.mk) <;> (intro _; try (exfalso; omega; done))) | ((apply q_call); (focus exact byNext); (focus exact byLo); (focus (first | exact kChartZe0 | exact kChartZe0 | exact kChartRd0 | exact kChartY2)); first | ((apply q_allB) <;> (intro z_b _ _ _; first | exact Bool.noConfusion z_b | replace z_b := of_decide_eq_true z_b | replace z_b := of_decide_eq_false z_b | skip) <;> (first | contradiction | (revert z_b; intros))) | ((apply q_alli) <;> (intro _ _ _ _; try contradiction)) | ((apply q_allv); intro _ _ _)) | ((apply Load1.mk); (focus ((repeat (first | (apply el_lo <;> first | assumption | omega) | (apply el_hi <;> first | assumption | omega) | apply bump_old | ((apply put_old); focus (dsimp only [aadd]; omega)) | ((apply quiet_old); (focus assumption); focus (dsimp only [aadd]; omega)) | ((apply same_old); (focus assumption); focus (dsimp only [aadd]; omega)))); done)); (focus exact byVal)) | fail)); all_goals (conv => whnf); all_goals (try with_reducible apply At.mk)))
      apply q_callv
      focus (exact byNext)
      focus (exact byLo)
      focus exact meets_none hT g ox hn hS (by (exact byOm)) (by (exact bySame))
      intro h6 q6 n6
      obtain ⟨la1, la2, la3, la4⟩ := (hT.same (m' := m) (h' := h6) (by (exact bySame)) (Nat.le_refl _)).A
      have f0 := hA100 0 (by omega)
      have f1 := hA100 (T.A.n - 1) (by omega)
      generalize hY : (T.mres A.f p.p ⟨b, 1 + s⟩).1 = Y at *
      have my0 := mul4 f0.1 f0.2 (show 0 ≤ Y.d by omega) ry.1.2
      have my1 := mul4 f1.1 f1.2 (show 0 ≤ Y.d by omega) ry.1.2
      have my2 := mul4 hb.1 (show b ≤ 255 by omega) (show 0 ≤ Y.d by omega) ry.1.2
      have my3 := mul4 (show 0 ≤ 1 + s by omega) (show 1 + s ≤ 256 by omega) ry.2.1.1 ry.2.1.2
      (focus ((try with_reducible apply wpC.to); (repeat' ((conv => whnf); first | refine byEv ?_ | ((apply Fork.mk) <;> (intro _; try (exfalso; omega; done))) | ((apply q_call); (focus exact byNext); (focus exact byLo); (focus (first | exact kChartZe0 | exact kChartZe0 | exact kChartRd0 | exact kChartY2)); first | ((apply q_allB) <;> (intro z_b _ _ _; first | exact Bool.noConfusion z_b | replace z_b := of_decide_eq_true z_b | replace z_b := of_decide_eq_false z_b | skip) <;> (first | contradiction | (revert z_b; intros))) | ((apply q_alli) <;> (intro _ _ _ _; try contradiction)) | ((apply q_allv); intro _ _ _)) | ((apply Load1.mk); (focus ((repeat (first | (apply el_lo <;> first | assumption | omega) | (apply el_hi <;> first | assumption | omega) | apply bump_old | ((apply put_old); focus (dsimp only [aadd]; omega)) | ((apply quiet_old); (focus assumption); focus (dsimp only [aadd]; omega)) | ((apply same_old); (focus assumption); focus (dsimp only [aadd]; omega)))); done)); (focus exact byVal)) | fail)); all_goals (conv => whnf); all_goals (try with_reducible apply At.mk)))
      rw [rf]
      refine OpE.pure (.bool false) (xPure_neq (A := ⟨Y.cells⟩) (B := ⟨Y.cells⟩) rfl rfl rfl rfl rfl (by kernel_rfl) (eql_fr _)) ?_
      (focus ((try with_reducible apply wpC.to); (repeat' ((conv => whnf); first | refine byEv ?_ | ((apply Fork.mk) <;> (intro _; try (exfalso; omega; done))) | ((apply q_call); (focus exact byNext); (focus exact byLo); (focus (first | exact kChartZe0 | exact kChartZe0 | exact kChartRd0 | exact kChartY2)); first | ((apply q_allB) <;> (intro z_b _ _ _; first | exact Bool.noConfusion z_b | replace z_b := of_decide_eq_true z_b | replace z_b := of_decide_eq_false z_b | skip) <;> (first | contradiction | (revert z_b; intros))) | ((apply q_alli) <;> (intro _ _ _ _; try contradiction)) | ((apply q_allv); intro _ _ _)) | ((apply Load1.mk); (focus ((repeat (first | (apply el_lo <;> first | assumption | omega) | (apply el_hi <;> first | assumption | omega) | apply bump_old | ((apply put_old); focus (dsimp only [aadd]; omega)) | ((apply quiet_old); (focus assumption); focus (dsimp only [aadd]; omega)) | ((apply same_old); (focus assumption); focus (dsimp only [aadd]; omega)))); done)); (focus exact byVal)) | fail)); all_goals (conv => whnf); all_goals (try with_reducible apply At.mk)))
      apply q_callv
      focus (exact byNext)
      focus (exact byLo)
      focus exact pw _ (by (exact byOm)) (by (exact bySame)) (by (exact byOm)) (by (exact bySame))
      intro h7 q7 n7
      (focus ((try with_reducible apply wpC.to); (repeat' ((conv => whnf); first | refine byEv ?_ | ((apply Fork.mk) <;> (intro _; try (exfalso; omega; done))) | ((apply q_call); (focus exact byNext); (focus exact byLo); (focus (first | exact kChartZe0 | exact kChartZe0 | exact kChartRd0 | exact kChartY2)); first | ((apply q_allB) <;> (intro z_b _ _ _; first | exact Bool.noConfusion z_b | replace z_b := of_decide_eq_true z_b | replace z_b := of_decide_eq_false z_b | skip) <;> (first | contradiction | (revert z_b; intros))) | ((apply q_alli) <;> (intro _ _ _ _; try contradiction)) | ((apply q_allv); intro _ _ _)) | ((apply Load1.mk); (focus ((repeat (first | (apply el_lo <;> first | assumption | omega) | (apply el_hi <;> first | assumption | omega) | apply bump_old | ((apply put_old); focus (dsimp only [aadd]; omega)) | ((apply quiet_old); (focus assumption); focus (dsimp only [aadd]; omega)) | ((apply same_old); (focus assumption); focus (dsimp only [aadd]; omega)))); done)); (focus exact byVal)) | fail)); all_goals (conv => whnf); all_goals (try with_reducible apply At.mk)))
      refine OpE.pure (.bool false) (xPure_neq (A := ⟨(fr (b * Y.d + (1 + s) * Y.n) Y.d).cells⟩) (B := ⟨(fr (b * Y.d + (1 + s) * Y.n) Y.d).cells⟩) rfl rfl rfl rfl rfl (by kernel_rfl) (eql_fr _)) ?_
      (focus ((try with_reducible apply wpC.to); (repeat' ((conv => whnf); first | refine byEv ?_ | ((apply Fork.mk) <;> (intro _; try (exfalso; omega; done))) | ((apply q_call); (focus exact byNext); (focus exact byLo); (focus (first | exact kChartZe0 | exact kChartZe0 | exact kChartRd0 | exact kChartY2)); first | ((apply q_allB) <;> (intro z_b _ _ _; first | exact Bool.noConfusion z_b | replace z_b := of_decide_eq_true z_b | replace z_b := of_decide_eq_false z_b | skip) <;> (first | contradiction | (revert z_b; intros))) | ((apply q_alli) <;> (intro _ _ _ _; try contradiction)) | ((apply q_allv); intro _ _ _)) | ((apply Load1.mk); (focus ((repeat (first | (apply el_lo <;> first | assumption | omega) | (apply el_hi <;> first | assumption | omega) | apply bump_old | ((apply put_old); focus (dsimp only [aadd]; omega)) | ((apply quiet_old); (focus assumption); focus (dsimp only [aadd]; omega)) | ((apply same_old); (focus assumption); focus (dsimp only [aadd]; omega)))); done)); (focus exact byVal)) | fail)); all_goals (conv => whnf); all_goals (try with_reducible apply At.mk)))
      by_cases hZ : (T.mres A.f p.p ⟨b + mo, 1 + s⟩).2 = Bool.true
      · apply q_callv
        focus (exact byNext)
        focus (exact byLo)
        focus exact meet_ok hT kA g tA fA ox hn2 hZ (by (exact byOm)) (by (exact byOm)) (by (exact bySame)) (by (exact bySame))
        intro h10 q10 n10
        obtain ⟨qz, kz⟩ := mres_root hZ
        (focus ((try with_reducible apply wpC.to); (repeat' ((conv => whnf); first | refine byEv ?_ | ((apply Fork.mk) <;> (intro _; try (exfalso; omega; done))) | ((apply q_call); (focus exact byNext); (focus exact byLo); (focus (first | exact kChartZe0 | exact kChartZe0 | exact kChartRd0 | exact kChartY2)); first | ((apply q_allB) <;> (intro z_b _ _ _; first | exact Bool.noConfusion z_b | replace z_b := of_decide_eq_true z_b | replace z_b := of_decide_eq_false z_b | skip) <;> (first | contradiction | (revert z_b; intros))) | ((apply q_alli) <;> (intro _ _ _ _; try contradiction)) | ((apply q_allv); intro _ _ _)) | ((apply Load1.mk); (focus ((repeat (first | (apply el_lo <;> first | assumption | omega) | (apply el_hi <;> first | assumption | omega) | apply bump_old | ((apply put_old); focus (dsimp only [aadd]; omega)) | ((apply quiet_old); (focus assumption); focus (dsimp only [aadd]; omega)) | ((apply same_old); (focus assumption); focus (dsimp only [aadd]; omega)))); done)); (focus exact byVal)) | fail)); all_goals (conv => whnf); all_goals (try with_reducible apply At.mk)))
        apply q_callv
        focus (exact byNext)
        focus (exact byLo)
        focus exact notAbove_w (x := (T.mres A.f p.p ⟨b + mo, 1 + s⟩).1) (y := Y) (root_cf kz kq ga2 g.ra.up hA100 bz bq fun j hj => ab_base (n := ⟨b, 1 + s⟩) (n' := ⟨b + mo, 1 + s⟩) g ox (by dsimp only; omega) rfl j)
        intro h11 q11 n11
        (focus ((try with_reducible apply wpC.to); (repeat' ((conv => whnf); first | refine byEv ?_ | ((apply Fork.mk) <;> (intro _; try (exfalso; omega; done))) | ((apply q_call); (focus exact byNext); (focus exact byLo); (focus (first | exact kChartZe0 | exact kChartZe0 | exact kChartRd0 | exact kChartY2)); first | ((apply q_allB) <;> (intro z_b _ _ _; first | exact Bool.noConfusion z_b | replace z_b := of_decide_eq_true z_b | replace z_b := of_decide_eq_false z_b | skip) <;> (first | contradiction | (revert z_b; intros))) | ((apply q_alli) <;> (intro _ _ _ _; try contradiction)) | ((apply q_allv); intro _ _ _)) | ((apply Load1.mk); (focus ((repeat (first | (apply el_lo <;> first | assumption | omega) | (apply el_hi <;> first | assumption | omega) | apply bump_old | ((apply put_old); focus (dsimp only [aadd]; omega)) | ((apply quiet_old); (focus assumption); focus (dsimp only [aadd]; omega)) | ((apply same_old); (focus assumption); focus (dsimp only [aadd]; omega)))); done)); (focus exact byVal)) | fail)); all_goals (conv => whnf); all_goals (try with_reducible apply At.mk)))
        (refine byFin ?_)
        rfl
      · apply q_callv
        focus (exact byNext)
        focus (exact byLo)
        focus exact meet_none hT kA g tA fA ox hn2 hZ (by (exact byOm)) (by (exact byOm)) (by (exact bySame)) (by (exact bySame))
        intro h10 q10 n10
        (focus ((try with_reducible apply wpC.to); (repeat' ((conv => whnf); first | refine byEv ?_ | ((apply Fork.mk) <;> (intro _; try (exfalso; omega; done))) | ((apply q_call); (focus exact byNext); (focus exact byLo); (focus (first | exact kChartZe0 | exact kChartZe0 | exact kChartRd0 | exact kChartY2)); first | ((apply q_allB) <;> (intro z_b _ _ _; first | exact Bool.noConfusion z_b | replace z_b := of_decide_eq_true z_b | replace z_b := of_decide_eq_false z_b | skip) <;> (first | contradiction | (revert z_b; intros))) | ((apply q_alli) <;> (intro _ _ _ _; try contradiction)) | ((apply q_allv); intro _ _ _)) | ((apply Load1.mk); (focus ((repeat (first | (apply el_lo <;> first | assumption | omega) | (apply el_hi <;> first | assumption | omega) | apply bump_old | ((apply put_old); focus (dsimp only [aadd]; omega)) | ((apply quiet_old); (focus assumption); focus (dsimp only [aadd]; omega)) | ((apply same_old); (focus assumption); focus (dsimp only [aadd]; omega)))); done)); (focus exact byVal)) | fail)); all_goals (conv => whnf); all_goals (try with_reducible apply At.mk)))
        (refine byFin ?_)
        rfl
end AE.Try
