/- Walks of the definitions of charts: More. -/
import Derived.Test.YtbfhhncmmllblaaChartRf
set_option linter.unusedVariables false
set_option linter.unusedSimpArgs false
set_option linter.unusedSectionVars false
namespace AE.Try
open Go AE Go.Proofs
set_option maxRecDepth 100000
set_option linter.unusedVariables false

theorem kChartRg0 {G : Prop} (g : G := by ((apply points_r; rotate_left; (focus (apply Tbl.Ok.same; (focus assumption); (focus exact bySame); (focus exact Nat.le_refl _))); (focus exact byOm)))) : G := g

theorem ps_abs {c d : Nat → Int} : ∀ n, (∀ k, k < n → -d k ≤ c k ∧ c k ≤ d k) → -ps d n ≤ ps c n ∧ ps c n ≤ ps d n
  | 0, _ => by simp [ps]
  | n + 1, h => by
    have ih := ps_abs n fun k hk => h k (by omega)
    have := h n (by omega)
    simp only [ps]
    omega
theorem ps_mono {d : Nat → Int} {n : Nat} (h : ∀ k, k < n → 0 ≤ d k) : ∀ t, t ≤ n → ps d t ≤ ps d n := by
  have key : ∀ e t, t + e ≤ n → ps d t ≤ ps d (t + e) := by
    intro e
    induction e with
    | zero => exact fun t _ => Int.le_refl _
    | succ e ih =>
      intro t ht
      have := ih t (by omega)
      have := h (t + e) (by omega)
      rw [show t + (e + 1) = t + e + 1 by omega]
      simp only [ps]
      omega
  intro t ht
  have := key (n - t) t (by omega)
  rwa [show t + (n - t) = n by omega] at this
/-- Sums of part of a table are at most all of it. -/
theorem gs_part {c d : Nat → Nat → Int} {n m : Nat} (h : ∀ i k, i < n → k < m → -d i k ≤ c i k ∧ c i k ≤ d i k) {s t : Nat} (hs : s < n) (ht : t ≤ m) : -gs d n m ≤ ps (fun i => ps (c i) m) s + ps (c s) t ∧ ps (fun i => ps (c i) m) s + ps (c s) t ≤ gs d n m := by
  have nn : ∀ i k, i < n → k < m → 0 ≤ d i k := fun i k hi hk => by have := h i k hi hk; omega
  have rown : ∀ i, i < n → 0 ≤ ps (d i) m := fun i hi => by
    have := ps_mono (d := d i) (n := m) (fun k hk => nn i k hi hk) 0 (by omega)
    simpa [ps] using this
  have a := ps_abs (c := fun i => ps (c i) m) (d := fun i => ps (d i) m) s fun i hi => ps_abs m fun k hk => h i k (by omega) hk
  have b := ps_abs (c := c s) (d := d s) t fun k hk => h s k hs (by omega)
  have e := ps_mono (d := d s) (n := m) (fun k hk => nn s k hs hk) t ht
  have f := ps_mono (d := fun i => ps (d i) m) (n := n) rown (s + 1) (by omega)
  simp only [ps] at f
  unfold gs
  omega
theorem gs_whole {c d : Nat → Nat → Int} {n m : Nat} (h : ∀ i k, i < n → k < m → -d i k ≤ c i k ∧ c i k ≤ d i k) {s : Nat} (hs : s ≤ n) : -gs d n m ≤ ps (fun i => ps (c i) m) s ∧ ps (fun i => ps (c i) m) s ≤ gs d n m := by
  have nn : ∀ i k, i < n → k < m → 0 ≤ d i k := fun i k hi hk => by have := h i k hi hk; omega
  have rown : ∀ i, i < n → 0 ≤ ps (d i) m := fun i hi => by
    have := ps_mono (d := d i) (n := m) (fun k hk => nn i k hi hk) 0 (by omega)
    simpa [ps] using this
  have a := ps_abs (c := fun i => ps (c i) m) (d := fun i => ps (d i) m) s fun i hi => ps_abs m fun k hk => h i k (by omega) hk
  have f := ps_mono (d := fun i => ps (d i) m) (n := n) rown s hs
  unfold gs
  omega
theorem gs_one {d : Nat → Nat → Int} {n m : Nat} (nn : ∀ i k, i < n → k < m → 0 ≤ d i k) {s t : Nat} (hs : s < n) (ht : t < m) : d s t ≤ gs d n m := by
  have := gs_part (c := fun i k => if i = s ∧ k = t then d i k else 0) (d := d) (n := n) (m := m) (fun i k hi hk => by have := nn i k hi hk; split <;> omega) hs (t := t + 1) (by omega)
  have z1 : ps (fun i => ps (fun k => if i = s ∧ k = t then d i k else 0) m) s = 0 := by
    rw [ps_congr (g := fun _ => 0) s (fun i hi => by
      rw [ps_congr (g := fun _ => 0) m (fun k hk => by rw [if_neg (by omega)]), ps_zero]), ps_zero]
  have z2 : ps (fun k => if s = s ∧ k = t then d s k else 0) t = 0 := by
    rw [ps_congr (g := fun _ => 0) t (fun k hk => by rw [if_neg (by omega)]), ps_zero]
  simp only [ps] at this
  simp only [true_and, if_true] at this z2
  rw [z1, z2] at this
  omega
theorem abs_mul2 {x y B : Int} (h0 : 0 ≤ y) (hB : y ≤ B) : -((x.natAbs : Int) * B) ≤ x * y ∧ x * y ≤ (x.natAbs : Int) * B := by
  rcases Int.le_total 0 x with hx | hx
  · have e : (x.natAbs : Int) = x := by omega
    rw [e]
    have h1 := Int.mul_le_mul_of_nonneg_left hB hx
    have h2 := Int.mul_nonneg hx h0
    omega
  · have e : (x.natAbs : Int) = -x := by omega
    rw [e]
    have h1 := Int.mul_le_mul_of_nonneg_left hB (show 0 ≤ -x by omega)
    have h2 := Int.mul_nonneg (show 0 ≤ -x by omega) h0
    rw [Int.neg_mul] at h1 h2
    rw [Int.neg_mul] at h1 ⊢
    omega
theorem Tbl.ft_min (T : Tbl) (p q : Pt) {i k : Nat} (h : T.lo i k ≤ T.hi i k) : min (T.more p q i k * T.lo i k) (T.more p q i k * T.hi i k) = T.ft p q Bool.false i k ∧ max (T.more p q i k * T.lo i k) (T.more p q i k * T.hi i k) = T.ft p q Bool.true i k := by
  unfold Tbl.ft Tbl.endv
  generalize T.more p q i k = w
  by_cases hw : 0 < w
  · have := Int.mul_le_mul_of_nonneg_left h (show 0 ≤ w by omega)
    rw [decide_eq_true hw]
    simp
    omega
  · have := Int.mul_le_mul_of_nonpos_left (show w ≤ 0 by omega) h
    rw [decide_eq_false hw]
    simp
    omega

set_option maxHeartbeats 2000000 in
theorem More_r {h : H} {T : Tbl} {p q : Pt} {m : Nat} (hm : m ≤ h.next) (hT : T.Ok m h) : AW Try.prog 40 h.next h [.agg ⟨T.cells⟩, .agg ⟨p.cells⟩, .agg ⟨q.cells⟩] (fun v _ => v = .tuple #[.agg ⟨(T.mspan p q).1.cells ++ (T.mspan p q).2.cells⟩, .int .i64 (T.nerr (T.On p ∧ T.On q))]) := by
  refine fun40.call rfl (Nat.le_refl _) ?_
  unfold a40 Tbl.cells Pt.cells
  (focus ((try with_reducible apply wpC.to); (repeat' ((conv => whnf); first | refine byEv ?_ | ((apply Fork.mk) <;> (intro _; try (exfalso; omega; done))) | ((apply q_call); (focus exact byNext); (focus exact byLo); (focus (first | exact kChartRg0 | exact kChartRd0)); first | ((apply q_allB) <;> (intro z_b _ _ _; first | exact Bool.noConfusion z_b | replace z_b := of_decide_eq_true z_b | replace z_b := of_decide_eq_false z_b | skip) <;> (first | contradiction | (revert z_b; intros))) | ((apply q_alli) <;> (intro _ _ _ _; try contradiction)) | ((apply q_allv); intro _ _ _)) | ((apply Load1.mk); (focus ((repeat (first | (apply el_lo <;> first | assumption | omega) | (apply el_hi <;> first | assumption | omega) | apply bump_old | ((apply put_old); focus (dsimp only [aadd]; omega)) | ((apply quiet_old); (focus assumption); focus (dsimp only [aadd]; omega)) | ((apply same_old); (focus assumption); focus (dsimp only [aadd]; omega)))); done)); (focus exact byVal)) | fail)); all_goals (conv => whnf); all_goals (try with_reducible apply At.mk)))
  · have e1 : T.mspan p q = (⟨0, 0⟩, ⟨0, 0⟩) := by unfold Tbl.mspan; rw [if_neg (by assumption)]
    (refine byFin ?_)
    rw [e1]
    rfl
  have he : T.nerr (T.On p ∧ T.On q) = 0 := by assumption
  obtain ⟨g, o, o'⟩ := Tbl.nerr_ok he
  have e1 : T.mspan p q = (T.far p q Bool.false, T.far p q Bool.true) := by unfold Tbl.mspan; rw [if_pos he]
  rw [e1, he]
  have ar := g.around o
  have ar' := g.around o'
  have hab := more_abs ar ar'
  have wp := ar.whole
  have wq := ar'.whole
  have bw := mul_rng (a := T.whole p) (A := 4000000) (b := T.whole q) (B := 4000000) (by omega) (by omega) (by omega) (by omega)
  have bw0 := Int.mul_pos wp.1 wq.1
  have gn := g.n
  have gw := g.w
  have gbd := g.bd
  have gp8 := g.p8
  have ga10 := g.a10
  have ga2 := g.a2
  have hT0 := hT
  obtain ⟨kP, kA, kR⟩ := hT
  obtain ⟨r_e, i1, r1, l1, re, ri, rr, rl⟩ := kR
  have hdd : ∀ i k, i < T.P.n → k < T.A.n → 0 ≤ ((T.more p q i k).natAbs : Int) * 100000 := fun i k _ _ => by omega
  have hgs : gs (fun i k => ((T.more p q i k).natAbs : Int) * 100000) T.P.n T.A.n ≤ 3200000000000000000 := by rw [gs_mul]; omega
  have hft : ∀ b i k, i < T.P.n → k < T.A.n → -(((T.more p q i k).natAbs : Int) * 100000) ≤ T.ft p q b i k ∧ T.ft p q b i k ≤ ((T.more p q i k).natAbs : Int) * 100000 := fun b i k hi hk => by
    have := g.endv b (T.more p q i k) hi hk
    exact abs_mul2 this.1 this.2
  rename_i h2 _ _ _
  apply q_call
  focus (exact byNext)
  focus (exact byLo)
  focus exact difference_r (T := T) (p := p) (q := q) (m := m) (by (exact byOm)) (hT0.same (by (exact bySame)) (Nat.le_refl _)) g o o'
  rintro _ h3 ⟨D, rfl, oD, dn, dw, df⟩ q3 n3
  (focus ((try with_reducible apply wpC.to); (repeat' ((conv => whnf); first | refine byEv ?_ | ((apply Fork.mk) <;> (intro _; try (exfalso; omega; done))) | ((apply q_call); (focus exact byNext); (focus exact byLo); (focus (first | exact kChartRg0 | exact kChartRd0)); first | ((apply q_allB) <;> (intro z_b _ _ _; first | exact Bool.noConfusion z_b | replace z_b := of_decide_eq_true z_b | replace z_b := of_decide_eq_false z_b | skip) <;> (first | contradiction | (revert z_b; intros))) | ((apply q_alli) <;> (intro _ _ _ _; try contradiction)) | ((apply q_allv); intro _ _ _)) | ((apply Load1.mk); (focus ((repeat (first | (apply el_lo <;> first | assumption | omega) | (apply el_hi <;> first | assumption | omega) | apply bump_old | ((apply put_old); focus (dsimp only [aadd]; omega)) | ((apply quiet_old); (focus assumption); focus (dsimp only [aadd]; omega)) | ((apply same_old); (focus assumption); focus (dsimp only [aadd]; omega)))); done)); (focus exact byVal)) | fail)); all_goals (conv => whnf); all_goals (try with_reducible apply At.mk)))
  obtain ⟨de, di, dr, dl, dse, dsi, dsr, dsl, -⟩ := oD
  refine wp_loop (fun s : Nat => [(3, .pointer (some ⟨h.next, 0, none⟩)), (6, .pointer (some ⟨h.next + 3, 0, none⟩)), (8, .slice D.M.b D.M.n D.M.c), (9, .int .i64 (T.whole p * T.whole q)), (10, .int .i64 (ps (fun i => ps (fun k => T.ft p q Bool.false i k) T.A.n) s)), (11, .int .i64 (ps (fun i => ps (fun k => T.ft p q Bool.true i k) T.A.n) s)), (12, .int .i64 s)])
    (fun s h1 => h1.get h.next = some (.cells (exBox T) 25) ∧ h1.get (h.next + 3) = some (.cells [.int .i64 0, .int .i64 0, .int .i64 0, .int .i64 0] 37) ∧ Same m h h1 ∧ Same h3.next h3 h1 ∧ h3.next ≤ h1.next ∧ s ≤ T.P.n) (fun s => T.P.n - s) 0 ⟨rfl, rfl, rfl, rfl, rfl, rfl, rfl, trivial⟩ ⟨by (exact byGet), by (exact byGet), by (exact bySame), by (exact bySame), by (exact byOm), by omega⟩ ?_
  rintro s g' h4 ⟨g1, g2, sm, sm2, n4, hs⟩ K hK
  unfold exBox at g1
  have i5 := i1.same sm r1
  have d5 := di.same sm2 dr
  by_cases hsn : s < T.P.n
  · have dw' := dw s hsn
    have tw' := gw s hsn
    (focus ((try with_reducible apply wpC.to); (repeat' ((conv => whnf); first | refine byEv ?_ | ((apply Fork.mk) <;> (intro _; try (exfalso; omega; done))) | ((apply q_call); (focus exact byNext); (focus exact byLo); (focus (first | exact kChartRg0 | exact kChartRd0)); first | ((apply q_allB) <;> (intro z_b _ _ _; first | exact Bool.noConfusion z_b | replace z_b := of_decide_eq_true z_b | replace z_b := of_decide_eq_false z_b | skip) <;> (first | contradiction | (revert z_b; intros))) | ((apply q_alli) <;> (intro _ _ _ _; try contradiction)) | ((apply q_allv); intro _ _ _)) | ((apply Load1.mk); (focus ((repeat (first | (apply el_lo <;> first | assumption | omega) | (apply el_hi <;> first | assumption | omega) | apply bump_old | ((apply put_old); focus (dsimp only [aadd]; omega)) | ((apply quiet_old); (focus assumption); focus (dsimp only [aadd]; omega)) | ((apply same_old); (focus assumption); focus (dsimp only [aadd]; omega)))); done)); (focus exact byVal)) | fail)); all_goals (conv => whnf); all_goals (try with_reducible apply At.mk)))
    refine wp_loop (fun t : Nat => [(3, .pointer (some ⟨h.next, 0, none⟩)), (6, .pointer (some ⟨h.next + 3, 0, none⟩)), (8, .slice D.M.b D.M.n D.M.c), (9, .int .i64 (T.whole p * T.whole q)), (10, .int .i64 (ps (fun i => ps (fun k => T.ft p q Bool.false i k) T.A.n) s + ps (fun k => T.ft p q Bool.false s k) t)), (11, .int .i64 (ps (fun i => ps (fun k => T.ft p q Bool.true i k) T.A.n) s + ps (fun k => T.ft p q Bool.true s k) t)), (12, .int .i64 s), (13, .int .i64 t)])
      (fun t h1 => h1.get h.next = some (.cells (exBox T) 25) ∧ h1.get (h.next + 3) = some (.cells [.int .i64 0, .int .i64 0, .int .i64 0, .int .i64 0] 37) ∧ Same m h h1 ∧ Same h3.next h3 h1 ∧ h3.next ≤ h1.next ∧ t ≤ T.A.n) (fun t => T.A.n - t) 0 ⟨rfl, rfl, rfl, rfl, int_of rfl (by simp [ps]), int_of rfl (by simp [ps]), rfl, rfl, trivial⟩ ⟨by (exact byGet), by (exact byGet), by (exact bySame), by (exact bySame), by (exact byOm), by omega⟩ ?_
    rintro t g'' h5 ⟨g3, g4, sm3, sm4, n5, ht⟩ K' hK'
    unfold exBox at g3
    have i7 := i1.same sm3 r1
    have d7 := di.same sm4 dr
    have re' := re s (by omega)
    have ri' := (ri s (by omega)).same sm3 (rr s (by omega))
    have rr' := rr s (by omega)
    have rl' := rl s (by omega)
    have dse' := dse s (by omega)
    have dsi' := (dsi s (by omega)).same sm4 (dsr s (by omega))
    have dsr' := dsr s (by omega)
    have dsl' := dsl s (by omega)
    by_cases htw : t < T.A.n
    · have e2 := df s t hsn htw
      have hb := gbd s t hsn htw
      unfold Tbl.Bd at hb
      have p1 := hft Bool.false s t hsn htw
      have p2 := hft Bool.true s t hsn htw
      have p4 : -3200000000000000000 ≤ ps (fun i => ps (fun k => T.ft p q Bool.false i k) T.A.n) s + ps (fun k => T.ft p q Bool.false s k) t + T.ft p q Bool.false s t ∧ ps (fun i => ps (fun k => T.ft p q Bool.false i k) T.A.n) s + ps (fun k => T.ft p q Bool.false s k) t + T.ft p q Bool.false s t ≤ 3200000000000000000 := by
        have w := gs_part (hft Bool.false) hsn (t := t + 1) (by omega)
        simp only [ps] at w
        rw [Int.add_assoc]
        exact ⟨Int.le_trans (by omega) w.1, Int.le_trans w.2 hgs⟩
      have p6 : -3200000000000000000 ≤ ps (fun i => ps (fun k => T.ft p q Bool.true i k) T.A.n) s + ps (fun k => T.ft p q Bool.true s k) t + T.ft p q Bool.true s t ∧ ps (fun i => ps (fun k => T.ft p q Bool.true i k) T.A.n) s + ps (fun k => T.ft p q Bool.true s k) t + T.ft p q Bool.true s t ≤ 3200000000000000000 := by
        have w := gs_part (hft Bool.true) hsn (t := t + 1) (by omega)
        simp only [ps] at w
        rw [Int.add_assoc]
        exact ⟨Int.le_trans (by omega) w.1, Int.le_trans w.2 hgs⟩
      have p7 := gs_one hdd hsn htw
      obtain ⟨m1, m2⟩ := T.ft_min p q hb.2.1
      have b1 := abs_mul2 (x := D.f s t) hb.1 (show T.lo s t ≤ 100000 by omega)
      have b2 := abs_mul2 (x := D.f s t) (show 0 ≤ T.hi s t by omega) hb.2.2
      rw [← e2] at m1 m2
      have p8 : (((D.f s t).natAbs : Int) * 100000) ≤ gs (fun i k => ((T.more p q i k).natAbs : Int) * 100000) T.P.n T.A.n := by rw [e2]; exact p7
      (focus ((try with_reducible apply wpC.to); (repeat' ((conv => whnf); first | refine byEv ?_ | ((apply Fork.mk) <;> (intro _; try (exfalso; omega; done))) | ((apply q_call); (focus exact byNext); (focus exact byLo); (focus (first | exact kChartRg0 | exact kChartRd0)); first | ((apply q_allB) <;> (intro z_b _ _ _; first | exact Bool.noConfusion z_b | replace z_b := of_decide_eq_true z_b | replace z_b := of_decide_eq_false z_b | skip) <;> (first | contradiction | (revert z_b; intros))) | ((apply q_alli) <;> (intro _ _ _ _; try contradiction)) | ((apply q_allv); intro _ _ _)) | ((apply Load1.mk); (focus ((repeat (first | (apply el_lo <;> first | assumption | omega) | (apply el_hi <;> first | assumption | omega) | apply bump_old | ((apply put_old); focus (dsimp only [aadd]; omega)) | ((apply quiet_old); (focus assumption); focus (dsimp only [aadd]; omega)) | ((apply same_old); (focus assumption); focus (dsimp only [aadd]; omega)))); done)); (focus exact byVal)) | fail)); all_goals (conv => whnf); all_goals (try with_reducible apply At.mk)))
      rw [m1]
      (focus ((try with_reducible apply wpC.to); (repeat' ((conv => whnf); first | refine byEv ?_ | ((apply Fork.mk) <;> (intro _; try (exfalso; omega; done))) | ((apply q_call); (focus exact byNext); (focus exact byLo); (focus (first | exact kChartRg0 | exact kChartRd0)); first | ((apply q_allB) <;> (intro z_b _ _ _; first | exact Bool.noConfusion z_b | replace z_b := of_decide_eq_true z_b | replace z_b := of_decide_eq_false z_b | skip) <;> (first | contradiction | (revert z_b; intros))) | ((apply q_alli) <;> (intro _ _ _ _; try contradiction)) | ((apply q_allv); intro _ _ _)) | ((apply Load1.mk); (focus ((repeat (first | (apply el_lo <;> first | assumption | omega) | (apply el_hi <;> first | assumption | omega) | apply bump_old | ((apply put_old); focus (dsimp only [aadd]; omega)) | ((apply quiet_old); (focus assumption); focus (dsimp only [aadd]; omega)) | ((apply same_old); (focus assumption); focus (dsimp only [aadd]; omega)))); done)); (focus exact byVal)) | fail)); all_goals (conv => whnf); all_goals (try with_reducible apply At.mk)))
      rw [m2]
      (focus ((try with_reducible apply wpC.to); (repeat' ((conv => whnf); first | refine byEv ?_ | ((apply Fork.mk) <;> (intro _; try (exfalso; omega; done))) | ((apply q_call); (focus exact byNext); (focus exact byLo); (focus (first | exact kChartRg0 | exact kChartRd0)); first | ((apply q_allB) <;> (intro z_b _ _ _; first | exact Bool.noConfusion z_b | replace z_b := of_decide_eq_true z_b | replace z_b := of_decide_eq_false z_b | skip) <;> (first | contradiction | (revert z_b; intros))) | ((apply q_alli) <;> (intro _ _ _ _; try contradiction)) | ((apply q_allv); intro _ _ _)) | ((apply Load1.mk); (focus ((repeat (first | (apply el_lo <;> first | assumption | omega) | (apply el_hi <;> first | assumption | omega) | apply bump_old | ((apply put_old); focus (dsimp only [aadd]; omega)) | ((apply quiet_old); (focus assumption); focus (dsimp only [aadd]; omega)) | ((apply same_old); (focus assumption); focus (dsimp only [aadd]; omega)))); done)); (focus exact byVal)) | fail)); all_goals (conv => whnf); all_goals (try with_reducible apply At.mk)))
      refine hK' (t + 1) _ _ ⟨rfl, rfl, rfl, rfl, int_of rfl (by simp only [ps]; omega), int_of rfl (by simp only [ps]; omega), rfl, int_of rfl (by omega), trivial⟩ ⟨by (exact byGet), by (exact byGet), by (exact bySame), by (exact bySame), by (exact byOm), by omega⟩ (by omega)
    · obtain rfl : t = T.A.n := by omega
      (focus ((try with_reducible apply wpC.to); (repeat' ((conv => whnf); first | refine byEv ?_ | ((apply Fork.mk) <;> (intro _; try (exfalso; omega; done))) | ((apply q_call); (focus exact byNext); (focus exact byLo); (focus (first | exact kChartRg0 | exact kChartRd0)); first | ((apply q_allB) <;> (intro z_b _ _ _; first | exact Bool.noConfusion z_b | replace z_b := of_decide_eq_true z_b | replace z_b := of_decide_eq_false z_b | skip) <;> (first | contradiction | (revert z_b; intros))) | ((apply q_alli) <;> (intro _ _ _ _; try contradiction)) | ((apply q_allv); intro _ _ _)) | ((apply Load1.mk); (focus ((repeat (first | (apply el_lo <;> first | assumption | omega) | (apply el_hi <;> first | assumption | omega) | apply bump_old | ((apply put_old); focus (dsimp only [aadd]; omega)) | ((apply quiet_old); (focus assumption); focus (dsimp only [aadd]; omega)) | ((apply same_old); (focus assumption); focus (dsimp only [aadd]; omega)))); done)); (focus exact byVal)) | fail)); all_goals (conv => whnf); all_goals (try with_reducible apply At.mk)))
      refine hK (s + 1) _ _ ⟨rfl, rfl, rfl, rfl, int_of rfl (by simp only [ps]), int_of rfl (by simp only [ps]), int_of rfl (by omega), trivial⟩ ⟨by (exact byGet), by (exact byGet), by (exact bySame), by (exact bySame), by (exact byOm), by omega⟩ (by omega)
  · obtain rfl : s = T.P.n := by omega
    have w1 : -3200000000000000000 ≤ ps (fun i => ps (fun k => T.ft p q Bool.false i k) T.A.n) T.P.n ∧ ps (fun i => ps (fun k => T.ft p q Bool.false i k) T.A.n) T.P.n ≤ 3200000000000000000 :=
      have w := gs_whole (hft Bool.false) (Nat.le_refl T.P.n)
      ⟨Int.le_trans (by omega) w.1, Int.le_trans w.2 hgs⟩
    have w2 : -3200000000000000000 ≤ ps (fun i => ps (fun k => T.ft p q Bool.true i k) T.A.n) T.P.n ∧ ps (fun i => ps (fun k => T.ft p q Bool.true i k) T.A.n) T.P.n ≤ 3200000000000000000 :=
      have w := gs_whole (hft Bool.true) (Nat.le_refl T.P.n)
      ⟨Int.le_trans (by omega) w.1, Int.le_trans w.2 hgs⟩
    (focus ((try with_reducible apply wpC.to); (repeat' ((conv => whnf); first | refine byEv ?_ | ((apply Fork.mk) <;> (intro _; try (exfalso; omega; done))) | ((apply q_call); (focus exact byNext); (focus exact byLo); (focus (first | exact kChartRg0 | exact kChartRd0)); first | ((apply q_allB) <;> (intro z_b _ _ _; first | exact Bool.noConfusion z_b | replace z_b := of_decide_eq_true z_b | replace z_b := of_decide_eq_false z_b | skip) <;> (first | contradiction | (revert z_b; intros))) | ((apply q_alli) <;> (intro _ _ _ _; try contradiction)) | ((apply q_allv); intro _ _ _)) | ((apply Load1.mk); (focus ((repeat (first | (apply el_lo <;> first | assumption | omega) | (apply el_hi <;> first | assumption | omega) | apply bump_old | ((apply put_old); focus (dsimp only [aadd]; omega)) | ((apply quiet_old); (focus assumption); focus (dsimp only [aadd]; omega)) | ((apply same_old); (focus assumption); focus (dsimp only [aadd]; omega)))); done)); (focus exact byVal)) | fail)); all_goals (conv => whnf); all_goals (try with_reducible apply At.mk)))
    (refine byFin ?_)
    rfl
end AE.Try
