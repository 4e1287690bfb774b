/- Walks of the definitions of charts: where a need is met. -/
import Derived.Test.YtbfhhncmmllblaaChartRe
set_option linter.unusedVariables false
set_option linter.unusedSimpArgs false
set_option linter.unusedSectionVars false
namespace AE.Try
open Go AE Go.Proofs
set_option maxRecDepth 100000
set_option linter.unusedVariables false
set_option linter.unusedSimpArgs false

theorem fr_whole {a d : Int} (hd : 0 < d) : fr (d * a) d = ⟨a, 1⟩ := by
  have hg : Int.gcd (d * a) d = d.natAbs := by
    rw [Int.gcd_comm]
    exact Int.gcd_eq_natAbs_left_iff_dvd.2 (Int.dvd_mul_right d a)
  have e : ((d.natAbs : Nat) : Int) = d := by omega
  unfold fr
  rw [hg, e, Int.mul_ediv_cancel_left _ (by omega), Int.ediv_self (by omega)]
theorem Tbl.mres_at {T : Tbl} {f : Nat → Nat → Int} {x : Int} {n : Nd} {k : Nat} (hd : ∀ k, k + 1 < T.A.n → T.ab f x n (k + 1) < T.ab f x n k) (hk : k + 1 < T.A.n) (h1 : 0 ≤ T.ab f x n k) (h2 : T.ab f x n (k + 1) ≤ 0) :
    T.mres f x n = (fr (T.A.f k * (-T.ab f x n (k + 1)) + T.A.f (k + 1) * T.ab f x n k) (T.ab f x n k + (-T.ab f x n (k + 1))), Bool.true) := by
  have mono : ∀ e j, j + e < T.A.n → T.ab f x n (j + e) ≤ T.ab f x n j := by
    intro e
    induction e with
    | zero => exact fun j _ => Int.le_refl _
    | succ e ih =>
      intro j hj
      have := ih j (by omega)
      have := hd (j + e) (by omega)
      rw [show j + (e + 1) = j + e + 1 by omega]
      omega
  have before : ∀ j, j < k → 0 < T.ab f x n j := fun j hj => by
    have a := mono (k - (j + 1)) (j + 1) (by omega)
    rw [show j + 1 + (k - (j + 1)) = k by omega] at a
    have := hd j (by omega)
    omega
  by_cases z : T.ab f x n k = 0
  · have hq : T.mq f x n = k := lead_eq (by omega) before (.inr (by omega))
    have hneg := hd k hk
    unfold Tbl.mres
    rw [hq, if_pos ⟨by omega, z⟩, z, Int.mul_zero, Int.add_zero, Int.zero_add, Int.mul_comm, fr_whole (by omega)]
  · have hq : T.mq f x n = k + 1 := lead_eq (by omega) (fun j hj => by
      by_cases e : j = k
      · subst e; omega
      · exact before j (by omega)) (.inr h2)
    unfold Tbl.mres
    rw [hq]
    by_cases z2 : T.ab f x n (k + 1) = 0
    · rw [if_pos ⟨hk, z2⟩, z2, Int.neg_zero, Int.mul_zero, Int.zero_add, Int.add_zero, Int.mul_comm, fr_whole (by omega)]
    · rw [if_neg (fun h => z2 h.2), if_neg (by omega), show k + 1 - 1 = k by omega]
theorem Tbl.mres_none {T : Tbl} {f : Nat → Nat → Int} {x : Int} {n : Nd} (hn : 2 ≤ T.A.n) (hd : ∀ k, k + 1 < T.A.n → T.ab f x n (k + 1) < T.ab f x n k) (h : ∀ k, k + 1 < T.A.n → T.ab f x n k < 0 ∨ 0 < T.ab f x n (k + 1)) : T.mres f x n = (⟨0, 0⟩, Bool.false) := by
  have hle : T.mq f x n ≤ T.A.n := lead_le _ _
  have hpos : ∀ j, j < T.mq f x n → 0 < T.ab f x n j := lead_pos _ _
  rcases lead_end (T.ab f x n) T.A.n with e | ⟨e1, e2⟩
  · have e : T.mq f x n = T.A.n := e
    unfold Tbl.mres
    rw [e, if_neg (by omega), if_pos (.inr rfl)]
  · have e1 : T.mq f x n < T.A.n := e1
    have e2 : T.ab f x n (T.mq f x n) ≤ 0 := e2
    have h0 : T.mq f x n = 0 := by
      rcases Nat.eq_zero_or_pos (T.mq f x n) with h0 | h0
      · exact h0
      · have a := hpos (T.mq f x n - 1) (by omega)
        have b := h (T.mq f x n - 1) (by omega)
        rw [show T.mq f x n - 1 + 1 = T.mq f x n by omega] at b
        omega
    rw [h0] at e2
    have b := h 0 (by omega)
    have c := hd 0 (by omega)
    simp only [Nat.zero_add] at b c
    unfold Tbl.mres
    rw [h0, if_neg (fun k => by have := k.2; omega), if_pos (.inl rfl)]
theorem Tbl.ab_falls {T : Tbl} {f : Nat → Nat → Int} {x : Int} {n : Nd} (g : T.Good) (ox : AE.Try.On T.P.f T.P.n x) (hn : n.Ok) (hf : ∀ i, i < T.P.n → Desc (f i) T.A.n) : ∀ k, k + 1 < T.A.n → T.ab f x n (k + 1) < T.ab f x n k := fun k hk => by
  obtain ⟨ha1, ha2, ha3, ha4⟩ := nb_spec g.rp g.p2 ox
  have u1 := g.rp.up _ ha1
  have u2 := g.ra.up k hk
  have f1 := hf (nb T.P.f T.P.n x) (by omega) k (by omega)
  have f2 := hf (nb T.P.f T.P.n x + 1) ha1 k (by omega)
  have m1 := Int.mul_le_mul_of_nonneg_left f1 (show 0 ≤ T.P.f (nb T.P.f T.P.n x + 1) - x by omega)
  have m2 := Int.mul_le_mul_of_nonneg_left f2 (show 0 ≤ x - T.P.f (nb T.P.f T.P.n x) by omega)
  have m3 : n.s * T.A.f k < n.s * T.A.f (k + 1) := Int.mul_lt_mul_of_pos_left u2 (by have := hn.s0; omega)
  have m4 := Int.mul_lt_mul_of_pos_left (show n.b + n.s * T.A.f k < n.b + n.s * T.A.f (k + 1) by omega) (show 0 < T.P.f (nb T.P.f T.P.n x + 1) - x + (x - T.P.f (nb T.P.f T.P.n x)) by omega)
  unfold Tbl.ab
  omega
/-- The fraction, as the definition writes it. -/
theorem meet_num (W b s u v p q : Int) : p * v - q * u - W * (v - u) * b = u * (-(q - W * (b + s * v))) + v * (p - W * (b + s * u)) := by
  simp only [Int.sub_mul, Int.mul_sub, Int.mul_add, Int.add_mul, Int.mul_neg, Int.neg_sub, Int.mul_assoc, Int.mul_comm, Int.mul_left_comm]
  omega
theorem meet_den (W b s u v p q : Int) : p - q + W * (v - u) * s = (p - W * (b + s * u)) + (-(q - W * (b + s * v))) := by
  simp only [Int.sub_mul, Int.mul_sub, Int.mul_add, Int.add_mul, Int.mul_neg, Int.neg_sub, Int.mul_assoc, Int.mul_comm, Int.mul_left_comm]
  omega

set_option maxHeartbeats 4000000 in
theorem meet_r {h : H} {T : Tbl} {p : Pul} {m : Nat} {x : Int} {n : Nd} (hm : m ≤ h.next) (hT : T.Ok m h) (hp : p.Ok m h) (g : T.Good) (pn : p.M.n = T.P.n) (pw : ∀ i, i < T.P.n → p.M.w i = T.A.n) (pr : ∀ i k, i < T.P.n → k < T.A.n → 0 ≤ p.f i k ∧ p.f i k ≤ 100000) (ox : AE.Try.On T.P.f T.P.n x) (hn : n.Ok) (hf : ∀ i, i < T.P.n → Desc (p.f i) T.A.n) :
    AW Try.prog 72 h.next h [.agg ⟨T.cells⟩, .slice p.M.b p.M.n p.M.c, .int .i64 x, .agg ⟨n.cells⟩] (fun v _ => v = .tuple #[.agg ⟨(T.mres p.f x n).1.cells⟩, .bool (T.mres p.f x n).2]) := by
  have hd := Tbl.ab_falls g ox hn hf
  obtain ⟨kP, kA, kR⟩ := hT
  have eP := kP.e
  have iP := kP.i
  have rP := kP.r
  have eA := kA.e
  have iA := kA.i
  have rA := kA.r
  obtain ⟨f1, j1, s1, m1, se, sj, ss, sl, -⟩ := hp
  have gp := g.rp
  have g2 := g.p2
  have gp8 := g.p8
  have ga2 := g.a2
  have ga10 := g.a10
  obtain ⟨ha1, ha2, ha3, ha4⟩ := nb_spec g.rp g.p2 ox
  have u1 := g.rp.up _ ha1
  have v1 := g.rp.rng _ ha1
  have v2 := g.rp.rng (nb T.P.f T.P.n x) (by omega)
  have rP' := rP (by omega)
  have rA' := rA (by omega)
  have rM' := s1 (by omega)
  obtain ⟨n1, n2, n3, n4⟩ := hn
  obtain ⟨X, eX⟩ : ∃ X, X = x - T.P.f (nb T.P.f T.P.n x) := ⟨_, rfl⟩
  obtain ⟨W, eW⟩ : ∃ W, W = T.P.f (nb T.P.f T.P.n x + 1) - T.P.f (nb T.P.f T.P.n x) := ⟨_, rfl⟩
  have habv : ∀ k, T.ab p.f x n k = ((W - X) * p.f (nb T.P.f T.P.n x) k + X * p.f (nb T.P.f T.P.n x + 1) k) - W * (n.b + n.s * T.A.f k) := fun k => by
    unfold Tbl.ab
    rw [show T.P.f (nb T.P.f T.P.n x + 1) - x + (x - T.P.f (nb T.P.f T.P.n x)) = W by omega, show T.P.f (nb T.P.f T.P.n x + 1) - x = W - X by omega, ← eX]
  have pw0 := pw (nb T.P.f T.P.n x) (by omega)
  have pw1 := pw (nb T.P.f T.P.n x + 1) (by omega)
  have t0 := ss (nb T.P.f T.P.n x) (by omega) (by omega)
  have t1 := ss (nb T.P.f T.P.n x + 1) (by omega) (by omega)
  have q0 := se (nb T.P.f T.P.n x) (by omega)
  have q1 := se (nb T.P.f T.P.n x + 1) (by omega)
  refine fun72.call rfl (Nat.le_refl _) ?_
  unfold a72 Tbl.cells Nd.cells
  (focus ((try with_reducible apply wpC.to); (repeat' ((conv => whnf); first | refine byEv ?_ | ((apply Fork.mk) <;> (intro _; try (exfalso; omega; done))) | ((apply q_call); (focus exact byNext); (focus exact byLo); (focus (first | exact kChartRd0 | exact kChartRc0)); first | ((apply q_allB) <;> (intro z_b _ _ _; first | exact Bool.noConfusion z_b | replace z_b := of_decide_eq_true z_b | replace z_b := of_decide_eq_false z_b | skip) <;> (first | contradiction | (revert z_b; intros))) | ((apply q_alli) <;> (intro _ _ _ _; try contradiction)) | ((apply q_allv); intro _ _ _)) | ((apply Load1.mk); (focus ((repeat (first | (apply el_lo <;> first | assumption | omega) | (apply el_hi <;> first | assumption | omega) | apply bump_old | ((apply put_old); focus (dsimp only [aadd]; omega)) | ((apply quiet_old); (focus assumption); focus (dsimp only [aadd]; omega)) | ((apply same_old); (focus assumption); focus (dsimp only [aadd]; omega)))); done)); (focus exact byVal)) | fail)); all_goals (conv => whnf); all_goals (try with_reducible apply At.mk)))
  rename_i h2 _ _
  refine wp_loop (fun k : Nat => [(1, .slice p.M.b p.M.n p.M.c), (4, .pointer (some ⟨h.next, 0, none⟩)), (7, .pointer (some ⟨h.next + 1, 0, none⟩)), (8, .pointer (some ⟨h.next + 2, 0, none⟩)), (9, .bool false), (10, .int .i64 (nb T.P.f T.P.n x)), (11, .int .i64 X), (12, .int .i64 W), (13, .int .i64 k)])
    (fun k h3 => h3.get h.next = some (.cells (exBox T) 25) ∧ h3.get (h.next + 1) = some (.cells [.int .i64 n.b, .int .i64 n.s] 44) ∧ h3.get (h.next + 2) = some (.cells [.int .i64 0, .int .i64 0] 32) ∧ Same m h h3 ∧ h.next + 3 ≤ h3.next ∧ k + 1 ≤ T.A.n ∧ ∀ j, j < k → T.ab p.f x n j < 0 ∨ 0 < T.ab p.f x n (j + 1)) (fun k => T.A.n - k) 0 ⟨rfl, rfl, rfl, rfl, rfl, rfl, int_of rfl eX.symm, int_of rfl eW.symm, rfl, trivial⟩ ⟨by (exact byGet), by (exact byGet), by (exact byGet), by (exact bySame), by (exact byOm), by omega, fun j hj => by omega⟩ ?_
  rintro k g' h3 ⟨y1, y2, y3, sm3, n3', hk, hpast⟩ K hK
  unfold exBox at y1
  have z1 := (sj (nb T.P.f T.P.n x) (by omega)).same sm3 (ss _ (by omega))
  have z2 := (sj (nb T.P.f T.P.n x + 1) (by omega)).same sm3 (ss _ (by omega))
  have z3 := j1.same sm3 s1
  have z4 := iA.same sm3 rA
  by_cases hkn : k + 1 < T.A.n
  · have b1 := pr (nb T.P.f T.P.n x) k (by omega) (by omega)
    have b2 := pr (nb T.P.f T.P.n x + 1) k (by omega) (by omega)
    have b3 := pr (nb T.P.f T.P.n x) (k + 1) (by omega) hkn
    have b4 := pr (nb T.P.f T.P.n x + 1) (k + 1) (by omega) hkn
    have d1 := g.ra.rng k (by omega)
    have d2 := g.ra.rng (k + 1) hkn
    have d3 := g.ra.up k hkn
    have c1 := mul_rng (a := W - X) (A := 2000) (by omega) (by omega) b1.1 b1.2
    have c2 := mul_rng (a := X) (A := 2000) (by omega) (by omega) b2.1 b2.2
    have c3 := mul_rng (a := W - X) (A := 2000) (by omega) (by omega) b3.1 b3.2
    have c4 := mul_rng (a := X) (A := 2000) (by omega) (by omega) b4.1 b4.2
    have c5 := mul_rng (a := n.s) (A := 1000) (by omega) (by omega) d1.1 d1.2
    have c6 := mul_rng (a := n.s) (A := 1000) (by omega) (by omega) d2.1 d2.2
    have c7 := mul_rng (a := W) (A := 2000) (b := n.b + n.s * T.A.f k) (B := 2100000) (by omega) (by omega) (by omega) (by omega)
    have c8 := mul_rng (a := W) (A := 2000) (b := n.b + n.s * T.A.f (k + 1)) (B := 2100000) (by omega) (by omega) (by omega) (by omega)
    have a1 := habv k
    have a2 := habv (k + 1)
    have dk := hd k hkn
    have e1 := mul_rng (a := (W - X) * p.f (nb T.P.f T.P.n x) k + X * p.f (nb T.P.f T.P.n x + 1) k) (A := 400000000) (b := T.A.f (k + 1)) (B := 2000) (by omega) (by omega) (by omega) (by omega)
    have e2 := mul_rng (a := (W - X) * p.f (nb T.P.f T.P.n x) (k + 1) + X * p.f (nb T.P.f T.P.n x + 1) (k + 1)) (A := 400000000) (b := T.A.f k) (B := 2000) (by omega) (by omega) (by omega) (by omega)
    have e3 := mul_rng (a := W) (A := 2000) (b := T.A.f (k + 1) - T.A.f k) (B := 2000) (by omega) (by omega) (by omega) (by omega)
    have e4 := mul_rng (a := W * (T.A.f (k + 1) - T.A.f k)) (A := 4000000) (b := n.b) (B := 100000) (by omega) (by omega) (by omega) (by omega)
    have e5 := mul_rng (a := W * (T.A.f (k + 1) - T.A.f k)) (A := 4000000) (b := n.s) (B := 1000) (by omega) (by omega) (by omega) (by omega)
    have again : (T.ab p.f x n k < 0 ∨ 0 < T.ab p.f x n (k + 1)) → ∀ ts h', Holds ts [(1, .slice p.M.b p.M.n p.M.c), (4, .pointer (some ⟨h.next, 0, none⟩)), (7, .pointer (some ⟨h.next + 1, 0, none⟩)), (8, .pointer (some ⟨h.next + 2, 0, none⟩)), (9, .bool false), (10, .int .i64 (nb T.P.f T.P.n x)), (11, .int .i64 X), (12, .int .i64 W), (13, .int .i64 ((k : Int) + 1))] → (∀ r, h'.get r = h3.get r) → h3.next ≤ h'.next → K ts h' := fun he ts h' hh hr hnx => by
      refine hK (k + 1) ts h' (by obtain ⟨x1, x2, x3, x4, x5, x6, x7, x8, x9, x10⟩ := hh; exact ⟨x1, x2, x3, x4, x5, x6, x7, x8, by rw [x9]; exact int_of rfl (by omega), trivial⟩) ⟨(hr _).trans y1, (hr _).trans y2, (hr _).trans y3, fun r hr' => (hr r).trans (sm3 r hr'), by omega, by omega, fun j hj => ?_⟩ (by omega)
      by_cases e : j = k
      · subst e; exact he
      · exact hpast j (by omega)
    (focus ((try with_reducible apply wpC.to); (repeat' ((conv => whnf); first | refine byEv ?_ | ((apply Fork.mk) <;> (intro _; try (exfalso; omega; done))) | ((apply q_call); (focus exact byNext); (focus exact byLo); (focus (first | exact kChartRd0 | exact kChartRc0)); first | ((apply q_allB) <;> (intro z_b _ _ _; first | exact Bool.noConfusion z_b | replace z_b := of_decide_eq_true z_b | replace z_b := of_decide_eq_false z_b | skip) <;> (first | contradiction | (revert z_b; intros))) | ((apply q_alli) <;> (intro _ _ _ _; try contradiction)) | ((apply q_allv); intro _ _ _)) | ((apply Load1.mk); (focus ((repeat (first | (apply el_lo <;> first | assumption | omega) | (apply el_hi <;> first | assumption | omega) | apply bump_old | ((apply put_old); focus (dsimp only [aadd]; omega)) | ((apply quiet_old); (focus assumption); focus (dsimp only [aadd]; omega)) | ((apply same_old); (focus assumption); focus (dsimp only [aadd]; omega)))); done)); (focus exact byVal)) | fail)); all_goals (conv => whnf); all_goals (try with_reducible apply At.mk)))
    · exact again (by omega) _ _ ⟨rfl, rfl, rfl, rfl, rfl, rfl, rfl, rfl, rfl, trivial⟩ (fun _ => rfl) (by (exact byOm))
    · exact again (by omega) _ _ ⟨rfl, rfl, rfl, rfl, rfl, rfl, rfl, rfl, rfl, trivial⟩ (fun _ => rfl) (by (exact byOm))
    have w1 : 0 ≤ T.ab p.f x n k := by omega
    have w2 : T.ab p.f x n (k + 1) ≤ 0 := by omega
    have hres := Tbl.mres_at hd hkn w1 w2
    have enum := meet_num W n.b n.s (T.A.f k) (T.A.f (k + 1)) ((W - X) * p.f (nb T.P.f T.P.n x) k + X * p.f (nb T.P.f T.P.n x + 1) k) ((W - X) * p.f (nb T.P.f T.P.n x) (k + 1) + X * p.f (nb T.P.f T.P.n x + 1) (k + 1))
    have eden := meet_den W n.b n.s (T.A.f k) (T.A.f (k + 1)) ((W - X) * p.f (nb T.P.f T.P.n x) k + X * p.f (nb T.P.f T.P.n x + 1) k) ((W - X) * p.f (nb T.P.f T.P.n x) (k + 1) + X * p.f (nb T.P.f T.P.n x + 1) (k + 1))
    rw [← a1, ← a2] at enum eden
    (focus ((try with_reducible apply wpC.to); (repeat' ((conv => whnf); first | refine byEv ?_ | ((apply Fork.mk) <;> (intro _; try (exfalso; omega; done))) | ((apply q_call); (focus exact byNext); (focus exact byLo); (focus (first | exact kChartRd0 | exact kChartRc0)); first | ((apply q_allB) <;> (intro z_b _ _ _; first | exact Bool.noConfusion z_b | replace z_b := of_decide_eq_true z_b | replace z_b := of_decide_eq_false z_b | skip) <;> (first | contradiction | (revert z_b; intros))) | ((apply q_alli) <;> (intro _ _ _ _; try contradiction)) | ((apply q_allv); intro _ _ _)) | ((apply Load1.mk); (focus ((repeat (first | (apply el_lo <;> first | assumption | omega) | (apply el_hi <;> first | assumption | omega) | apply bump_old | ((apply put_old); focus (dsimp only [aadd]; omega)) | ((apply quiet_old); (focus assumption); focus (dsimp only [aadd]; omega)) | ((apply same_old); (focus assumption); focus (dsimp only [aadd]; omega)))); done)); (focus exact byVal)) | fail)); all_goals (conv => whnf); all_goals (try with_reducible apply At.mk)))
    (refine byFin ?_)
    rw [hres, enum, eden]
    rfl
  · obtain rfl : k = T.A.n - 1 := by omega
    have hres := Tbl.mres_none ga2 hd fun j hj => hpast j (by omega)
    (focus ((try with_reducible apply wpC.to); (repeat' ((conv => whnf); first | refine byEv ?_ | ((apply Fork.mk) <;> (intro _; try (exfalso; omega; done))) | ((apply q_call); (focus exact byNext); (focus exact byLo); (focus (first | exact kChartRd0 | exact kChartRc0)); first | ((apply q_allB) <;> (intro z_b _ _ _; first | exact Bool.noConfusion z_b | replace z_b := of_decide_eq_true z_b | replace z_b := of_decide_eq_false z_b | skip) <;> (first | contradiction | (revert z_b; intros))) | ((apply q_alli) <;> (intro _ _ _ _; try contradiction)) | ((apply q_allv); intro _ _ _)) | ((apply Load1.mk); (focus ((repeat (first | (apply el_lo <;> first | assumption | omega) | (apply el_hi <;> first | assumption | omega) | apply bump_old | ((apply put_old); focus (dsimp only [aadd]; omega)) | ((apply quiet_old); (focus assumption); focus (dsimp only [aadd]; omega)) | ((apply same_old); (focus assumption); focus (dsimp only [aadd]; omega)))); done)); (focus exact byVal)) | fail)); all_goals (conv => whnf); all_goals (try with_reducible apply At.mk)))
    (refine byFin ?_)
    rw [hres]
    rfl

theorem kChartRi0 {G : Prop} (g : G := by (exact need_r)) : G := g
theorem kChartRi1 {G : Prop} (g : G := by ((apply falls_r; rotate_left; (focus (apply Pul.Ok.same; (focus assumption); (focus exact bySame); (focus exact Nat.le_refl _))); (focus exact byOm)))) : G := g

theorem Tbl.nderr_of {T : Tbl} {x : Int} {n : Nd} (h1 : n.Ok) (h2 : AE.Try.On T.P.f T.P.n x) : T.nderr x n = 0 := by unfold Tbl.nderr; rw [if_neg (fun k => k h1), if_neg (fun k => k h2)]

set_option maxHeartbeats 1000000 in
theorem Meet_r {h : H} {T : Tbl} {p : Pul} {m : Nat} {x : Int} {n : Nd} (hm : m ≤ h.next) (hT : T.Ok m h) (hp : p.Ok m h) : AW Try.prog 24 h.next h [.agg ⟨T.cells⟩, .slice p.M.b p.M.n p.M.c, .int .i64 x, .agg ⟨n.cells⟩] (fun v _ => v = .tuple #[.agg ⟨(T.mval p x n).cells⟩, .int .i64 (T.merr p x n)]) := by
  have bad : ∀ e, T.merr p x n = e → e ≠ 0 → T.mval p x n = ⟨0, 0⟩ := fun e h1 h2 => by unfold Tbl.mval; rw [h1, if_neg h2]
  have kP := hT.P
  refine fun24.call rfl (Nat.le_refl _) ?_
  unfold a24 Tbl.cells Nd.cells
  (focus ((try with_reducible apply wpC.to); (repeat' ((conv => whnf); first | refine byEv ?_ | ((apply Fork.mk) <;> (intro _; try (exfalso; omega; done))) | ((apply q_call); (focus exact byNext); (focus exact byLo); (focus (first | exact kChartRi1 | exact kChartRi0 | exact kChartRd1 | exact kChartRb1)); first | ((apply q_allB) <;> (intro z_b _ _ _; first | exact Bool.noConfusion z_b | replace z_b := of_decide_eq_true z_b | replace z_b := of_decide_eq_false z_b | skip) <;> (first | contradiction | (revert z_b; intros))) | ((apply q_alli) <;> (intro _ _ _ _; try contradiction)) | ((apply q_allv); intro _ _ _)) | ((apply Load1.mk); (focus ((repeat (first | (apply el_lo <;> first | assumption | omega) | (apply el_hi <;> first | assumption | omega) | apply bump_old | ((apply put_old); focus (dsimp only [aadd]; omega)) | ((apply quiet_old); (focus assumption); focus (dsimp only [aadd]; omega)) | ((apply same_old); (focus assumption); focus (dsimp only [aadd]; omega)))); done)); (focus exact byVal)) | fail)); all_goals (conv => whnf); all_goals (try with_reducible apply At.mk)))
  · have he : T.merr p x n = T.terr p := by unfold Tbl.merr; rw [if_pos (by assumption)]
    (refine byFin ?_)
    rw [bad _ he (by assumption), he]
    rfl
  have ht : T.terr p = 0 := by assumption
  obtain ⟨g, t⟩ := Tbl.true ht
  have tn := t.n
  have tw := t.w
  have tb := t.bd g
  have g2 := g.p2
  (focus ((try with_reducible apply wpC.to); (repeat' ((conv => whnf); first | refine byEv ?_ | ((apply Fork.mk) <;> (intro _; try (exfalso; omega; done))) | ((apply q_call); (focus exact byNext); (focus exact byLo); (focus (first | exact kChartRi1 | exact kChartRi0 | exact kChartRd1 | exact kChartRb1)); first | ((apply q_allB) <;> (intro z_b _ _ _; first | exact Bool.noConfusion z_b | replace z_b := of_decide_eq_true z_b | replace z_b := of_decide_eq_false z_b | skip) <;> (first | contradiction | (revert z_b; intros))) | ((apply q_alli) <;> (intro _ _ _ _; try contradiction)) | ((apply q_allv); intro _ _ _)) | ((apply Load1.mk); (focus ((repeat (first | (apply el_lo <;> first | assumption | omega) | (apply el_hi <;> first | assumption | omega) | apply bump_old | ((apply put_old); focus (dsimp only [aadd]; omega)) | ((apply quiet_old); (focus assumption); focus (dsimp only [aadd]; omega)) | ((apply same_old); (focus assumption); focus (dsimp only [aadd]; omega)))); done)); (focus exact byVal)) | fail)); all_goals (conv => whnf); all_goals (try with_reducible apply At.mk)))
  rotate_left
  · have hno : n.Ok := by assumption
    have ox : AE.Try.On T.P.f T.P.n x := by assumption
    have hn := Tbl.nderr_of (T := T) hno ox
    have hf : ¬ p.Falls := by assumption
    have he : T.merr p x n = 16 := by
      unfold Tbl.merr
      rw [if_neg (fun k => k ht), if_neg (fun k => k hn), if_pos]
      refine Classical.byContradiction fun hx => hf fun i hi => Classical.byContradiction fun hy => hx ⟨i, by omega, ?_⟩
      rw [← tw i (by omega)]; exact hy
    (refine byFin ?_)
    rw [bad _ he (by decide), he]
    rfl
  · have hno : n.Ok := by assumption
    have he : T.merr p x n = 19 := by
      have : T.nderr x n = 19 := by unfold Tbl.nderr; rw [if_neg (fun k => k hno), if_pos (by assumption)]
      unfold Tbl.merr; rw [if_neg (fun k => k ht), this, if_pos (by decide)]
    (refine byFin ?_)
    rw [bad _ he (by decide), he]
    rfl
  · have ht : T.terr p = 0 := by assumption
    have he : T.merr p x n = 2 := by
      have : T.nderr x n = 2 := by unfold Tbl.nderr; rw [if_pos (by assumption)]
      unfold Tbl.merr; rw [if_neg (fun k => k ht), this, if_pos (by decide)]
    (refine byFin ?_)
    rw [bad _ he (by decide), he]
    rfl
  have hno : n.Ok := by assumption
  have ox : AE.Try.On T.P.f T.P.n x := by assumption
  have hn := Tbl.nderr_of (T := T) hno ox
  have hf : p.Falls := by assumption
  have hf' : ∀ i, i < T.P.n → Desc (p.f i) T.A.n := fun i hi => by rw [← tw i hi]; exact hf i (by omega)
  have hd1 : ¬ ∃ i, i < T.P.n ∧ ¬ Desc (p.f i) T.A.n := fun ⟨i, h1, h2⟩ => h2 (hf' i h1)
  apply q_call
  focus (exact byNext)
  focus (exact byLo)
  focus exact meet_r (T := T) (p := p) (x := x) (n := n) (m := m) (by (exact byOm)) (hT.same (by (exact bySame)) (Nat.le_refl _)) (hp.same (by (exact bySame)) (Nat.le_refl _)) g tn tw tb ox hno hf'
  rintro _ h4 rfl q4 n4
  generalize hr : T.mres p.f x n = r
  obtain ⟨r1, r2⟩ := r
  cases r2
  · have he : T.merr p x n = 5 := by unfold Tbl.merr; rw [if_neg (fun k => k ht), if_neg (fun k => k hn), if_neg hd1, hr, if_neg (fun h => Bool.noConfusion h)]
    (focus ((try with_reducible apply wpC.to); (repeat' ((conv => whnf); first | refine byEv ?_ | ((apply Fork.mk) <;> (intro _; try (exfalso; omega; done))) | ((apply q_call); (focus exact byNext); (focus exact byLo); (focus (first | exact kChartRi1 | exact kChartRi0 | exact kChartRd1 | exact kChartRb1)); first | ((apply q_allB) <;> (intro z_b _ _ _; first | exact Bool.noConfusion z_b | replace z_b := of_decide_eq_true z_b | replace z_b := of_decide_eq_false z_b | skip) <;> (first | contradiction | (revert z_b; intros))) | ((apply q_alli) <;> (intro _ _ _ _; try contradiction)) | ((apply q_allv); intro _ _ _)) | ((apply Load1.mk); (focus ((repeat (first | (apply el_lo <;> first | assumption | omega) | (apply el_hi <;> first | assumption | omega) | apply bump_old | ((apply put_old); focus (dsimp only [aadd]; omega)) | ((apply quiet_old); (focus assumption); focus (dsimp only [aadd]; omega)) | ((apply same_old); (focus assumption); focus (dsimp only [aadd]; omega)))); done)); (focus exact byVal)) | fail)); all_goals (conv => whnf); all_goals (try with_reducible apply At.mk)))
    (refine byFin ?_)
    rw [bad _ he (by decide), he]
    rfl
  · have he : T.merr p x n = 0 := by unfold Tbl.merr; rw [if_neg (fun k => k ht), if_neg (fun k => k hn), if_neg hd1, hr, if_pos rfl]
    (focus ((try with_reducible apply wpC.to); (repeat' ((conv => whnf); first | refine byEv ?_ | ((apply Fork.mk) <;> (intro _; try (exfalso; omega; done))) | ((apply q_call); (focus exact byNext); (focus exact byLo); (focus (first | exact kChartRi1 | exact kChartRi0 | exact kChartRd1 | exact kChartRb1)); first | ((apply q_allB) <;> (intro z_b _ _ _; first | exact Bool.noConfusion z_b | replace z_b := of_decide_eq_true z_b | replace z_b := of_decide_eq_false z_b | skip) <;> (first | contradiction | (revert z_b; intros))) | ((apply q_alli) <;> (intro _ _ _ _; try contradiction)) | ((apply q_allv); intro _ _ _)) | ((apply Load1.mk); (focus ((repeat (first | (apply el_lo <;> first | assumption | omega) | (apply el_hi <;> first | assumption | omega) | apply bump_old | ((apply put_old); focus (dsimp only [aadd]; omega)) | ((apply quiet_old); (focus assumption); focus (dsimp only [aadd]; omega)) | ((apply same_old); (focus assumption); focus (dsimp only [aadd]; omega)))); done)); (focus exact byVal)) | fail)); all_goals (conv => whnf); all_goals (try with_reducible apply At.mk)))
    (refine byFin ?_)
    unfold Tbl.mval
    rw [he, if_pos rfl, hr]
    rfl

set_option maxHeartbeats 1000000 in
theorem Meets_r {h : H} {T : Tbl} {m : Nat} {x : Int} {n : Nd} (hm : m ≤ h.next) (hT : T.Ok m h) : AW Try.prog 26 h.next h [.agg ⟨T.cells⟩, .int .i64 x, .agg ⟨n.cells⟩] (fun v _ => v = .tuple #[.agg ⟨(T.msval x n).1.cells ++ (T.msval x n).2.cells⟩, .int .i64 (T.mserr x n)]) := by
  have bad : ∀ e, T.mserr x n = e → e ≠ 0 → T.msval x n = (⟨0, 0⟩, ⟨0, 0⟩) := fun e h1 h2 => by unfold Tbl.msval; rw [h1, if_neg h2]
  have kP := hT.P
  refine fun26.call rfl (Nat.le_refl _) ?_
  unfold a26 Tbl.cells Nd.cells
  (focus ((try with_reducible apply wpC.to); (repeat' ((conv => whnf); first | refine byEv ?_ | ((apply Fork.mk) <;> (intro _; try (exfalso; omega; done))) | ((apply q_call); (focus exact byNext); (focus exact byLo); (focus (first | exact kChartRi0 | exact kChartRb1 | exact kChartRb0)); first | ((apply q_allB) <;> (intro z_b _ _ _; first | exact Bool.noConfusion z_b | replace z_b := of_decide_eq_true z_b | replace z_b := of_decide_eq_false z_b | skip) <;> (first | contradiction | (revert z_b; intros))) | ((apply q_alli) <;> (intro _ _ _ _; try contradiction)) | ((apply q_allv); intro _ _ _)) | ((apply Load1.mk); (focus ((repeat (first | (apply el_lo <;> first | assumption | omega) | (apply el_hi <;> first | assumption | omega) | apply bump_old | ((apply put_old); focus (dsimp only [aadd]; omega)) | ((apply quiet_old); (focus assumption); focus (dsimp only [aadd]; omega)) | ((apply same_old); (focus assumption); focus (dsimp only [aadd]; omega)))); done)); (focus exact byVal)) | fail)); all_goals (conv => whnf); all_goals (try with_reducible apply At.mk)))
  · have he : T.mserr x n = T.err := by unfold Tbl.mserr; rw [if_pos (by assumption)]
    (refine byFin ?_)
    rw [bad _ he (by assumption), he]
    rfl
  have ht : T.err = 0 := by assumption
  have g := Tbl.good ht
  have g2 := g.p2
  (focus ((try with_reducible apply wpC.to); (repeat' ((conv => whnf); first | refine byEv ?_ | ((apply Fork.mk) <;> (intro _; try (exfalso; omega; done))) | ((apply q_call); (focus exact byNext); (focus exact byLo); (focus (first | exact kChartRi0 | exact kChartRb1 | exact kChartRb0)); first | ((apply q_allB) <;> (intro z_b _ _ _; first | exact Bool.noConfusion z_b | replace z_b := of_decide_eq_true z_b | replace z_b := of_decide_eq_false z_b | skip) <;> (first | contradiction | (revert z_b; intros))) | ((apply q_alli) <;> (intro _ _ _ _; try contradiction)) | ((apply q_allv); intro _ _ _)) | ((apply Load1.mk); (focus ((repeat (first | (apply el_lo <;> first | assumption | omega) | (apply el_hi <;> first | assumption | omega) | apply bump_old | ((apply put_old); focus (dsimp only [aadd]; omega)) | ((apply quiet_old); (focus assumption); focus (dsimp only [aadd]; omega)) | ((apply same_old); (focus assumption); focus (dsimp only [aadd]; omega)))); done)); (focus exact byVal)) | fail)); all_goals (conv => whnf); all_goals (try with_reducible apply At.mk)))
  rotate_left
  · have hno : n.Ok := by assumption
    have he : T.mserr x n = 19 := by
      have : T.nderr x n = 19 := by unfold Tbl.nderr; rw [if_neg (fun k => k hno), if_pos (by assumption)]
      unfold Tbl.mserr; rw [if_neg (fun k => k ht), this, if_pos (by decide)]
    (refine byFin ?_)
    rw [bad _ he (by decide), he]
    rfl
  · have ht : T.err = 0 := by assumption
    have he : T.mserr x n = 2 := by
      have : T.nderr x n = 2 := by unfold Tbl.nderr; rw [if_pos (by assumption)]
      unfold Tbl.mserr; rw [if_neg (fun k => k ht), this, if_pos (by decide)]
    (refine byFin ?_)
    rw [bad _ he (by decide), he]
    rfl
  have hno : n.Ok := by assumption
  have ox : AE.Try.On T.P.f T.P.n x := by assumption
  have hn := Tbl.nderr_of (T := T) hno ox
  have lb := (lo_pull (T := T) (h := h) hT g).rng
  have hb := (hi_pull (T := T) (h := h) hT g).rng
  have lf : ∀ i, i < T.P.n → Desc (T.lo i) T.A.n := fun i hi k hk => (g.fl i k hi (by omega)).1
  have hf : ∀ i, i < T.P.n → Desc (T.hi i) T.A.n := fun i hi k hk => (g.fl i k hi (by omega)).2
  apply q_call
  focus (exact byNext)
  focus (exact byLo)
  focus exact ends_r (T := T) (m := m) (by (exact byOm)) (hT.same (by (exact bySame)) (Nat.le_refl _)) g
  rintro _ h3 ⟨A, B, rfl, ⟨O1, O2, hO, oA, oB⟩, ⟨an, aw⟩, ⟨bn, bw⟩, af, bf⟩ q3 n3
  have kA := oA.ok
  have kB := oB.ok
  (focus ((try with_reducible apply wpC.to); (repeat' ((conv => whnf); first | refine byEv ?_ | ((apply Fork.mk) <;> (intro _; try (exfalso; omega; done))) | ((apply q_call); (focus exact byNext); (focus exact byLo); (focus (first | exact kChartRi0 | exact kChartRb1 | exact kChartRb0)); first | ((apply q_allB) <;> (intro z_b _ _ _; first | exact Bool.noConfusion z_b | replace z_b := of_decide_eq_true z_b | replace z_b := of_decide_eq_false z_b | skip) <;> (first | contradiction | (revert z_b; intros))) | ((apply q_alli) <;> (intro _ _ _ _; try contradiction)) | ((apply q_allv); intro _ _ _)) | ((apply Load1.mk); (focus ((repeat (first | (apply el_lo <;> first | assumption | omega) | (apply el_hi <;> first | assumption | omega) | apply bump_old | ((apply put_old); focus (dsimp only [aadd]; omega)) | ((apply quiet_old); (focus assumption); focus (dsimp only [aadd]; omega)) | ((apply same_old); (focus assumption); focus (dsimp only [aadd]; omega)))); done)); (focus exact byVal)) | fail)); all_goals (conv => whnf); all_goals (try with_reducible apply At.mk)))
  apply q_call
  focus (exact byNext)
  focus (exact byLo)
  focus exact meet_r (T := T) (p := A) (x := x) (n := n) (m := h3.next) (by (exact byOm)) (hT.same (by (exact bySame)) (by (exact byOm))) (kA.same (by (exact bySame)) (Nat.le_refl _)) g an aw (by rw [af]; exact lb) ox hno (by rw [af]; exact lf)
  rintro _ h4 rfl q4 n4
  rw [af]
  generalize hr : T.mres T.lo x n = r
  obtain ⟨r1, r2⟩ := r
  (focus ((try with_reducible apply wpC.to); (repeat' ((conv => whnf); first | refine byEv ?_ | ((apply Fork.mk) <;> (intro _; try (exfalso; omega; done))) | ((apply q_call); (focus exact byNext); (focus exact byLo); (focus (first | exact kChartRi0 | exact kChartRb1 | exact kChartRb0)); first | ((apply q_allB) <;> (intro z_b _ _ _; first | exact Bool.noConfusion z_b | replace z_b := of_decide_eq_true z_b | replace z_b := of_decide_eq_false z_b | skip) <;> (first | contradiction | (revert z_b; intros))) | ((apply q_alli) <;> (intro _ _ _ _; try contradiction)) | ((apply q_allv); intro _ _ _)) | ((apply Load1.mk); (focus ((repeat (first | (apply el_lo <;> first | assumption | omega) | (apply el_hi <;> first | assumption | omega) | apply bump_old | ((apply put_old); focus (dsimp only [aadd]; omega)) | ((apply quiet_old); (focus assumption); focus (dsimp only [aadd]; omega)) | ((apply same_old); (focus assumption); focus (dsimp only [aadd]; omega)))); done)); (focus exact byVal)) | fail)); all_goals (conv => whnf); all_goals (try with_reducible apply At.mk)))
  apply q_call
  focus (exact byNext)
  focus (exact byLo)
  focus exact meet_r (T := T) (p := B) (x := x) (n := n) (m := h3.next) (by (exact byOm)) (hT.same (by (exact bySame)) (by (exact byOm))) (kB.same (by (exact bySame)) (Nat.le_refl _)) g bn bw (by rw [bf]; exact hb) ox hno (by rw [bf]; exact hf)
  rintro _ h6 rfl q6 n6
  rw [bf]
  generalize hs' : T.mres T.hi x n = s
  obtain ⟨s1, s2⟩ := s
  have hne : ∀ c, T.mserr x n = c → c = 5 → T.msval x n = (⟨0, 0⟩, ⟨0, 0⟩) := fun c h1 h2 => by unfold Tbl.msval; rw [h1, h2, if_neg (by decide)]
  cases r2 <;> cases s2
  all_goals (focus ((try with_reducible apply wpC.to); (repeat' ((conv => whnf); first | refine byEv ?_ | ((apply Fork.mk) <;> (intro _; try (exfalso; omega; done))) | ((apply q_call); (focus exact byNext); (focus exact byLo); (focus (first | exact kChartRi0 | exact kChartRb1 | exact kChartRb0)); first | ((apply q_allB) <;> (intro z_b _ _ _; first | exact Bool.noConfusion z_b | replace z_b := of_decide_eq_true z_b | replace z_b := of_decide_eq_false z_b | skip) <;> (first | contradiction | (revert z_b; intros))) | ((apply q_alli) <;> (intro _ _ _ _; try contradiction)) | ((apply q_allv); intro _ _ _)) | ((apply Load1.mk); (focus ((repeat (first | (apply el_lo <;> first | assumption | omega) | (apply el_hi <;> first | assumption | omega) | apply bump_old | ((apply put_old); focus (dsimp only [aadd]; omega)) | ((apply quiet_old); (focus assumption); focus (dsimp only [aadd]; omega)) | ((apply same_old); (focus assumption); focus (dsimp only [aadd]; omega)))); done)); (focus exact byVal)) | fail)); all_goals (conv => whnf); all_goals (try with_reducible apply At.mk)))
  all_goals (refine byFin ?_)
  · have he : T.mserr x n = 5 := by unfold Tbl.mserr; rw [if_neg (fun k => k ht), if_neg (fun k => k hn), hr, hs', if_neg (by simp)]
    rw [hne _ he rfl, he]; rfl
  · have he : T.mserr x n = 5 := by unfold Tbl.mserr; rw [if_neg (fun k => k ht), if_neg (fun k => k hn), hr, hs', if_neg (by simp)]
    rw [hne _ he rfl, he]; rfl
  · have he : T.mserr x n = 5 := by unfold Tbl.mserr; rw [if_neg (fun k => k ht), if_neg (fun k => k hn), hr, hs', if_neg (by simp)]
    rw [hne _ he rfl, he]; rfl
  · have he : T.mserr x n = 0 := by unfold Tbl.mserr; rw [if_neg (fun k => k ht), if_neg (fun k => k hn), hr, hs', if_pos ⟨rfl, rfl⟩]
    unfold Tbl.msval
    rw [he, if_pos rfl, hr, hs']; rfl
end AE.Try
