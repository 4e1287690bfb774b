/- Walks of chart: where a need is met. -/
import Derived.Test.YtbfhhncmmllblaaChartU
set_option linter.unusedVariables false
set_option linter.unusedSimpArgs false
set_option linter.unusedSectionVars false
namespace AE.Try
open Go AE Go.Proofs
set_option maxRecDepth 100000
set_option linter.unusedVariables false

structure Nd where
  b : Int
  s : Int
def Nd.cells (x : Nd) : List Value := [.int .i64 x.b, .int .i64 x.s]
structure Nd.Ok (x : Nd) : Prop where
  b0 : 0 ≤ x.b
  b1 : x.b ≤ 100000
  s0 : 1 ≤ x.s
  s1 : x.s ≤ 1000
instance (x : Nd) : Decidable x.Ok := decidable_of_iff (0 ≤ x.b ∧ x.b ≤ 100000 ∧ 1 ≤ x.s ∧ x.s ≤ 1000) ⟨fun ⟨a, b, c, d⟩ => ⟨a, b, c, d⟩, fun ⟨a, b, c, d⟩ => ⟨a, b, c, d⟩⟩
def Tbl.nderr (T : Tbl) (x : Int) (n : Nd) : Int := if ¬ n.Ok then 2 else if ¬ AE.Try.On T.P.f T.P.n x then 19 else 0

theorem w64_pred (s : Int) (h : -9223372036854775808 ≤ s ∧ s < 9223372036854775808) : (0 ≤ w64 (s - 1) ∧ w64 (s - 1) ≤ 999) ↔ (1 ≤ s ∧ s ≤ 1000) := by
  by_cases h0 : s = -9223372036854775808
  · subst h0
    have : w64 (-9223372036854775808 - 1) = 9223372036854775807 := by decide
    rw [this]; omega
  · rw [w64_id (by omega)]; omega

theorem kChartV0 {G : Prop} (g : G := by ((apply within1_w; (focus exact byGet); (focus exact byOm)))) : G := g

set_option maxHeartbeats 1000000 in
theorem checkNeed_w {h : H} {T : Tbl} {m : Nat} {x : Int} {n : Nd} (hm : m ≤ h.next) (hT : T.Ok m h) (g : T.Good) (hs : -9223372036854775808 ≤ n.s ∧ n.s < 9223372036854775808) : AW Try.prog 63 h.next h [.agg ⟨T.cells⟩, .int .i64 x, .agg ⟨n.cells⟩] (fun v _ => v = .int .i64 (T.nderr x n)) := by
  obtain ⟨kP, kA, kR⟩ := hT
  have gp := g.rp
  have g2 := g.p2
  obtain ⟨g4, g5⟩ := g.n6
  have hz := w64_pred n.s hs
  refine fun63.call rfl (Nat.le_refl _) ?_
  unfold a63 Tbl.cells Nd.cells
  (focus ((try with_reducible apply wpC.to); (repeat' ((conv => whnf); first | refine byEv ?_ | ((apply q_call); (focus exact byNext); (focus exact byLo); (focus (first | exact kChartV0 | exact kChartF0)); first | ((apply q_allB) <;> (intro z_b _ _ _; first | exact Bool.noConfusion z_b | replace z_b := of_decide_eq_true z_b | replace z_b := of_decide_eq_false z_b | skip) <;> (first | contradiction | (revert z_b; intros))) | ((apply q_alli) <;> (intro _ _ _ _; try contradiction)) | ((apply q_allv); intro _ _ _)) | fail)); all_goals (conv => whnf); all_goals (try with_reducible apply At.mk)))
  · apply ArQ.wr
    generalize w64 (n.s - 1) = z at hz
    (focus ((try with_reducible apply wpC.to); (repeat' ((conv => whnf); first | refine byEv ?_ | ((apply q_call); (focus exact byNext); (focus exact byLo); (focus (first | exact kChartV0 | exact kChartF0)); first | ((apply q_allB) <;> (intro z_b _ _ _; first | exact Bool.noConfusion z_b | replace z_b := of_decide_eq_true z_b | replace z_b := of_decide_eq_false z_b | skip) <;> (first | contradiction | (revert z_b; intros))) | ((apply q_alli) <;> (intro _ _ _ _; try contradiction)) | ((apply q_allv); intro _ _ _)) | fail)); all_goals (conv => whnf); all_goals (try with_reducible apply At.mk)))
    · have hok : n.Ok := ⟨by omega, by omega, by omega, by omega⟩
      generalize h1 : decide (AE.Try.On T.P.f T.P.n x) = b1
      cases b1
      · (focus ((try with_reducible apply wpC.to); (repeat' ((conv => whnf); first | refine byEv ?_ | ((apply q_call); (focus exact byNext); (focus exact byLo); (focus (first | exact kChartV0 | exact kChartF0)); first | ((apply q_allB) <;> (intro z_b _ _ _; first | exact Bool.noConfusion z_b | replace z_b := of_decide_eq_true z_b | replace z_b := of_decide_eq_false z_b | skip) <;> (first | contradiction | (revert z_b; intros))) | ((apply q_alli) <;> (intro _ _ _ _; try contradiction)) | ((apply q_allv); intro _ _ _)) | fail)); all_goals (conv => whnf); all_goals (try with_reducible apply At.mk)))
        (refine byFin ?_)
        have := of_decide_eq_false h1
        unfold Tbl.nderr
        rw [if_neg (fun k => k hok), if_pos this]
      · (focus ((try with_reducible apply wpC.to); (repeat' ((conv => whnf); first | refine byEv ?_ | ((apply q_call); (focus exact byNext); (focus exact byLo); (focus (first | exact kChartV0 | exact kChartF0)); first | ((apply q_allB) <;> (intro z_b _ _ _; first | exact Bool.noConfusion z_b | replace z_b := of_decide_eq_true z_b | replace z_b := of_decide_eq_false z_b | skip) <;> (first | contradiction | (revert z_b; intros))) | ((apply q_alli) <;> (intro _ _ _ _; try contradiction)) | ((apply q_allv); intro _ _ _)) | fail)); all_goals (conv => whnf); all_goals (try with_reducible apply At.mk)))
        (refine byFin ?_)
        have := of_decide_eq_true h1
        unfold Tbl.nderr
        rw [if_neg (fun k => k hok), if_neg (fun k => k this)]
    · (refine byFin ?_)
      unfold Tbl.nderr
      rw [if_pos]
      intro k
      have h1 := k.s0
      have h2 := k.s1
      rename_i hb
      exact hb (hz.2 ⟨h1, h2⟩)
  · (refine byFin ?_)
    unfold Tbl.nderr
    rw [if_pos]
    intro k
    have h1 := k.b0
    have h2 := k.b1
    rename_i hb
    exact hb ⟨h1, h2⟩

/-! ### meet -/

/-- How many of the first n are above 0, one after the other. -/
def lead (f : Nat → Int) : Nat → Nat
  | 0 => 0
  | n + 1 => if lead f n = n ∧ 0 < f n then n + 1 else lead f n
theorem lead_le (f : Nat → Int) : ∀ n, lead f n ≤ n
  | 0 => Nat.le_refl _
  | n + 1 => by have := lead_le f n; simp only [lead]; split <;> omega
theorem lead_pos (f : Nat → Int) : ∀ n j, j < lead f n → 0 < f j
  | 0, j, h => by simp [lead] at h
  | n + 1, j, h => by
    have ih := lead_pos f n
    simp only [lead] at h
    split at h
    · rename_i hc
      by_cases e : j = n
      · subst e; exact hc.2
      · exact ih j (by omega)
    · exact ih j h
theorem lead_end (f : Nat → Int) : ∀ n, lead f n = n ∨ (lead f n < n ∧ f (lead f n) ≤ 0)
  | 0 => .inl rfl
  | n + 1 => by
    have hle := lead_le f n
    simp only [lead]
    split
    · exact .inl rfl
    · rename_i hc
      right
      rcases lead_end f n with h | ⟨h1, h2⟩
      · rw [h]
        rw [h] at hc
        exact ⟨by omega, by omega⟩
      · exact ⟨by omega, h2⟩
theorem lead_eq {f : Nat → Int} {n k : Nat} (hk : k ≤ n) (h1 : ∀ j, j < k → 0 < f j) (h2 : k = n ∨ f k ≤ 0) : lead f n = k := by
  have a := lead_pos f n
  have hle := lead_le f n
  rcases Nat.lt_trichotomy (lead f n) k with h | h | h
  · rcases lead_end f n with e | ⟨_, e⟩
    · omega
    · have := h1 _ h; omega
  · exact h
  · have := a k h
    rcases h2 with h2 | h2 <;> omega

/-- By how much the pull is above the need at an advance, times the distance of the pitches. -/
def Tbl.ab (T : Tbl) (f : Nat → Nat → Int) (x : Int) (n : Nd) (k : Nat) : Int :=
  (T.P.f (nb T.P.f T.P.n x + 1) - x) * f (nb T.P.f T.P.n x) k + (x - T.P.f (nb T.P.f T.P.n x)) * f (nb T.P.f T.P.n x + 1) k - (T.P.f (nb T.P.f T.P.n x + 1) - x + (x - T.P.f (nb T.P.f T.P.n x))) * (n.b + n.s * T.A.f k)
def Tbl.mq (T : Tbl) (f : Nat → Nat → Int) (x : Int) (n : Nd) : Nat := lead (T.ab f x n) T.A.n
/-- The advance at which the need is met. -/
def Tbl.mres (T : Tbl) (f : Nat → Nat → Int) (x : Int) (n : Nd) : Fr × Bool :=
  if T.mq f x n < T.A.n ∧ T.ab f x n (T.mq f x n) = 0 then (⟨T.A.f (T.mq f x n), 1⟩, Bool.true)
  else if T.mq f x n = 0 ∨ T.mq f x n = T.A.n then (⟨0, 0⟩, Bool.false)
  else (fr (T.A.f (T.mq f x n - 1) * (-T.ab f x n (T.mq f x n)) + T.A.f (T.mq f x n) * T.ab f x n (T.mq f x n - 1)) (T.ab f x n (T.mq f x n - 1) + (-T.ab f x n (T.mq f x n))), Bool.true)

set_option maxHeartbeats 4000000 in
theorem meet_w {h : H} {T : Tbl} {p : Pul} {m : Nat} {x : Int} {n : Nd} (hm : m ≤ h.next) (hT : T.Ok m h) (hp : p.Ok m h) (g : T.Good) (pn : p.M.n = T.P.n) (pw : ∀ i, i < T.P.n → p.M.w i = T.A.n) (pr : ∀ i k, i < T.P.n → k < T.A.n → 0 ≤ p.f i k ∧ p.f i k ≤ 100000) (ox : AE.Try.On T.P.f T.P.n x) (hn : n.Ok) :
    AW Try.prog 68 h.next h [.agg ⟨T.cells⟩, .slice p.M.b p.M.n p.M.c, .int .i64 x, .agg ⟨n.cells⟩] (fun v _ => v = .tuple #[.agg ⟨(T.mres p.f x n).1.cells⟩, .bool (T.mres p.f x n).2]) := by
  obtain ⟨kP, kA, kR⟩ := hT
  have kP0 := kP
  have kA0 := kA
  obtain ⟨e1, i1, r1, l1⟩ := kP
  obtain ⟨e2, i2, r2, l2⟩ := kA
  obtain ⟨f1, j1, s1, m1, se, sj, ss, sl, -⟩ := hp
  have gp := g.rp
  have g2 := g.p2
  have ga2 := g.a2
  have ga10 := g.a10
  obtain ⟨g4, g5⟩ := g.n6
  obtain ⟨ha1, ha2, ha3, ha4⟩ := nb_spec g.rp g.p2 ox
  have u1 := g.rp.up _ ha1
  have v1 := g.rp.rng _ ha1
  have v2 := g.rp.rng (nb T.P.f T.P.n x) (by omega)
  have rP : T.P.a.block < m := r1 (by omega)
  have rA : T.A.a.block < m := r2 (by omega)
  have rM : p.M.a.block < m := s1 (by omega)
  obtain ⟨n1, n2, n3, n4⟩ := hn
  generalize hab : T.ab p.f x n = ab
  have habv : ∀ k, ab k = _ := fun k => (congrFun hab k).symm
  unfold Tbl.ab at habv
  have pw0 := pw (nb T.P.f T.P.n x) (by omega)
  have pw1 := pw (nb T.P.f T.P.n x + 1) (by omega)
  have t0 := ss (nb T.P.f T.P.n x) (by omega) (by omega)
  have t1 := ss (nb T.P.f T.P.n x + 1) (by omega) (by omega)
  have q0 := se (nb T.P.f T.P.n x) (by omega)
  have q1 := se (nb T.P.f T.P.n x + 1) (by omega)
  refine fun68.call rfl (Nat.le_refl _) ?_
  unfold a68 Tbl.cells Nd.cells
  (focus ((try with_reducible apply wpC.to); (repeat' ((conv => whnf); first | refine byEv ?_ | ((apply Fork.mk) <;> (intro _; try (exfalso; omega; done))) | ((apply q_call); (focus exact byNext); (focus exact byLo); (focus (first | exact kChartP1 | exact kChartP0 | exact kChartI1 | exact kChartF0)); first | ((apply q_allB) <;> (intro z_b _ _ _; first | exact Bool.noConfusion z_b | replace z_b := of_decide_eq_true z_b | replace z_b := of_decide_eq_false z_b | skip) <;> (first | contradiction | (revert z_b; intros))) | ((apply q_alli) <;> (intro _ _ _ _; try contradiction)) | ((apply q_allv); intro _ _ _)) | fail)); all_goals (conv => whnf); all_goals (try with_reducible apply At.mk)))
  refine q_mkslice (a := T.A.n) (b := T.A.n) rfl rfl (Nat.le_refl _) (by omega) ?_
  rw [reps_icells]
  (focus ((try with_reducible apply wpC.to); (repeat' ((conv => whnf); first | refine byEv ?_ | ((apply Fork.mk) <;> (intro _; try (exfalso; omega; done))) | ((apply q_call); (focus exact byNext); (focus exact byLo); (focus (first | exact kChartP1 | exact kChartP0 | exact kChartI1 | exact kChartF0)); first | ((apply q_allB) <;> (intro z_b _ _ _; first | exact Bool.noConfusion z_b | replace z_b := of_decide_eq_true z_b | replace z_b := of_decide_eq_false z_b | skip) <;> (first | contradiction | (revert z_b; intros))) | ((apply q_alli) <;> (intro _ _ _ _; try contradiction)) | ((apply q_allv); intro _ _ _)) | fail)); all_goals (conv => whnf); all_goals (try with_reducible apply At.mk)))
  rename_i h2 q2 n2'
  have x1 : h2.get h.next = some (.cells [.slice T.P.b T.P.n T.P.c, .slice T.A.b T.A.n T.A.c, .slice T.R.b T.R.n T.R.c] 84) := by (exact byGet)
  have x2 : h2.get (h.next + 1) = some (.cells [.int .i64 n.b, .int .i64 n.s] 44) := by (exact byGet)
  have x3 : h2.get (h.next + 2) = some (.cells [.int .i64 0, .int .i64 0] 32) := by (exact byGet)
  have sm2 : Same m h h2 := by (exact bySame)
  have bnd : ∀ k, k < T.A.n → -5000000000 ≤ ab k ∧ ab k ≤ 5000000000 := fun k hk => by
    have b1 := pr (nb T.P.f T.P.n x) k (by omega) hk
    have b2 := pr (nb T.P.f T.P.n x + 1) k (by omega) hk
    have b3 := g.ra.rng k hk
    have c1 := mul_rng (a := T.P.f (nb T.P.f T.P.n x + 1) - x) (A := 2000) (by omega) (by omega) b1.1 b1.2
    have c2 := mul_rng (a := x - T.P.f (nb T.P.f T.P.n x)) (A := 2000) (by omega) (by omega) b2.1 b2.2
    have c3 := mul_rng (a := n.s) (A := 1000) (by omega) (by omega) b3.1 b3.2
    have c4 := mul_rng (a := T.P.f (nb T.P.f T.P.n x + 1) - x + (x - T.P.f (nb T.P.f T.P.n x))) (A := 2000) (b := n.b + n.s * T.A.f k) (B := 2100000) (by omega) (by omega) (by omega) (by omega)
    rw [habv]
    omega
  refine wp_loop (fun k : Nat => [(1, .slice p.M.b p.M.n p.M.c), (4, .pointer (some ⟨h.next, 0, none⟩)), (7, .pointer (some ⟨h.next + 1, 0, none⟩)), (8, .pointer (some ⟨h.next + 2, 0, none⟩)), (9, .bool false), (10, .int .i64 (nb T.P.f T.P.n x)), (12, .int .i64 (T.P.f (nb T.P.f T.P.n x + 1) - x)), (13, .int .i64 (x - T.P.f (nb T.P.f T.P.n x))), (14, .int .i64 (T.P.f (nb T.P.f T.P.n x + 1) - x + (x - T.P.f (nb T.P.f T.P.n x)))), (15, .slice (some ⟨h2.next + 27, 0, none⟩) T.A.n T.A.n), (58, .slice T.A.b T.A.n T.A.c), (59, .int .i64 T.A.n), (60, .int .i64 k)])
    (fun k h3 => h3.get h.next = some (.cells [.slice T.P.b T.P.n T.P.c, .slice T.A.b T.A.n T.A.c, .slice T.R.b T.R.n T.R.c] 84) ∧ h3.get (h.next + 1) = some (.cells [.int .i64 n.b, .int .i64 n.s] 44) ∧ h3.get (h.next + 2) = some (.cells [.int .i64 0, .int .i64 0] 32) ∧ h3.get (h2.next + 27) = some (.cells (iCells (upTo ab k) T.A.n) 2) ∧ Same m h h3 ∧ h2.next + 28 ≤ h3.next ∧ k ≤ T.A.n) (fun k => T.A.n - k) 0 ⟨rfl, rfl, rfl, rfl, rfl, rfl, rfl, rfl, rfl, rfl, rfl, rfl, rfl, trivial⟩ ⟨by (exact byGet), by (exact byGet), by (exact byGet), ?_, by (exact bySame), by (exact byOm), by omega⟩ ?_
  · rw [upTo_zero]; (exact byGet)
  · rintro k g' h3 ⟨y1, y2, y3, y4, sm3, n3', hk⟩ K hK
    have z1 := (sj (nb T.P.f T.P.n x) (by omega)).same sm3 (ss _ (by omega))
    have z2 := (sj (nb T.P.f T.P.n x + 1) (by omega)).same sm3 (ss _ (by omega))
    have z3 := j1.same sm3 s1
    have z4 := i2.same sm3 r2
    by_cases hkn : k < T.A.n
    · have b1 := pr (nb T.P.f T.P.n x) k (by omega) hkn
      have b2 := pr (nb T.P.f T.P.n x + 1) k (by omega) hkn
      have b3 := g.ra.rng k hkn
      have c1 := mul_rng (a := T.P.f (nb T.P.f T.P.n x + 1) - x) (A := 2000) (by omega) (by omega) b1.1 b1.2
      have c2 := mul_rng (a := x - T.P.f (nb T.P.f T.P.n x)) (A := 2000) (by omega) (by omega) b2.1 b2.2
      have c3 := mul_rng (a := n.s) (A := 1000) (by omega) (by omega) b3.1 b3.2
      have c4 := mul_rng (a := T.P.f (nb T.P.f T.P.n x + 1) - x + (x - T.P.f (nb T.P.f T.P.n x))) (A := 2000) (b := n.b + n.s * T.A.f k) (B := 2100000) (by omega) (by omega) (by omega) (by omega)
      (focus ((try with_reducible apply wpC.to); (repeat' ((conv => whnf); first | refine byEv ?_ | ((apply Fork.mk) <;> (intro _; try (exfalso; omega; done))) | ((apply q_call); (focus exact byNext); (focus exact byLo); (focus (first | exact kChartP1 | exact kChartP0 | exact kChartI1 | exact kChartF0)); first | ((apply q_allB) <;> (intro z_b _ _ _; first | exact Bool.noConfusion z_b | replace z_b := of_decide_eq_true z_b | replace z_b := of_decide_eq_false z_b | skip) <;> (first | contradiction | (revert z_b; intros))) | ((apply q_alli) <;> (intro _ _ _ _; try contradiction)) | ((apply q_allv); intro _ _ _)) | fail)); all_goals (conv => whnf); all_goals (try with_reducible apply At.mk)))
      rw [← habv]
      refine Sto.mk (r := h2.next + 27) (off := 0 + k * 1) (c' := iCells (upTo ab (k + 1)) T.A.n) rfl (by omega) (by (exact byGet)) rfl rfl (Nat.ble_eq_true_of_le (by rw [iCells_len]; show 0 + k * 1 + 1 ≤ _; omega)) (is_eq ?_) ?_
      · rw [iCells_set _ (ab k) hkn (by omega), upTo_next]
      (focus ((try with_reducible apply wpC.to); (repeat' ((conv => whnf); first | refine byEv ?_ | ((apply Fork.mk) <;> (intro _; try (exfalso; omega; done))) | ((apply q_call); (focus exact byNext); (focus exact byLo); (focus (first | exact kChartP1 | exact kChartP0 | exact kChartI1 | exact kChartF0)); first | ((apply q_allB) <;> (intro z_b _ _ _; first | exact Bool.noConfusion z_b | replace z_b := of_decide_eq_true z_b | replace z_b := of_decide_eq_false z_b | skip) <;> (first | contradiction | (revert z_b; intros))) | ((apply q_alli) <;> (intro _ _ _ _; try contradiction)) | ((apply q_allv); intro _ _ _)) | fail)); all_goals (conv => whnf); all_goals (try with_reducible apply At.mk)))
      refine hK (k + 1) _ _ ⟨rfl, rfl, rfl, rfl, rfl, rfl, rfl, rfl, rfl, rfl, rfl, rfl, int_of rfl (by omega), trivial⟩ ⟨by (exact byGet), by (exact byGet), by (exact byGet), by (exact byGet), by (exact bySame), by (exact byOm), by omega⟩ (by omega)
    · obtain rfl : k = T.A.n := by omega
      (focus ((try with_reducible apply wpC.to); (repeat' ((conv => whnf); first | refine byEv ?_ | ((apply Fork.mk) <;> (intro _; try (exfalso; omega; done))) | ((apply q_call); (focus exact byNext); (focus exact byLo); (focus (first | exact kChartP1 | exact kChartP0 | exact kChartI1 | exact kChartF0)); first | ((apply q_allB) <;> (intro z_b _ _ _; first | exact Bool.noConfusion z_b | replace z_b := of_decide_eq_true z_b | replace z_b := of_decide_eq_false z_b | skip) <;> (first | contradiction | (revert z_b; intros))) | ((apply q_alli) <;> (intro _ _ _ _; try contradiction)) | ((apply q_allv); intro _ _ _)) | fail)); all_goals (conv => whnf); all_goals (try with_reducible apply At.mk)))
      have y4' : h3.get (h2.next + 27) = some (.cells (iCells ab T.A.n) 2) := by
        rw [y4, iCells_congr (f := upTo ab T.A.n) (g := ab) fun i hi => by unfold upTo; rw [if_pos hi]]
      clear y4 hK K
      refine wp_loop (fun s : Nat => [(4, .pointer (some ⟨h.next, 0, none⟩)), (8, .pointer (some ⟨h.next + 2, 0, none⟩)), (9, .bool false), (15, .slice (some ⟨h2.next + 27, 0, none⟩) T.A.n T.A.n), (18, .int .i64 ((s : Int) - 1)), (99, .slice (some ⟨h2.next + 27, 0, none⟩) T.A.n T.A.n), (100, .int .i64 T.A.n), (101, .int .i64 s)])
        (fun s h4 => h4.get h.next = some (.cells [.slice T.P.b T.P.n T.P.c, .slice T.A.b T.A.n T.A.c, .slice T.R.b T.R.n T.R.c] 84) ∧ h4.get (h.next + 2) = some (.cells [.int .i64 0, .int .i64 0] 32) ∧ h4.get (h2.next + 27) = some (.cells (iCells ab T.A.n) 2) ∧ Same m h h4 ∧ h2.next + 28 ≤ h4.next ∧ s ≤ T.A.n ∧ ∀ j, j < s → 0 < ab j) (fun s => T.A.n - s) 0 ⟨rfl, rfl, rfl, rfl, int_of rfl (by omega), rfl, rfl, rfl, trivial⟩ ⟨by (exact byGet), by (exact byGet), by (exact byGet), by (exact bySame), by (exact byOm), by omega, fun j hj => by omega⟩ ?_
      rintro s g'' h4 ⟨y1, y3, y4, sm4, n4', hs, hpos⟩ K hK
      have z4 := i2.same sm4 r2
      have zi := iCells_ints y4
      have hgl : (⟨h2.next + 27, 0, none⟩ : Addr).block < h2.next + 28 := by show h2.next + 27 < _; omega
      by_cases hsn : s < T.A.n
      · have hb := bnd s hsn
        by_cases hp1 : 0 < ab s
        · (focus ((try with_reducible apply wpC.to); (repeat' ((conv => whnf); first | refine byEv ?_ | ((apply Fork.mk) <;> (intro _; try (exfalso; omega; done))) | ((apply q_call); (focus exact byNext); (focus exact byLo); (focus (first | exact kChartP1 | exact kChartP0 | exact kChartI1 | exact kChartF0)); first | ((apply q_allB) <;> (intro z_b _ _ _; first | exact Bool.noConfusion z_b | replace z_b := of_decide_eq_true z_b | replace z_b := of_decide_eq_false z_b | skip) <;> (first | contradiction | (revert z_b; intros))) | ((apply q_alli) <;> (intro _ _ _ _; try contradiction)) | ((apply q_allv); intro _ _ _)) | fail)); all_goals (conv => whnf); all_goals (try with_reducible apply At.mk)))
          refine hK (s + 1) _ _ ⟨rfl, rfl, rfl, rfl, int_of rfl (by omega), rfl, rfl, int_of rfl (by omega), trivial⟩ ⟨by (exact byGet), by (exact byGet), by (exact byGet), by (exact bySame), by (exact byOm), by omega, fun j hj => ?_⟩ (by omega)
          by_cases e : j = s
          · subst e; exact hp1
          · exact hpos j (by omega)
        · have hmq : T.mq p.f x n = s := by unfold Tbl.mq; rw [hab]; exact lead_eq (by omega) hpos (.inr (by omega))
          by_cases hz : ab s = 0
          · have hres : T.mres p.f x n = (⟨T.A.f s, 1⟩, Bool.true) := by unfold Tbl.mres; rw [hmq, hab, if_pos ⟨hsn, hz⟩]
            (focus ((try with_reducible apply wpC.to); (repeat' ((conv => whnf); first | refine byEv ?_ | ((apply Fork.mk) <;> (intro _; try (exfalso; omega; done))) | ((apply q_call); (focus exact byNext); (focus exact byLo); (focus (first | exact kChartP1 | exact kChartP0 | exact kChartI1 | exact kChartF0)); first | ((apply q_allB) <;> (intro z_b _ _ _; first | exact Bool.noConfusion z_b | replace z_b := of_decide_eq_true z_b | replace z_b := of_decide_eq_false z_b | skip) <;> (first | contradiction | (revert z_b; intros))) | ((apply q_alli) <;> (intro _ _ _ _; try contradiction)) | ((apply q_allv); intro _ _ _)) | fail)); all_goals (conv => whnf); all_goals (try with_reducible apply At.mk)))
            (refine byFin ?_)
            rw [hres]
            rfl
          · rcases Nat.eq_zero_or_pos s with h0 | h0
            · subst h0
              have hres : T.mres p.f x n = (⟨0, 0⟩, Bool.false) := by unfold Tbl.mres; rw [hmq, hab, if_neg (fun k => hz k.2), if_pos (.inl rfl)]
              (focus ((try with_reducible apply wpC.to); (repeat' ((conv => whnf); first | refine byEv ?_ | ((apply Fork.mk) <;> (intro _; try (exfalso; omega; done))) | ((apply q_call); (focus exact byNext); (focus exact byLo); (focus (first | exact kChartP1 | exact kChartP0 | exact kChartI1 | exact kChartF0)); first | ((apply q_allB) <;> (intro z_b _ _ _; first | exact Bool.noConfusion z_b | replace z_b := of_decide_eq_true z_b | replace z_b := of_decide_eq_false z_b | skip) <;> (first | contradiction | (revert z_b; intros))) | ((apply q_alli) <;> (intro _ _ _ _; try contradiction)) | ((apply q_allv); intro _ _ _)) | fail)); all_goals (conv => whnf); all_goals (try with_reducible apply At.mk)))
              (refine byFin ?_)
              rw [hres]
              rfl
            · obtain ⟨t, rfl⟩ : ∃ t, s = t + 1 := ⟨s - 1, by omega⟩
              have et : (((t + 1 : Nat) : Int) - 1) = (t : Int) := by omega
              rw [et]
              have hb0 := bnd t (by omega)
              have hp0 := hpos t (by omega)
              have d1 := g.ra.rng t (by omega)
              have d2 := g.ra.rng (t + 1) (by omega)
              have c1 := mul_rng (a := T.A.f t) (A := 2000) (b := -ab (t + 1)) (B := 5000000000) (by omega) (by omega) (by omega) (by omega)
              have c2 := mul_rng (a := T.A.f (t + 1)) (A := 2000) (b := ab t) (B := 5000000000) (by omega) (by omega) (by omega) (by omega)
              have hres : T.mres p.f x n = (fr (T.A.f t * (-ab (t + 1)) + T.A.f (t + 1) * ab t) (ab t + (-ab (t + 1))), Bool.true) := by
                unfold Tbl.mres
                rw [hmq, hab, if_neg (fun k => hz k.2), if_neg (by omega), show t + 1 - 1 = t by omega]
              (focus ((try with_reducible apply wpC.to); (repeat' ((conv => whnf); first | refine byEv ?_ | ((apply Fork.mk) <;> (intro _; try (exfalso; omega; done))) | ((apply q_call); (focus exact byNext); (focus exact byLo); (focus (first | exact kChartP1 | exact kChartP0 | exact kChartI1 | exact kChartF0)); first | ((apply q_allB) <;> (intro z_b _ _ _; first | exact Bool.noConfusion z_b | replace z_b := of_decide_eq_true z_b | replace z_b := of_decide_eq_false z_b | skip) <;> (first | contradiction | (revert z_b; intros))) | ((apply q_alli) <;> (intro _ _ _ _; try contradiction)) | ((apply q_allv); intro _ _ _)) | fail)); all_goals (conv => whnf); all_goals (try with_reducible apply At.mk)))
              (refine byFin ?_)
              rw [hres]
              rfl
      · obtain rfl : s = T.A.n := by omega
        have hmq : T.mq p.f x n = T.A.n := by unfold Tbl.mq; rw [hab]; exact lead_eq (Nat.le_refl _) hpos (.inl rfl)
        have hres : T.mres p.f x n = (⟨0, 0⟩, Bool.false) := by unfold Tbl.mres; rw [hmq, hab, if_neg (fun k => by omega), if_pos (.inr rfl)]
        (focus ((try with_reducible apply wpC.to); (repeat' ((conv => whnf); first | refine byEv ?_ | ((apply Fork.mk) <;> (intro _; try (exfalso; omega; done))) | ((apply q_call); (focus exact byNext); (focus exact byLo); (focus (first | exact kChartP1 | exact kChartP0 | exact kChartI1 | exact kChartF0)); first | ((apply q_allB) <;> (intro z_b _ _ _; first | exact Bool.noConfusion z_b | replace z_b := of_decide_eq_true z_b | replace z_b := of_decide_eq_false z_b | skip) <;> (first | contradiction | (revert z_b; intros))) | ((apply q_alli) <;> (intro _ _ _ _; try contradiction)) | ((apply q_allv); intro _ _ _)) | fail)); all_goals (conv => whnf); all_goals (try with_reducible apply At.mk)))
        (refine byFin ?_)
        rw [hres]
        rfl
end AE.Try
