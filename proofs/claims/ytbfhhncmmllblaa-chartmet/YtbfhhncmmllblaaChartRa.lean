/- Walks of the definitions of charts: what is valid, and true. -/
import Derived.Test.YtbfhhncmmllblaaChartV
set_option linter.unusedVariables false
set_option linter.unusedSimpArgs false
set_option linter.unusedSectionVars false
namespace AE.Try
open Go AE Go.Proofs
set_option maxRecDepth 100000
set_option linter.unusedVariables false

theorem rising_r {h : H} {T : Arr} {m : Nat} (hm : m ≤ h.next) (hT : T.Ok m h) : AW Try.prog 62 h.next h [.slice T.b T.n T.c] (fun v _ => v = .bool (decide (Rising T.f T.n))) := by
  obtain ⟨e1, i1, r1, l1⟩ := hT
  refine fun62.call rfl (Nat.le_refl _) ?_
  unfold a62
  (focus ((try with_reducible apply wpC.to); (repeat' ((conv => whnf); first | refine byEv ?_ | ((apply Fork.mk) <;> (intro _; try (exfalso; omega; done))) | fail)); all_goals (conv => whnf); all_goals (try with_reducible apply At.mk)))
  refine wp_loop (fun s : Nat => [(0, .slice T.b T.n T.c), (3, .int .i64 s)]) (fun s h1 => Quiet h.next h h1 ∧ s ≤ T.n ∧ ∀ i, i < s → (0 ≤ T.f i ∧ T.f i ≤ 2000) ∧ (0 < i → T.f (i - 1) < T.f i)) (fun s => T.n - s) 0 ⟨rfl, rfl, trivial⟩ ⟨by (exact byQuiet), by omega, fun i hi => by omega⟩ ?_
  rintro s g h1 ⟨q, hs, hp⟩ K hK
  have hnx := q.next
  have bad : (¬ (0 ≤ T.f s ∧ T.f s ≤ 2000) ∨ (0 < s ∧ T.f s ≤ T.f (s - 1))) → s < T.n → ¬ Rising T.f T.n := fun h1 h2 k => by
    have := k.rng s h2
    rcases h1 with h1 | ⟨h1, h3⟩
    · exact h1 this
    · have := k.up (s - 1) (by omega)
      rw [show s - 1 + 1 = s by omega] at this
      omega
  have step : ∀ ts h', Holds ts [(0, .slice T.b T.n T.c), (3, .int .i64 ((s : Int) + 1))] → Quiet h.next h h' → s < T.n → (0 ≤ T.f s ∧ T.f s ≤ 2000) → (0 < s → T.f (s - 1) < T.f s) → K ts h' := fun ts h' ht hq h2 h3 h4 =>
    hK (s + 1) ts h' (by obtain ⟨a, b, c⟩ := ht; exact ⟨a, by rw [b]; exact int_of rfl (by omega), c⟩) ⟨hq, by omega, fun i hi => by
      by_cases e : i = s
      · subst e; exact ⟨h3, h4⟩
      · exact hp i (by omega)⟩ (by omega)
  (focus ((try with_reducible apply wpC.to); (repeat' ((conv => whnf); first | refine byEv ?_ | ((apply Fork.mk) <;> (intro _; try (exfalso; omega; done))) | fail)); all_goals (conv => whnf); all_goals (try with_reducible apply At.mk)))
  all_goals first
    | ((refine byFin ?_); exact bool_f rfl (bad (by omega) (by omega)))
    | (refine step _ _ ⟨rfl, rfl, trivial⟩ (by (exact byQuiet)) (by omega) (by omega) (by omega))
    | ((refine byFin ?_); exact bool_t rfl ⟨fun i hi => (hp i (by omega)).1, fun i hi => by have := (hp (i + 1) (by omega)).2 (by omega); rwa [show i + 1 - 1 = i by omega] at this⟩)
theorem on_r {h : H} {T : Arr} {m : Nat} {x : Int} (hm : m ≤ h.next) (hT : T.Ok m h) (hn : 0 < T.n) : AW Try.prog 70 h.next h [.slice T.b T.n T.c, .int .i64 x] (fun v _ => v = .bool (decide (On T.f T.n x))) := by
  obtain ⟨e1, i1, r1, l1⟩ := hT
  refine fun70.call rfl (Nat.le_refl _) ?_
  unfold a70
  (focus ((try with_reducible apply wpC.to); (repeat' ((conv => whnf); first | refine byEv ?_ | ((apply Fork.mk) <;> (intro _; try (exfalso; omega; done))) | fail)); all_goals (conv => whnf); all_goals (try with_reducible apply At.mk)))
  all_goals (unfold On; ((refine byFin ?_); first | exact bool_t rfl (by omega) | exact bool_f rfl (by omega)))
theorem before_r {h : H} {T : Arr} {m : Nat} {x : Int} (hm : m ≤ h.next) (hT : T.Ok m h) (hr : Rising T.f T.n) (hn : 2 ≤ T.n) (ho : On T.f T.n x) : AW Try.prog 78 h.next h [.slice T.b T.n T.c, .int .i64 x] (fun v _ => v = .int .i64 (nb T.f T.n x)) := by
  obtain ⟨e1, i1, r1, l1⟩ := hT
  obtain ⟨n1, n2, n3, n4⟩ := nb_spec hr hn ho
  refine fun78.call rfl (Nat.le_refl _) ?_
  unfold a78
  (focus ((try with_reducible apply wpC.to); (repeat' ((conv => whnf); first | refine byEv ?_ | ((apply Fork.mk) <;> (intro _; try (exfalso; omega; done))) | fail)); all_goals (conv => whnf); all_goals (try with_reducible apply At.mk)))
  refine wp_loop (fun s : Nat => [(0, .slice T.b T.n T.c), (1, .int .i64 x), (5, .int .i64 s)]) (fun s h1 => Quiet h.next h h1 ∧ s ≤ nb T.f T.n x) (fun s => T.n - s) 0 ⟨rfl, rfl, rfl, trivial⟩ ⟨by (exact byQuiet), by omega⟩ ?_
  rintro s g h1 ⟨q, hs⟩ K hK
  have hnx := q.next
  (focus ((try with_reducible apply wpC.to); (repeat' ((conv => whnf); first | refine byEv ?_ | ((apply Fork.mk) <;> (intro _; try (exfalso; omega; done))) | fail)); all_goals (conv => whnf); all_goals (try with_reducible apply At.mk)))
  · refine hK (s + 1) _ _ ⟨rfl, rfl, int_of rfl (by omega), trivial⟩ ⟨by (exact byQuiet), ?_⟩ (by omega)
    rcases Nat.lt_or_ge s (nb T.f T.n x) with k | k
    · omega
    · obtain rfl : s = nb T.f T.n x := by omega
      omega
  · (refine byFin ?_)
    have : s = nb T.f T.n x := by
      rcases Nat.lt_or_ge s (nb T.f T.n x) with k | k
      · have := n4 (by omega)
        have := hr.le (i := s + 1) (j := nb T.f T.n x) (by omega) (by omega)
        omega
      · omega
    rw [this]
theorem fraction_r {h : H} {n d : Int} (hn : -9223372036854775808 < n ∧ n < 9223372036854775808) (hd : 0 < d ∧ d < 9223372036854775808) : AW Try.prog 36 h.next h [.int .i64 n, .int .i64 d] (fun v _ => v = .agg ⟨(fr n d).cells⟩) := by
  refine fun36.call rfl (Nat.le_refl _) ?_
  unfold a36
  (focus ((try with_reducible apply wpC.to); (repeat' ((conv => whnf); first | refine byEv ?_ | ((apply Fork.mk) <;> (intro _; try (exfalso; omega; done))) | fail)); all_goals (conv => whnf); all_goals (try with_reducible apply At.mk)))
  refine wp_loop (fun s : Nat × Nat => [(0, .int .i64 n), (1, .int .i64 d), (4, .pointer (some ⟨h.next, 0, none⟩)), (5, .int .i64 s.1), (6, .int .i64 s.2)]) (fun s h1 => h1.get h.next = some (.cells [.int .i64 0, .int .i64 0] 32) ∧ Quiet h.next h h1 ∧ h.next + 1 ≤ h1.next ∧ Nat.gcd s.1 s.2 = Int.gcd n d ∧ s.1 < 9223372036854775808 ∧ s.2 < 9223372036854775808 ∧ (0 < s.1 ∨ 0 < s.2)) (fun s => s.2) (n.natAbs, d.toNat) ⟨rfl, rfl, rfl, int_of rfl (by dsimp only; omega), int_of rfl (by dsimp only; omega), trivial⟩ ⟨by (exact byGet), by (exact byQuiet), by (exact byOm), (gcd_abs n d (by omega)).symm, by dsimp only; omega, by dsimp only; omega, by dsimp only; omega⟩ ?_
  rintro ⟨a, b⟩ g h1 ⟨g1, q1, n1, hg, ha, hb, hab⟩ K hK
  dsimp only at hg ha hb hab ⊢
  (focus ((try with_reducible apply wpC.to); (repeat' ((conv => whnf); first | refine byEv ?_ | ((apply Fork.mk) <;> (intro _; try (exfalso; omega; done))) | fail)); all_goals (conv => whnf); all_goals (try with_reducible apply At.mk)))
  · refine hK (b, a % b) _ _ ⟨rfl, rfl, rfl, int_of rfl (by dsimp only), int_of rfl (by dsimp only; omega), trivial⟩ ⟨by (exact byGet), by (exact byQuiet), by (exact byOm), ?_, hb, ?_, ?_⟩ ?_
    · dsimp only
      rw [← hg, Nat.gcd_comm a b]
      exact (Nat.gcd_rec b a).symm ▸ (Nat.gcd_comm b (a % b))
    · dsimp only
      have := Nat.mod_lt a (show 0 < b by omega)
      omega
    · dsimp only; omega
    · dsimp only
      exact Nat.mod_lt a (show 0 < b by omega)
  · obtain rfl : b = 0 := by omega
    have hga : a = Int.gcd n d := by rw [← hg]; simp
    have ha0 : 0 < a := by omega
    (focus ((try with_reducible apply wpC.to); (repeat' ((conv => whnf); first | refine byEv ?_ | ((apply Fork.mk) <;> (intro _; try (exfalso; omega; done))) | fail)); all_goals (conv => whnf); all_goals (try with_reducible apply At.mk)))
    rw [hga]
    have hg0 : 0 < ((Int.gcd n d : Nat) : Int) := by omega
    refine DivQ.td ⟨by omega, by omega, by omega⟩ ?_
    rw [tdiv_gcd]
    (focus ((try with_reducible apply wpC.to); (repeat' ((conv => whnf); first | refine byEv ?_ | ((apply Fork.mk) <;> (intro _; try (exfalso; omega; done))) | fail)); all_goals (conv => whnf); all_goals (try with_reducible apply At.mk)))
    (refine byFin ?_)
    rfl

theorem kChartRa0 {G : Prop} (g : G := by ((apply rising_r; rotate_left; (focus (apply Arr.Ok.same; (focus assumption); (focus exact bySame); (focus exact Nat.le_refl _))); (focus exact byOm)))) : G := g

theorem el_lo {h : H} {T : Tbl} {i k : Nat} (e : Els h (T.R.ra i) (T.R.w i) 2 (T.el i)) (hk : k < T.R.w i) : h.loadN (aadd (aadd (T.R.ra i) (k * 2)) 0) 1 = some [.int .i64 (T.lo i k)] := load_part (e k hk) rfl
theorem el_hi {h : H} {T : Tbl} {i k : Nat} (e : Els h (T.R.ra i) (T.R.w i) 2 (T.el i)) (hk : k < T.R.w i) : h.loadN (aadd (aadd (T.R.ra i) (k * 2)) 1) 1 = some [.int .i64 (T.hi i k)] := load_part (e k hk) rfl

/-! ### CheckChart -/
def exBox (T : Tbl) : List Value := [.slice T.P.b T.P.n T.P.c, .slice T.A.b T.A.n T.A.c, .slice T.R.b T.R.n T.R.c]

theorem Tbl.err_bd {T : Tbl} (hM : ¬ T.Many) (hE : T.Eq) (hR : Rising T.P.f T.P.n ∧ Rising T.A.f T.A.n) {i k : Nat} (hi : i < T.R.n) (hk : k < T.R.w i) (hx : ¬ T.Bd i k) : T.err = 2 := by
  unfold Tbl.err
  rw [if_neg hM, if_neg (fun k => k hE), if_neg (fun k => k hR), if_pos (fun f => hx (f i hi k hk))]
theorem Tbl.err_fl {T : Tbl} (hM : ¬ T.Many) (hE : T.Eq) (hR : Rising T.P.f T.P.n ∧ Rising T.A.f T.A.n) (hB : ∀ i, i < T.R.n → ∀ k, k < T.R.w i → T.Bd i k) {i k : Nat} (hi : i < T.R.n) (hk : k + 1 < T.R.w i) (hx : ¬ T.Fl i k) : T.err = 16 := by
  unfold Tbl.err
  rw [if_neg hM, if_neg (fun k => k hE), if_neg (fun k => k hR), if_neg (fun k => k hB), if_pos (fun f => hx (f i hi k hk))]

set_option maxHeartbeats 2000000 in
theorem check_r {h : H} {T : Tbl} {m : Nat} (hm : m ≤ h.next) (hT : T.Ok m h) : AW Try.prog 20 h.next h [.agg ⟨T.cells⟩] (fun v _ => v = .int .i64 T.err) := by
  obtain ⟨kP, kA, kR⟩ := hT
  obtain ⟨e1, i1, r1, l1, re, ri, rr, rl⟩ := kR
  have lP := kP.l
  have lA := kA.l
  refine fun20.call rfl (Nat.le_refl _) ?_
  unfold a20 Tbl.cells
  (focus ((try with_reducible apply wpC.to); (repeat' ((conv => whnf); first | refine byEv ?_ | ((apply Fork.mk) <;> (intro _; try (exfalso; omega; done))) | ((apply q_call); (focus exact byNext); (focus exact byLo); (focus (exact kChartRa0)); first | ((apply q_allB) <;> (intro z_b _ _ _; first | exact Bool.noConfusion z_b | replace z_b := of_decide_eq_true z_b | replace z_b := of_decide_eq_false z_b | skip) <;> (first | contradiction | (revert z_b; intros))) | ((apply q_alli) <;> (intro _ _ _ _; try contradiction)) | ((apply q_allv); intro _ _ _)) | ((apply Load1.mk); (focus ((repeat (first | (apply el_lo <;> first | assumption | omega) | (apply el_hi <;> first | assumption | omega) | apply bump_old | ((apply put_old); focus (dsimp only [aadd]; omega)) | ((apply quiet_old); (focus assumption); focus (dsimp only [aadd]; omega)) | ((apply same_old); (focus assumption); focus (dsimp only [aadd]; omega)))); done)); (focus exact byVal)) | fail)); all_goals (conv => whnf); all_goals (try with_reducible apply At.mk)))
  iterate 4 (focus ((refine byFin ?_); unfold Tbl.err; rw [if_pos (by unfold Tbl.Many; omega)]))
  focus ((refine byFin ?_); unfold Tbl.err; rw [if_neg (by unfold Tbl.Many; omega), if_pos (by unfold Tbl.Eq; omega)])
  have hM : ¬ T.Many := by unfold Tbl.Many; omega
  have hn : T.R.n = T.P.n := by omega
  refine wp_loop (fun s : Nat => [(1, .pointer (some ⟨h.next, 0, none⟩)), (3, .int .i64 s)]) (fun s h1 => h1.get h.next = some (.cells (exBox T) 25) ∧ Same m h h1 ∧ h.next + 1 ≤ h1.next ∧ s ≤ T.R.n ∧ ∀ i, i < s → T.R.w i = T.A.n) (fun s => T.R.n - s) 0 ⟨rfl, rfl, trivial⟩ ⟨by (exact byGet), by (exact bySame), by (exact byOm), by omega, fun i hi => by omega⟩ ?_
  rintro s g h1 ⟨g1, sm, n1, hs, hp⟩ K hK
  have i5 := i1.same sm r1
  unfold exBox at g1
  by_cases hsn : s < T.R.n
  · (focus ((try with_reducible apply wpC.to); (repeat' ((conv => whnf); first | refine byEv ?_ | ((apply Fork.mk) <;> (intro _; try (exfalso; omega; done))) | ((apply q_call); (focus exact byNext); (focus exact byLo); (focus (exact kChartRa0)); first | ((apply q_allB) <;> (intro z_b _ _ _; first | exact Bool.noConfusion z_b | replace z_b := of_decide_eq_true z_b | replace z_b := of_decide_eq_false z_b | skip) <;> (first | contradiction | (revert z_b; intros))) | ((apply q_alli) <;> (intro _ _ _ _; try contradiction)) | ((apply q_allv); intro _ _ _)) | ((apply Load1.mk); (focus ((repeat (first | (apply el_lo <;> first | assumption | omega) | (apply el_hi <;> first | assumption | omega) | apply bump_old | ((apply put_old); focus (dsimp only [aadd]; omega)) | ((apply quiet_old); (focus assumption); focus (dsimp only [aadd]; omega)) | ((apply same_old); (focus assumption); focus (dsimp only [aadd]; omega)))); done)); (focus exact byVal)) | fail)); all_goals (conv => whnf); all_goals (try with_reducible apply At.mk)))
    · (refine byFin ?_)
      unfold Tbl.err
      rw [if_neg hM, if_pos (fun k => by have := k.2 s hsn; omega)]
    · refine hK (s + 1) _ _ ⟨rfl, int_of rfl (by omega), trivial⟩ ⟨by (exact byGet), by (exact bySame), by (exact byOm), by omega, fun i hi => ?_⟩ (by omega)
      by_cases e : i = s
      · subst e; omega
      · exact hp i (by omega)
  obtain rfl : s = T.R.n := by omega
  have hE : T.Eq := ⟨hn, hp⟩
  (focus ((try with_reducible apply wpC.to); (repeat' ((conv => whnf); first | refine byEv ?_ | ((apply Fork.mk) <;> (intro _; try (exfalso; omega; done))) | ((apply q_call); (focus exact byNext); (focus exact byLo); (focus (exact kChartRa0)); first | ((apply q_allB) <;> (intro z_b _ _ _; first | exact Bool.noConfusion z_b | replace z_b := of_decide_eq_true z_b | replace z_b := of_decide_eq_false z_b | skip) <;> (first | contradiction | (revert z_b; intros))) | ((apply q_alli) <;> (intro _ _ _ _; try contradiction)) | ((apply q_allv); intro _ _ _)) | ((apply Load1.mk); (focus ((repeat (first | (apply el_lo <;> first | assumption | omega) | (apply el_hi <;> first | assumption | omega) | apply bump_old | ((apply put_old); focus (dsimp only [aadd]; omega)) | ((apply quiet_old); (focus assumption); focus (dsimp only [aadd]; omega)) | ((apply same_old); (focus assumption); focus (dsimp only [aadd]; omega)))); done)); (focus exact byVal)) | fail)); all_goals (conv => whnf); all_goals (try with_reducible apply At.mk)))
  rotate_left
  focus ((refine byFin ?_); unfold Tbl.err; rw [if_neg hM, if_neg (fun k => k hE), if_pos (fun k => by have := k.2; contradiction)])
  focus ((refine byFin ?_); unfold Tbl.err; rw [if_neg hM, if_neg (fun k => k hE), if_pos (fun k => by have := k.1; contradiction)])
  have hR : Rising T.P.f T.P.n ∧ Rising T.A.f T.A.n := ⟨by assumption, by assumption⟩
  refine wp_loop (fun s : Nat => [(1, .pointer (some ⟨h.next, 0, none⟩)), (4, .int .i64 s)]) (fun s h1 => h1.get h.next = some (.cells (exBox T) 25) ∧ Same m h h1 ∧ h.next + 1 ≤ h1.next ∧ s ≤ T.R.n ∧ ∀ i, i < s → ∀ k, k < T.R.w i → T.Bd i k) (fun s => T.R.n - s) 0 ⟨rfl, rfl, trivial⟩ ⟨by (exact byGet), by (exact bySame), by (exact byOm), by omega, fun i hi => by omega⟩ ?_
  rintro s g h2 ⟨g2, sm2, n2, hs2, hp2⟩ K hK
  have i6 := i1.same sm2 r1
  unfold exBox at g2
  by_cases hsn : s < T.R.n
  · (focus ((try with_reducible apply wpC.to); (repeat' ((conv => whnf); first | refine byEv ?_ | ((apply Fork.mk) <;> (intro _; try (exfalso; omega; done))) | ((apply q_call); (focus exact byNext); (focus exact byLo); (focus (exact kChartRa0)); first | ((apply q_allB) <;> (intro z_b _ _ _; first | exact Bool.noConfusion z_b | replace z_b := of_decide_eq_true z_b | replace z_b := of_decide_eq_false z_b | skip) <;> (first | contradiction | (revert z_b; intros))) | ((apply q_alli) <;> (intro _ _ _ _; try contradiction)) | ((apply q_allv); intro _ _ _)) | ((apply Load1.mk); (focus ((repeat (first | (apply el_lo <;> first | assumption | omega) | (apply el_hi <;> first | assumption | omega) | apply bump_old | ((apply put_old); focus (dsimp only [aadd]; omega)) | ((apply quiet_old); (focus assumption); focus (dsimp only [aadd]; omega)) | ((apply same_old); (focus assumption); focus (dsimp only [aadd]; omega)))); done)); (focus exact byVal)) | fail)); all_goals (conv => whnf); all_goals (try with_reducible apply At.mk)))
    refine wp_loop (fun t : Nat => [(1, .pointer (some ⟨h.next, 0, none⟩)), (4, .int .i64 s), (5, .int .i64 t)]) (fun t h1 => h1.get h.next = some (.cells (exBox T) 25) ∧ Same m h h1 ∧ h.next + 1 ≤ h1.next ∧ t ≤ T.R.w s ∧ ∀ k, k < t → T.Bd s k) (fun t => T.R.w s - t) 0 ⟨rfl, rfl, rfl, trivial⟩ ⟨by (exact byGet), by (exact bySame), by (exact byOm), by omega, fun i hi => by omega⟩ ?_
    rintro t g' h3 ⟨g3, sm3, n3, ht, hp3⟩ K' hK'
    have i7 := i1.same sm3 r1
    unfold exBox at g3
    have re7 := re s hsn
    have ri7 := (ri s hsn).same sm3 (rr s hsn)
    have rl7 := rl s hsn
    by_cases htw : t < T.R.w s
    · have rr7 := rr s hsn (by omega)
      (focus ((try with_reducible apply wpC.to); (repeat' ((conv => whnf); first | refine byEv ?_ | ((apply Fork.mk) <;> (intro _; try (exfalso; omega; done))) | ((apply q_call); (focus exact byNext); (focus exact byLo); (focus (exact kChartRa0)); first | ((apply q_allB) <;> (intro z_b _ _ _; first | exact Bool.noConfusion z_b | replace z_b := of_decide_eq_true z_b | replace z_b := of_decide_eq_false z_b | skip) <;> (first | contradiction | (revert z_b; intros))) | ((apply q_alli) <;> (intro _ _ _ _; try contradiction)) | ((apply q_allv); intro _ _ _)) | ((apply Load1.mk); (focus ((repeat (first | (apply el_lo <;> first | assumption | omega) | (apply el_hi <;> first | assumption | omega) | apply bump_old | ((apply put_old); focus (dsimp only [aadd]; omega)) | ((apply quiet_old); (focus assumption); focus (dsimp only [aadd]; omega)) | ((apply same_old); (focus assumption); focus (dsimp only [aadd]; omega)))); done)); (focus exact byVal)) | fail)); all_goals (conv => whnf); all_goals (try with_reducible apply At.mk)))
      all_goals first
        | ((refine byFin ?_); exact congrArg (Value.int .i64) (Tbl.err_bd hM hE hR (i := s) (k := t) hsn htw (by unfold Tbl.Bd; omega)).symm)
        | skip
      refine hK' (t + 1) _ _ ⟨rfl, rfl, int_of rfl (by omega), trivial⟩ ⟨by (exact byGet), by (exact bySame), by (exact byOm), by omega, fun i hi => ?_⟩ (by omega)
      by_cases e : i = t
      · subst e; unfold Tbl.Bd; omega
      · exact hp3 i (by omega)
    · obtain rfl : t = T.R.w s := by omega
      (focus ((try with_reducible apply wpC.to); (repeat' ((conv => whnf); first | refine byEv ?_ | ((apply Fork.mk) <;> (intro _; try (exfalso; omega; done))) | ((apply q_call); (focus exact byNext); (focus exact byLo); (focus (exact kChartRa0)); first | ((apply q_allB) <;> (intro z_b _ _ _; first | exact Bool.noConfusion z_b | replace z_b := of_decide_eq_true z_b | replace z_b := of_decide_eq_false z_b | skip) <;> (first | contradiction | (revert z_b; intros))) | ((apply q_alli) <;> (intro _ _ _ _; try contradiction)) | ((apply q_allv); intro _ _ _)) | ((apply Load1.mk); (focus ((repeat (first | (apply el_lo <;> first | assumption | omega) | (apply el_hi <;> first | assumption | omega) | apply bump_old | ((apply put_old); focus (dsimp only [aadd]; omega)) | ((apply quiet_old); (focus assumption); focus (dsimp only [aadd]; omega)) | ((apply same_old); (focus assumption); focus (dsimp only [aadd]; omega)))); done)); (focus exact byVal)) | fail)); all_goals (conv => whnf); all_goals (try with_reducible apply At.mk)))
      refine hK (s + 1) _ _ ⟨rfl, int_of rfl (by omega), trivial⟩ ⟨by (exact byGet), by (exact bySame), by (exact byOm), by omega, fun i hi => ?_⟩ (by omega)
      by_cases e : i = s
      · subst e; exact hp3
      · exact hp2 i (by omega)
  obtain rfl : s = T.R.n := by omega
  have hB := hp2
  (focus ((try with_reducible apply wpC.to); (repeat' ((conv => whnf); first | refine byEv ?_ | ((apply Fork.mk) <;> (intro _; try (exfalso; omega; done))) | ((apply q_call); (focus exact byNext); (focus exact byLo); (focus (exact kChartRa0)); first | ((apply q_allB) <;> (intro z_b _ _ _; first | exact Bool.noConfusion z_b | replace z_b := of_decide_eq_true z_b | replace z_b := of_decide_eq_false z_b | skip) <;> (first | contradiction | (revert z_b; intros))) | ((apply q_alli) <;> (intro _ _ _ _; try contradiction)) | ((apply q_allv); intro _ _ _)) | ((apply Load1.mk); (focus ((repeat (first | (apply el_lo <;> first | assumption | omega) | (apply el_hi <;> first | assumption | omega) | apply bump_old | ((apply put_old); focus (dsimp only [aadd]; omega)) | ((apply quiet_old); (focus assumption); focus (dsimp only [aadd]; omega)) | ((apply same_old); (focus assumption); focus (dsimp only [aadd]; omega)))); done)); (focus exact byVal)) | fail)); all_goals (conv => whnf); all_goals (try with_reducible apply At.mk)))
  refine wp_loop (fun s : Nat => [(1, .pointer (some ⟨h.next, 0, none⟩)), (7, .int .i64 s)]) (fun s h1 => h1.get h.next = some (.cells (exBox T) 25) ∧ Same m h h1 ∧ h.next + 1 ≤ h1.next ∧ s ≤ T.R.n ∧ ∀ i, i < s → ∀ k, k + 1 < T.R.w i → T.Fl i k) (fun s => T.R.n - s) 0 ⟨rfl, rfl, trivial⟩ ⟨by (exact byGet), by (exact bySame), by (exact byOm), by omega, fun i hi => by omega⟩ ?_
  rintro s g h2 ⟨g2, sm2, n2, hs2, hp2⟩ K hK
  have i6 := i1.same sm2 r1
  unfold exBox at g2
  by_cases hsn : s < T.R.n
  · have hw1 : T.R.w s = T.A.n := hp s hsn
    (focus ((try with_reducible apply wpC.to); (repeat' ((conv => whnf); first | refine byEv ?_ | ((apply Fork.mk) <;> (intro _; try (exfalso; omega; done))) | ((apply q_call); (focus exact byNext); (focus exact byLo); (focus (exact kChartRa0)); first | ((apply q_allB) <;> (intro z_b _ _ _; first | exact Bool.noConfusion z_b | replace z_b := of_decide_eq_true z_b | replace z_b := of_decide_eq_false z_b | skip) <;> (first | contradiction | (revert z_b; intros))) | ((apply q_alli) <;> (intro _ _ _ _; try contradiction)) | ((apply q_allv); intro _ _ _)) | ((apply Load1.mk); (focus ((repeat (first | (apply el_lo <;> first | assumption | omega) | (apply el_hi <;> first | assumption | omega) | apply bump_old | ((apply put_old); focus (dsimp only [aadd]; omega)) | ((apply quiet_old); (focus assumption); focus (dsimp only [aadd]; omega)) | ((apply same_old); (focus assumption); focus (dsimp only [aadd]; omega)))); done)); (focus exact byVal)) | fail)); all_goals (conv => whnf); all_goals (try with_reducible apply At.mk)))
    refine wp_loop (fun t : Nat => [(1, .pointer (some ⟨h.next, 0, none⟩)), (7, .int .i64 s), (8, .int .i64 t)]) (fun t h1 => h1.get h.next = some (.cells (exBox T) 25) ∧ Same m h h1 ∧ h.next + 1 ≤ h1.next ∧ (1 ≤ t ∧ t ≤ T.R.w s) ∧ ∀ k, k + 1 < t → T.Fl s k) (fun t => T.R.w s - t) 1 ⟨rfl, rfl, rfl, trivial⟩ ⟨by (exact byGet), by (exact bySame), by (exact byOm), by omega, fun i hi => by omega⟩ ?_
    rintro t g' h3 ⟨g3, sm3, n3, ht, hp3⟩ K' hK'
    have i7 := i1.same sm3 r1
    unfold exBox at g3
    have re7 := re s hsn
    have ri7 := (ri s hsn).same sm3 (rr s hsn)
    have rl7 := rl s hsn
    by_cases htw : t < T.R.w s
    · have rr7 := rr s hsn (by omega)
      have et : t - 1 + 1 = t := by omega
      (focus ((try with_reducible apply wpC.to); (repeat' ((conv => whnf); first | refine byEv ?_ | ((apply Fork.mk) <;> (intro _; try (exfalso; omega; done))) | ((apply q_call); (focus exact byNext); (focus exact byLo); (focus (exact kChartRa0)); first | ((apply q_allB) <;> (intro z_b _ _ _; first | exact Bool.noConfusion z_b | replace z_b := of_decide_eq_true z_b | replace z_b := of_decide_eq_false z_b | skip) <;> (first | contradiction | (revert z_b; intros))) | ((apply q_alli) <;> (intro _ _ _ _; try contradiction)) | ((apply q_allv); intro _ _ _)) | ((apply Load1.mk); (focus ((repeat (first | (apply el_lo <;> first | assumption | omega) | (apply el_hi <;> first | assumption | omega) | apply bump_old | ((apply put_old); focus (dsimp only [aadd]; omega)) | ((apply quiet_old); (focus assumption); focus (dsimp only [aadd]; omega)) | ((apply same_old); (focus assumption); focus (dsimp only [aadd]; omega)))); done)); (focus exact byVal)) | fail)); all_goals (conv => whnf); all_goals (try with_reducible apply At.mk)))
      all_goals first
        | ((refine byFin ?_); exact congrArg (Value.int .i64) (Tbl.err_fl hM hE hR hB (i := s) (k := t - 1) hsn (by omega) (by unfold Tbl.Fl; rw [et]; omega)).symm)
        | skip
      refine hK' (t + 1) _ _ ⟨rfl, rfl, int_of rfl (by omega), trivial⟩ ⟨by (exact byGet), by (exact bySame), by (exact byOm), by omega, fun i hi => ?_⟩ (by omega)
      by_cases e : i = t - 1
      · subst e; unfold Tbl.Fl; rw [et]; omega
      · exact hp3 i (by omega)
    · obtain rfl : t = T.R.w s := by omega
      (focus ((try with_reducible apply wpC.to); (repeat' ((conv => whnf); first | refine byEv ?_ | ((apply Fork.mk) <;> (intro _; try (exfalso; omega; done))) | ((apply q_call); (focus exact byNext); (focus exact byLo); (focus (exact kChartRa0)); first | ((apply q_allB) <;> (intro z_b _ _ _; first | exact Bool.noConfusion z_b | replace z_b := of_decide_eq_true z_b | replace z_b := of_decide_eq_false z_b | skip) <;> (first | contradiction | (revert z_b; intros))) | ((apply q_alli) <;> (intro _ _ _ _; try contradiction)) | ((apply q_allv); intro _ _ _)) | ((apply Load1.mk); (focus ((repeat (first | (apply el_lo <;> first | assumption | omega) | (apply el_hi <;> first | assumption | omega) | apply bump_old | ((apply put_old); focus (dsimp only [aadd]; omega)) | ((apply quiet_old); (focus assumption); focus (dsimp only [aadd]; omega)) | ((apply same_old); (focus assumption); focus (dsimp only [aadd]; omega)))); done)); (focus exact byVal)) | fail)); all_goals (conv => whnf); all_goals (try with_reducible apply At.mk)))
      refine hK (s + 1) _ _ ⟨rfl, int_of rfl (by omega), trivial⟩ ⟨by (exact byGet), by (exact bySame), by (exact byOm), by omega, fun i hi => ?_⟩ (by omega)
      by_cases e : i = s
      · subst e; exact hp3
      · exact hp2 i (by omega)
  obtain rfl : s = T.R.n := by omega
  (focus ((try with_reducible apply wpC.to); (repeat' ((conv => whnf); first | refine byEv ?_ | ((apply Fork.mk) <;> (intro _; try (exfalso; omega; done))) | ((apply q_call); (focus exact byNext); (focus exact byLo); (focus (exact kChartRa0)); first | ((apply q_allB) <;> (intro z_b _ _ _; first | exact Bool.noConfusion z_b | replace z_b := of_decide_eq_true z_b | replace z_b := of_decide_eq_false z_b | skip) <;> (first | contradiction | (revert z_b; intros))) | ((apply q_alli) <;> (intro _ _ _ _; try contradiction)) | ((apply q_allv); intro _ _ _)) | ((apply Load1.mk); (focus ((repeat (first | (apply el_lo <;> first | assumption | omega) | (apply el_hi <;> first | assumption | omega) | apply bump_old | ((apply put_old); focus (dsimp only [aadd]; omega)) | ((apply quiet_old); (focus assumption); focus (dsimp only [aadd]; omega)) | ((apply same_old); (focus assumption); focus (dsimp only [aadd]; omega)))); done)); (focus exact byVal)) | fail)); all_goals (conv => whnf); all_goals (try with_reducible apply At.mk)))
  (refine byFin ?_)
  unfold Tbl.err
  rw [if_neg hM, if_neg (fun k => k hE), if_neg (fun k => k hR), if_neg (fun k => k hB), if_neg (fun k => k hp2)]
end AE.Try
