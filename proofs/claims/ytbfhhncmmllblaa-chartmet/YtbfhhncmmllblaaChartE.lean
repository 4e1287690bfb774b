/- Walks of chart: CheckTrue; points on a chart. -/
import Derived.Test.YtbfhhncmmllblaaChartD
set_option linter.unusedVariables false
set_option linter.unusedSimpArgs false
set_option linter.unusedSectionVars false
namespace AE.Try
open Go AE Go.Proofs
set_option maxRecDepth 100000
set_option linter.unusedVariables false

/-- A valid chart. -/
structure Tbl.Good (T : Tbl) : Prop where
  p2 : 2 ≤ T.P.n
  p8 : T.P.n ≤ 8
  a2 : 2 ≤ T.A.n
  a10 : T.A.n ≤ 10
  n : T.R.n = T.P.n
  w : ∀ i, i < T.P.n → T.R.w i = T.A.n
  rp : Rising T.P.f T.P.n
  ra : Rising T.A.f T.A.n
  bd : ∀ i k, i < T.P.n → k < T.A.n → T.Bd i k
  fl : ∀ i k, i < T.P.n → k + 1 < T.A.n → T.Fl i k
theorem Tbl.good {T : Tbl} (h : T.err = 0) : T.Good := by
  unfold Tbl.err at h
  split at h
  · omega
  rename_i h1
  split at h
  · omega
  rename_i h2
  split at h
  · omega
  rename_i h3
  split at h
  · omega
  rename_i h4
  split at h
  · omega
  rename_i h5
  have h2 := Classical.not_not.1 h2
  have h3 := Classical.not_not.1 h3
  have h4 := Classical.not_not.1 h4
  have h5 := Classical.not_not.1 h5
  unfold Tbl.Many at h1
  refine ⟨by omega, by omega, by omega, by omega, h2.1, fun i hi => h2.2 i (by have := h2.1; omega), h3.1, h3.2, fun i k hi hk => ?_, fun i k hi hk => ?_⟩
  · have := h2.1
    exact h4 i (by omega) k (by rw [h2.2 i (by omega)]; omega)
  · have := h2.1
    exact h5 i (by omega) k (by rw [h2.2 i (by omega)]; omega)
theorem Tbl.Good.err {T : Tbl} (g : T.Good) : T.err = 0 := by
  unfold Tbl.err
  have := g.n
  rw [if_neg (by have := g.p2; have := g.p8; have := g.a2; have := g.a10; unfold Tbl.Many; omega), if_neg (fun k => k ⟨g.n, fun i hi => g.w i (by omega)⟩), if_neg (fun k => k ⟨g.rp, g.ra⟩), if_neg (fun k => k fun i hi j hj => g.bd i j (by omega) (by rw [g.w i (by omega)] at hj; exact hj)), if_neg (fun k => k fun i hi j hj => g.fl i j (by omega) (by rw [g.w i (by omega)] at hj; exact hj))]

theorem kChartE0 {G : Prop} (g : G := by ((apply AW.arg1; (focus (apply check_w; rotate_left; (focus (apply Tbl.Ok.same; (focus assumption); (focus exact bySame); (focus exact Nat.le_refl _))); (focus exact byOm))); (focus exact Is.rfl)))) : G := g

/-! ### CheckTrue -/

def Tbl.Off (T : Tbl) (p : Pul) (i k : Nat) : Prop := p.f i k < T.lo i k ∨ T.hi i k < p.f i k
open Classical in
/-- The error of pulls. -/
noncomputable def Tbl.terr (T : Tbl) (p : Pul) : Int :=
  if T.err ≠ 0 then T.err else if p.M.n ≠ T.R.n then 15 else if ∃ i, i < p.M.n ∧ p.M.w i ≠ T.R.w i then 15
  else if ∃ i, i < p.M.n ∧ ∃ k, k < p.M.w i ∧ T.Off p i k then 3 else 0

set_option maxHeartbeats 1000000 in
theorem true_w {h : H} {T : Tbl} {p : Pul} {m : Nat} (hm : m ≤ h.next) (hT : T.Ok m h) (hp : p.Ok m h) : AW Try.prog 21 h.next h [.agg ⟨T.cells⟩, .slice p.M.b p.M.n p.M.c] (fun v _ => v = .int .i64 (T.terr p)) := by
  have hT0 := hT
  obtain ⟨kP, kA, kR⟩ := hT
  obtain ⟨e1, i1, r1, l1, re, ri, rr, rl⟩ := kR
  obtain ⟨f1, j1, s1, m1, se, sj, ss, sl, -⟩ := hp
  refine fun21.call rfl (Nat.le_refl _) ?_
  unfold a21 Tbl.cells
  (focus ((try with_reducible apply wpC.to); (repeat' ((conv => whnf); first | refine byEv ?_ | ((apply Fork.mk) <;> (intro _; try (exfalso; omega; done))) | ((apply q_call); (focus exact byNext); (focus exact byLo); (focus (exact kChartE0)); first | ((apply q_allB) <;> (intro z_b _ _ _; first | exact Bool.noConfusion z_b | replace z_b := of_decide_eq_true z_b | replace z_b := of_decide_eq_false z_b | skip) <;> (first | contradiction | (revert z_b; intros))) | ((apply q_alli) <;> (intro _ _ _ _; try contradiction)) | ((apply q_allv); intro _ _ _)) | fail)); all_goals (conv => whnf); all_goals (try with_reducible apply At.mk)))
  · (refine byFin ?_)
    unfold Tbl.terr
    rw [if_pos (by omega)]
  · rename_i h2 q2 n2 he hne
    (refine byFin ?_)
    unfold Tbl.terr
    rw [if_neg (by omega), if_pos (by omega)]
  rename_i h2 q2 n2 he hne
  have g0 : h2.get h.next = some (.cells [.slice T.P.b T.P.n T.P.c, .slice T.A.b T.A.n T.A.c, .slice T.R.b T.R.n T.R.c] 25) := by (exact byGet)
  have s2 : Same m h h2 := by (exact bySame)
  classical
  refine wp_loop (fun s : Nat => [(2, .pointer (some ⟨h.next, 0, none⟩)), (6, .int .i64 (if ∃ i, i < s ∧ ∃ k, k < p.M.w i ∧ T.Off p i k then 3 else 0)), (23, .slice p.M.b p.M.n p.M.c), (24, .int .i64 p.M.n), (25, .int .i64 s)])
    (fun s h1 => Same m h h1 ∧ h1.get h.next = some (.cells [.slice T.P.b T.P.n T.P.c, .slice T.A.b T.A.n T.A.c, .slice T.R.b T.R.n T.R.c] 25) ∧ h2.next ≤ h1.next ∧ s ≤ p.M.n ∧ ∀ i, i < s → p.M.w i = T.R.w i) (fun s => p.M.n - s) 0 ⟨rfl, int_of rfl (by rw [if_neg]; rintro ⟨i, hi, -⟩; omega), rfl, rfl, rfl, trivial⟩ ⟨by (exact bySame), by (exact byGet), by (exact byOm), by omega, fun i hi => by omega⟩ ?_
  rintro s g h5 ⟨s5, g5, n5, hs, hw⟩ K hK
  by_cases hsn : s < p.M.n
  · have hsn' : s < T.R.n := by omega
    have x1 := s1 (by omega)
    have x2 := r1 (by omega)
    have j5 := j1.same s5 s1
    have i5 := i1.same s5 r1
    have y1 := ss s hsn
    have y2 := rr s hsn'
    have z1 := se s hsn
    have z2 := re s hsn'
    have l2 := sl s hsn
    have l3 := rl s hsn'
    (focus ((try with_reducible apply wpC.to); (repeat' ((conv => whnf); first | refine byEv ?_ | ((apply Fork.mk) <;> (intro _; try (exfalso; omega; done))) | ((apply q_call); (focus exact byNext); (focus exact byLo); (focus (exact kChartE0)); first | ((apply q_allB) <;> (intro z_b _ _ _; first | exact Bool.noConfusion z_b | replace z_b := of_decide_eq_true z_b | replace z_b := of_decide_eq_false z_b | skip) <;> (first | contradiction | (revert z_b; intros))) | ((apply q_alli) <;> (intro _ _ _ _; try contradiction)) | ((apply q_allv); intro _ _ _)) | fail)); all_goals (conv => whnf); all_goals (try with_reducible apply At.mk)))
    · (refine byFin ?_)
      unfold Tbl.terr
      rw [if_neg (by omega), if_neg (by omega), if_pos ⟨s, hsn, by omega⟩]
    · have hww : p.M.w s = T.R.w s := by omega
      refine wp_loop (fun k : Nat => [(2, .pointer (some ⟨h.next, 0, none⟩)), (6, .int .i64 (if (∃ i, i < s ∧ ∃ k, k < p.M.w i ∧ T.Off p i k) ∨ ∃ k', k' < k ∧ T.Off p s k' then 3 else 0)), (7, .int .i64 s), (23, .slice p.M.b p.M.n p.M.c), (24, .int .i64 p.M.n), (25, .int .i64 s), (39, .slice (p.M.rb s) (p.M.w s) (p.M.rc s)), (40, .int .i64 (p.M.w s)), (41, .int .i64 k)])
        (fun k h1 => Same m h h1 ∧ h1.get h.next = some (.cells [.slice T.P.b T.P.n T.P.c, .slice T.A.b T.A.n T.A.c, .slice T.R.b T.R.n T.R.c] 25) ∧ h5.next ≤ h1.next ∧ k ≤ p.M.w s) (fun k => p.M.w s - k) 0 ⟨rfl, int_of rfl ?_, rfl, rfl, rfl, rfl, rfl, rfl, rfl, trivial⟩ ⟨by (exact bySame), by (exact byGet), by (exact byOm), by omega⟩ ?_
      · have : ((∃ i, i < s ∧ ∃ k, k < p.M.w i ∧ T.Off p i k) ∨ ∃ k', k' < 0 ∧ T.Off p s k') ↔ (∃ i, i < s ∧ ∃ k, k < p.M.w i ∧ T.Off p i k) := ⟨fun h => h.elim id fun ⟨k', hk, _⟩ => by omega, .inl⟩
        simp only [this]
      rintro k g' h6 ⟨s6, g6, n6, hk⟩ K' hK'
      have w6 := (ri s hsn').same s6 (rr s hsn')
      have v6 := (sj s hsn).same s6 (ss s hsn)
      have i6 := i1.same s6 r1
      by_cases hkw : k < p.M.w s
      · have hkw' : k < T.R.w s := by omega
        have hel : (T.el s) k = [.int .i64 (T.lo s k), .int .i64 (T.hi s k)] := rfl
        generalize hd : (if (∃ i, i < s ∧ ∃ k, k < p.M.w i ∧ T.Off p i k) ∨ ∃ k', k' < k ∧ T.Off p s k' then (3 : Int) else 0) = d
        have goal : ∀ (ts' : Ts) (h8 : H) (d' : Int), (T.Off p s k → d' = 3) → (¬ T.Off p s k → d' = d) → Same m h h8 → h5.next ≤ h8.next → h8.get h.next = some (.cells [.slice T.P.b T.P.n T.P.c, .slice T.A.b T.A.n T.A.c, .slice T.R.b T.R.n T.R.c] 25) →
            Holds ts' [(2, .pointer (some ⟨h.next, 0, none⟩)), (6, .int .i64 d'), (7, .int .i64 s), (23, .slice p.M.b p.M.n p.M.c), (24, .int .i64 p.M.n), (25, .int .i64 s), (39, .slice (p.M.rb s) (p.M.w s) (p.M.rc s)), (40, .int .i64 (p.M.w s)), (41, .int .i64 (k + 1 : Nat))] → K' ts' h8 := by
          intro ts' h8 d' d1 d2 s8 n8 g8 hts
          refine hK' (k + 1) _ _ ?_ ⟨s8, g8, n8, by omega⟩ (by omega)
          have : (if (∃ i, i < s ∧ ∃ k, k < p.M.w i ∧ T.Off p i k) ∨ ∃ k', k' < k + 1 ∧ T.Off p s k' then (3 : Int) else 0) = d' := by
            by_cases ho : T.Off p s k
            · rw [d1 ho, if_pos (.inr ⟨k, by omega, ho⟩)]
            · rw [d2 ho, ← hd]
              have : ((∃ i, i < s ∧ ∃ k, k < p.M.w i ∧ T.Off p i k) ∨ ∃ k', k' < k + 1 ∧ T.Off p s k') ↔ ((∃ i, i < s ∧ ∃ k, k < p.M.w i ∧ T.Off p i k) ∨ ∃ k', k' < k ∧ T.Off p s k') := by
                refine or_congr Iff.rfl ⟨fun ⟨k', h1, h2⟩ => ⟨k', ?_, h2⟩, fun ⟨k', h1, h2⟩ => ⟨k', by omega, h2⟩⟩
                by_cases e : k' = k
                · subst e; exact absurd h2 ho
                · omega
              simp only [this]
          rw [this]
          exact hts
        clear hd
        unfold Tbl.Off at goal
        (focus ((try with_reducible apply wpC.to); (repeat' ((conv => whnf); first | refine byEv ?_ | ((apply Fork.mk) <;> (intro _; try (exfalso; omega; done))) | ((apply q_call); (focus exact byNext); (focus exact byLo); (focus (exact kChartE0)); first | ((apply q_allB) <;> (intro z_b _ _ _; first | exact Bool.noConfusion z_b | replace z_b := of_decide_eq_true z_b | replace z_b := of_decide_eq_false z_b | skip) <;> (first | contradiction | (revert z_b; intros))) | ((apply q_alli) <;> (intro _ _ _ _; try contradiction)) | ((apply q_allv); intro _ _ _)) | fail)); all_goals (conv => whnf); all_goals (try with_reducible apply At.mk)))
        · exact goal _ _ 3 (fun _ => rfl) (fun k => absurd (.inl (by omega)) k) (by (exact bySame)) (by (exact byOm)) (by (exact byGet)) ⟨rfl, rfl, rfl, rfl, rfl, rfl, rfl, rfl, int_of rfl (by omega), trivial⟩
        · exact goal _ _ 3 (fun _ => rfl) (fun k => absurd (.inr (by omega)) k) (by (exact bySame)) (by (exact byOm)) (by (exact byGet)) ⟨rfl, rfl, rfl, rfl, rfl, rfl, rfl, rfl, int_of rfl (by omega), trivial⟩
        · exact goal _ _ d (fun k => by omega) (fun _ => rfl) (by (exact bySame)) (by (exact byOm)) (by (exact byGet)) ⟨rfl, rfl, rfl, rfl, rfl, rfl, rfl, rfl, int_of rfl (by omega), trivial⟩
      · obtain rfl : k = p.M.w s := by omega
        (focus ((try with_reducible apply wpC.to); (repeat' ((conv => whnf); first | refine byEv ?_ | ((apply Fork.mk) <;> (intro _; try (exfalso; omega; done))) | ((apply q_call); (focus exact byNext); (focus exact byLo); (focus (exact kChartE0)); first | ((apply q_allB) <;> (intro z_b _ _ _; first | exact Bool.noConfusion z_b | replace z_b := of_decide_eq_true z_b | replace z_b := of_decide_eq_false z_b | skip) <;> (first | contradiction | (revert z_b; intros))) | ((apply q_alli) <;> (intro _ _ _ _; try contradiction)) | ((apply q_allv); intro _ _ _)) | fail)); all_goals (conv => whnf); all_goals (try with_reducible apply At.mk)))
        refine hK (s + 1) _ _ ⟨rfl, int_of rfl ?_, rfl, rfl, int_of rfl (by omega), trivial⟩ ⟨by (exact bySame), by (exact byGet), by (exact byOm), by omega, fun i hi => ?_⟩ (by omega)
        · have : (∃ i, i < s + 1 ∧ ∃ k, k < p.M.w i ∧ T.Off p i k) ↔ ((∃ i, i < s ∧ ∃ k, k < p.M.w i ∧ T.Off p i k) ∨ ∃ k', k' < p.M.w s ∧ T.Off p s k') := by
            constructor
            · rintro ⟨i, hi, k9, hk9⟩
              by_cases e : i = s
              · subst e; exact .inr ⟨k9, hk9⟩
              · exact .inl ⟨i, by omega, k9, hk9⟩
            · rintro (⟨i, hi, k, hk⟩ | ⟨k, hk⟩)
              · exact ⟨i, by omega, k, hk⟩
              · exact ⟨s, by omega, k, hk⟩
          simp only [this]
        · by_cases e : i = s
          · subst e; exact hww
          · exact hw i (by omega)
  · obtain rfl : s = p.M.n := by omega
    (focus ((try with_reducible apply wpC.to); (repeat' ((conv => whnf); first | refine byEv ?_ | ((apply Fork.mk) <;> (intro _; try (exfalso; omega; done))) | ((apply q_call); (focus exact byNext); (focus exact byLo); (focus (exact kChartE0)); first | ((apply q_allB) <;> (intro z_b _ _ _; first | exact Bool.noConfusion z_b | replace z_b := of_decide_eq_true z_b | replace z_b := of_decide_eq_false z_b | skip) <;> (first | contradiction | (revert z_b; intros))) | ((apply q_alli) <;> (intro _ _ _ _; try contradiction)) | ((apply q_allv); intro _ _ _)) | fail)); all_goals (conv => whnf); all_goals (try with_reducible apply At.mk)))
    (refine byFin ?_)
    refine congrArg (Value.int .i64) (Eq.symm ?_)
    have hn : p.M.n = T.R.n := by omega
    unfold Tbl.terr
    rw [if_neg (fun k => k he), if_neg (fun k => k hn), if_neg (fun ⟨i, hi, hx⟩ => hx (hw i hi))]
end AE.Try
