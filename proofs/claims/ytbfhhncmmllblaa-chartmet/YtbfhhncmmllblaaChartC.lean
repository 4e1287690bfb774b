/- Walks of chart: CheckChart. -/
import Derived.Test.YtbfhhncmmllblaaChartB
set_option linter.unusedVariables false
set_option linter.unusedSimpArgs false
set_option linter.unusedSectionVars false
namespace AE.Try
open Go AE Go.Proofs
set_option maxRecDepth 100000
set_option linter.unusedVariables false

def Tbl.Many (T : Tbl) : Prop := T.P.n < 2 ∨ 8 < T.P.n ∨ T.A.n < 2 ∨ 10 < T.A.n
def Tbl.Eq (T : Tbl) : Prop := T.R.n = T.P.n ∧ ∀ i, i < T.R.n → T.R.w i = T.A.n
def Tbl.Bd (T : Tbl) (i k : Nat) : Prop := 0 ≤ T.lo i k ∧ T.lo i k ≤ T.hi i k ∧ T.hi i k ≤ 100000
def Tbl.Fl (T : Tbl) (i k : Nat) : Prop := T.lo i (k + 1) ≤ T.lo i k ∧ T.hi i (k + 1) ≤ T.hi i k
open Classical in
/-- The error of a chart. -/
noncomputable def Tbl.err (T : Tbl) : Int :=
  if T.Many then 6 else if ¬ T.Eq then 15 else if ¬ (Rising T.P.f T.P.n ∧ Rising T.A.f T.A.n) then 2
  else if ¬ (∀ i, i < T.R.n → ∀ k, k < T.R.w i → T.Bd i k) then 2
  else if ¬ (∀ i, i < T.R.n → ∀ k, k + 1 < T.R.w i → T.Fl i k) then 16 else 0

theorem lenNe_w {h : H} {r n c c1 n1 : Nat} {b b1 : Option Addr} {x y : Value} {e : TypeId} (hg : h.get r = some (.cells [x, .slice b1 n1 c1, y] e)) : AW Try.prog 59 h.next h [.slice b n c, .pointer (some ⟨r, 0, none⟩)] (fun v _ => v = .bool (decide (n ≠ n1))) := by
  refine fun59.call rfl (Nat.le_refl _) ?_
  unfold a59
  (focus ((try with_reducible apply wpC.to); (repeat' ((conv => whnf); first | refine byEv ?_ | ((apply Fork.mk) <;> (intro _; try (exfalso; omega; done))) | fail)); all_goals (conv => whnf); all_goals (try with_reducible apply At.mk)))
  all_goals ((refine byFin ?_); first | exact bool_t rfl (by omega) | exact bool_f rfl (by omega))

theorem w64_small {x : Int} (h : -9223372036854775808 ≤ x ∧ x < 9223372036854775808) : w64 x = x := w64_id h

theorem kChartC0 {G : Prop} (g : G := by ((apply rising_w; rotate_left; (focus (apply Arr.Ok.same; (focus assumption); (focus exact bySame); (focus exact Nat.le_refl _))); (focus exact byOm)))) : G := g

set_option maxHeartbeats 1000000 in
theorem check_w {h : H} {T : Tbl} {m : Nat} (hm : m ≤ h.next) (hT : T.Ok m h) : AW Try.prog 19 h.next h [.agg ⟨T.cells⟩] (fun v _ => v = .int .i64 T.err) := by
  obtain ⟨kP, kA, kR⟩ := hT
  have kR0 := kR
  obtain ⟨e1, i1, r1, l1, re, ri, rr, rl⟩ := kR
  have lP := kP.l
  have lA := kA.l
  refine fun19.call rfl (Nat.le_refl _) ?_
  unfold a19 Tbl.cells
  (focus ((try with_reducible apply wpC.to); (repeat' ((conv => whnf); first | refine byEv ?_ | ((apply Fork.mk) <;> (intro _; try (exfalso; omega; done))) | ((apply q_call); (focus exact byNext); (focus exact byLo); (focus (exact kChartC0)); first | ((apply q_allB) <;> (intro z_b _ _ _; first | exact Bool.noConfusion z_b | replace z_b := of_decide_eq_true z_b | replace z_b := of_decide_eq_false z_b | skip) <;> (first | contradiction | (revert z_b; intros))) | ((apply q_alli) <;> (intro _ _ _ _; try contradiction)) | ((apply q_allv); intro _ _ _)) | fail)); all_goals (conv => whnf); all_goals (try with_reducible apply At.mk)))
  focus ((refine byFin ?_); unfold Tbl.err; rw [if_pos (by unfold Tbl.Many; omega)])
  focus ((refine byFin ?_); unfold Tbl.err; rw [if_pos (by unfold Tbl.Many; omega)])
  focus ((refine byFin ?_); unfold Tbl.err; rw [if_pos (by unfold Tbl.Many; omega)])
  focus ((refine byFin ?_); unfold Tbl.err; rw [if_pos (by unfold Tbl.Many; omega)])
  focus ((refine byFin ?_); unfold Tbl.err; rw [if_neg (by unfold Tbl.Many; omega), if_pos (by unfold Tbl.Eq; omega)])
  apply q_callB
  focus (exact byNext)
  focus (exact byLo)
  focus
    refine anyRows_w (m := m) (p := fun i => decide (T.R.w i ≠ T.A.n)) (by (exact byOm)) (kR0.same (by (exact bySame)) (Nat.le_refl _)) fun i k1 hi q => ?_
    exact acall_of (lenNe_w (e := 25) (r := h.next) ((q.same _ (by (exact byOm))).trans (by (exact byGet)))) rfl
  · intro hb h2 q hn
    obtain ⟨i, hi, h3⟩ := of_decide_eq_true hb
    have h3 := of_decide_eq_true h3
    (focus ((try with_reducible apply wpC.to); (repeat' ((conv => whnf); first | refine byEv ?_ | ((apply Fork.mk) <;> (intro _; try (exfalso; omega; done))) | ((apply q_call); (focus exact byNext); (focus exact byLo); (focus (exact kChartC0)); first | ((apply q_allB) <;> (intro z_b _ _ _; first | exact Bool.noConfusion z_b | replace z_b := of_decide_eq_true z_b | replace z_b := of_decide_eq_false z_b | skip) <;> (first | contradiction | (revert z_b; intros))) | ((apply q_alli) <;> (intro _ _ _ _; try contradiction)) | ((apply q_allv); intro _ _ _)) | fail)); all_goals (conv => whnf); all_goals (try with_reducible apply At.mk)))
    (refine byFin ?_)
    unfold Tbl.err; rw [if_neg (by unfold Tbl.Many; omega), if_pos (fun k => h3 (k.2 i hi))]
  intro hb h2 q hn
  have hEq : T.Eq := ⟨by omega, fun i hi => by
    have := of_decide_eq_false hb
    by_cases hx : T.R.w i = T.A.n
    · exact hx
    · exact absurd ⟨i, hi, decide_eq_true hx⟩ this⟩
  have hMany : ¬ T.Many := by unfold Tbl.Many; omega
  clear hb
  (focus ((try with_reducible apply wpC.to); (repeat' ((conv => whnf); first | refine byEv ?_ | ((apply Fork.mk) <;> (intro _; try (exfalso; omega; done))) | ((apply q_call); (focus exact byNext); (focus exact byLo); (focus (exact kChartC0)); first | ((apply q_allB) <;> (intro z_b _ _ _; first | exact Bool.noConfusion z_b | replace z_b := of_decide_eq_true z_b | replace z_b := of_decide_eq_false z_b | skip) <;> (first | contradiction | (revert z_b; intros))) | ((apply q_alli) <;> (intro _ _ _ _; try contradiction)) | ((apply q_allv); intro _ _ _)) | fail)); all_goals (conv => whnf); all_goals (try with_reducible apply At.mk)))
  rotate_left
  · (refine byFin ?_)
    unfold Tbl.err; rw [if_neg hMany, if_neg (fun k => k hEq), if_pos (fun k => by first | exact absurd k.1 (by assumption) | exact absurd k.2 (by assumption))]
  · (refine byFin ?_)
    unfold Tbl.err; rw [if_neg hMany, if_neg (fun k => k hEq), if_pos (fun k => by first | exact absurd k.1 (by assumption) | exact absurd k.2 (by assumption))]
  rename_i h3 q3 n3 hRP h4 q4 n4 hRA
  have hRis : ¬ ¬ (Rising T.P.f T.P.n ∧ Rising T.A.f T.A.n) := fun k => k ⟨hRP, hRA⟩
  have hnn : ¬ ¬ T.Eq := fun k => k hEq
  have g0 : h4.get h.next = some (.cells [.slice T.P.b T.P.n T.P.c, .slice T.A.b T.A.n T.A.c, .slice T.R.b T.R.n T.R.c] 25) := by (exact byGet)
  have s4 : Same m h h4 := by (exact bySame)
  have n4' : h.next + 39 ≤ h4.next := by (exact byOm)
  classical
  refine wp_loop (fun s : Nat => [(1, .pointer (some ⟨h.next, 0, none⟩)), (3, .bool (decide (∀ i, i < s → ∀ k, k + 1 < T.R.w i → T.Fl i k))), (58, .slice T.R.b T.R.n T.R.c), (59, .int .i64 T.R.n), (60, .int .i64 s)])
    (fun s h1 => Same m h h1 ∧ h4.next ≤ h1.next ∧ s ≤ T.R.n ∧ ∀ i, i < s → ∀ k, k < T.R.w i → T.Bd i k) (fun s => T.R.n - s) 0 ⟨rfl, ?_, rfl, rfl, rfl, trivial⟩ ⟨by (exact bySame), by (exact byOm), by omega, fun i hi => by omega⟩ ?_
  · exact bool_t rfl (fun i hi => by omega)
  rintro s g h5 ⟨s5, n5, hs, hbd⟩ K hK
  by_cases hsn : s < T.R.n
  · have r5 := r1 (by omega)
    have i5 := i1.same s5 r1
    (focus ((try with_reducible apply wpC.to); (repeat' ((conv => whnf); first | refine byEv ?_ | ((apply Fork.mk) <;> (intro _; try (exfalso; omega; done))) | ((apply q_call); (focus exact byNext); (focus exact byLo); (focus (exact kChartC0)); first | ((apply q_allB) <;> (intro z_b _ _ _; first | exact Bool.noConfusion z_b | replace z_b := of_decide_eq_true z_b | replace z_b := of_decide_eq_false z_b | skip) <;> (first | contradiction | (revert z_b; intros))) | ((apply q_alli) <;> (intro _ _ _ _; try contradiction)) | ((apply q_allv); intro _ _ _)) | fail)); all_goals (conv => whnf); all_goals (try with_reducible apply At.mk)))
    have w5 := (ri s hsn).same s5 (rr s hsn)
    have rw5 := rr s hsn
    have ew5 := re s hsn
    have lw5 := rl s hsn
    refine wp_loop (fun k : Nat => [(1, .pointer (some ⟨h.next, 0, none⟩)), (3, .bool (decide ((∀ i, i < s → ∀ k, k + 1 < T.R.w i → T.Fl i k) ∧ ∀ k', k' + 1 < k → T.Fl s k'))), (6, .pointer (some ⟨h5.next + 5, 0, none⟩)), (58, .slice T.R.b T.R.n T.R.c), (59, .int .i64 T.R.n), (60, .int .i64 s), (65, .slice (T.R.rb s) (T.R.w s) (T.R.rc s)), (66, .int .i64 (T.R.w s)), (67, .int .i64 k)])
      (fun k h6 => Same m h h6 ∧ h5.next + 7 ≤ h6.next ∧ (∃ x y, h6.get (h5.next + 5) = some (.cells [.int .i64 x, .int .i64 y] 65) ∧ (k = 0 → x = 100000 ∧ y = 100000) ∧ (0 < k → x = T.lo s (k - 1) ∧ y = T.hi s (k - 1))) ∧ k ≤ T.R.w s ∧ ∀ k', k' < k → T.Bd s k') (fun k => T.R.w s - k) 0 ⟨rfl, ?_, rfl, rfl, rfl, rfl, rfl, rfl, rfl, trivial⟩ ⟨by (exact bySame), by (exact byOm), ⟨100000, 100000, by (exact byGet), fun _ => ⟨rfl, rfl⟩, fun h => by omega⟩, by omega, fun k hk => by omega⟩ ?_
    · exact congrArg Value.bool (decide_eq_decide.2 ⟨fun k => ⟨k, fun k' h => by omega⟩, fun k => k.1⟩)
    rintro k g' h6 ⟨s6, n6, ⟨x, y, gl, gl0, gl1⟩, hkw, hbk⟩ K' hK'
    have w6 := (ri s hsn).same s6 (rr s hsn)
    by_cases hk : k < T.R.w s
    · have hel : (T.el s) k = [.int .i64 (T.lo s k), .int .i64 (T.hi s k)] := rfl
      (focus ((try with_reducible apply wpC.to); (repeat' ((conv => whnf); first | refine byEv ?_ | ((apply Fork.mk) <;> (intro _; try (exfalso; omega; done))) | ((apply q_call); (focus exact byNext); (focus exact byLo); (focus (exact kChartC0)); first | ((apply q_allB) <;> (intro z_b _ _ _; first | exact Bool.noConfusion z_b | replace z_b := of_decide_eq_true z_b | replace z_b := of_decide_eq_false z_b | skip) <;> (first | contradiction | (revert z_b; intros))) | ((apply q_alli) <;> (intro _ _ _ _; try contradiction)) | ((apply q_allv); intro _ _ _)) | fail)); all_goals (conv => whnf); all_goals (try with_reducible apply At.mk)))
      apply ArQ.wr
      have hz : (0 ≤ T.lo s k ∧ T.lo s k ≤ 100000) ∧ (0 ≤ T.hi s k ∧ T.hi s k ≤ 100000) → w64 (T.hi s k - T.lo s k) = T.hi s k - T.lo s k := fun ⟨a, b⟩ => w64_small (by omega)
      generalize w64 (T.hi s k - T.lo s k) = z at hz
      (focus ((try with_reducible apply wpC.to); (repeat' ((conv => whnf); first | refine byEv ?_ | ((apply Fork.mk) <;> (intro _; try (exfalso; omega; done))) | ((apply q_call); (focus exact byNext); (focus exact byLo); (focus (exact kChartC0)); first | ((apply q_allB) <;> (intro z_b _ _ _; first | exact Bool.noConfusion z_b | replace z_b := of_decide_eq_true z_b | replace z_b := of_decide_eq_false z_b | skip) <;> (first | contradiction | (revert z_b; intros))) | ((apply q_alli) <;> (intro _ _ _ _; try contradiction)) | ((apply q_allv); intro _ _ _)) | fail)); all_goals (conv => whnf); all_goals (try with_reducible apply At.mk)))
      apply q_callB
      focus (exact byNext)
      focus (exact byLo)
      focus exact within3_w (e := 2) (by (exact byGet)) (by (exact byOm))
      rotate_left
      · intro hb h7 q7 n7
        have hb := of_decide_eq_false hb
        (focus ((try with_reducible apply wpC.to); (repeat' ((conv => whnf); first | refine byEv ?_ | ((apply Fork.mk) <;> (intro _; try (exfalso; omega; done))) | ((apply q_call); (focus exact byNext); (focus exact byLo); (focus (exact kChartC0)); first | ((apply q_allB) <;> (intro z_b _ _ _; first | exact Bool.noConfusion z_b | replace z_b := of_decide_eq_true z_b | replace z_b := of_decide_eq_false z_b | skip) <;> (first | contradiction | (revert z_b; intros))) | ((apply q_alli) <;> (intro _ _ _ _; try contradiction)) | ((apply q_allv); intro _ _ _)) | fail)); all_goals (conv => whnf); all_goals (try with_reducible apply At.mk)))
        (refine byFin ?_)
        unfold Tbl.err; rw [if_neg hMany, if_neg hnn, if_neg hRis, if_pos (fun kk => hb ?_)]
        have := kk s hsn k hk
        unfold Tbl.Bd at this
        rw [hz (by omega)]
        omega
      · intro hb h7 q7 n7
        have hb := of_decide_eq_true hb
        rw [hz ⟨hb.1, hb.2.1⟩] at hb
        have hB : T.Bd s k := by unfold Tbl.Bd; omega
        generalize hd : decide ((∀ i, i < s → ∀ k, k + 1 < T.R.w i → T.Fl i k) ∧ ∀ k', k' + 1 < k → T.Fl s k') = d
        have goal : ∀ (ts' : Ts) (h8 : H) (d' : Bool), (d' = true ↔ (d = true ∧ (0 < k → T.lo s k ≤ T.lo s (k - 1) ∧ T.hi s k ≤ T.hi s (k - 1)))) → Same m h h8 → h5.next + 7 ≤ h8.next → h8.get (h5.next + 5) = some (.cells [.int .i64 (T.lo s k), .int .i64 (T.hi s k)] 65) →
            Holds ts' [(1, .pointer (some ⟨h.next, 0, none⟩)), (3, .bool d'), (6, .pointer (some ⟨h5.next + 5, 0, none⟩)), (58, .slice T.R.b T.R.n T.R.c), (59, .int .i64 T.R.n), (60, .int .i64 s), (65, .slice (T.R.rb s) (T.R.w s) (T.R.rc s)), (66, .int .i64 (T.R.w s)), (67, .int .i64 (k + 1 : Nat))] → K' ts' h8 := by
          intro ts' h8 d' hdd s8 n8 g8 hts
          refine hK' (k + 1) _ _ ?_ ⟨s8, n8, ⟨_, _, g8, fun h => by omega, fun _ => ⟨rfl, rfl⟩⟩, by omega, fun k' hk' => ?_⟩ (by omega)
          · have : decide ((∀ i, i < s → ∀ k, k + 1 < T.R.w i → T.Fl i k) ∧ ∀ k', k' + 1 < k + 1 → T.Fl s k') = d' := by
              rw [Bool.eq_iff_iff, decide_eq_true_iff, hdd, ← hd, decide_eq_true_iff]
              constructor
              · rintro ⟨a, b⟩
                refine ⟨⟨a, fun k' hk' => b k' (by omega)⟩, fun h0 => ?_⟩
                have := b (k - 1) (by omega)
                unfold Tbl.Fl at this
                rwa [show k - 1 + 1 = k by omega] at this
              · rintro ⟨⟨a, b⟩, c⟩
                refine ⟨a, fun k' hk' => ?_⟩
                by_cases e : k' + 1 = k
                · unfold Tbl.Fl
                  have := c (by omega)
                  rw [e]
                  rwa [show k - 1 = k' by omega] at this
                · exact b k' (by omega)
            rw [this]
            exact hts
          · by_cases e : k' = k
            · subst e; exact hB
            · exact hbk k' (by omega)
        unfold Tbl.Bd at hB
        have neg : (T.lo s k ≤ x ∧ T.hi s k ≤ y) ↔ (0 < k → T.lo s k ≤ T.lo s (k - 1) ∧ T.hi s k ≤ T.hi s (k - 1)) := by
          rcases Nat.eq_zero_or_pos k with h0 | h0
          · have := gl0 h0; omega
          · have := gl1 h0; omega
        cases d
        · (focus ((try with_reducible apply wpC.to); (repeat' ((conv => whnf); first | refine byEv ?_ | ((apply Fork.mk) <;> (intro _; try (exfalso; omega; done))) | ((apply q_call); (focus exact byNext); (focus exact byLo); (focus (exact kChartC0)); first | ((apply q_allB) <;> (intro z_b _ _ _; first | exact Bool.noConfusion z_b | replace z_b := of_decide_eq_true z_b | replace z_b := of_decide_eq_false z_b | skip) <;> (first | contradiction | (revert z_b; intros))) | ((apply q_alli) <;> (intro _ _ _ _; try contradiction)) | ((apply q_allv); intro _ _ _)) | fail)); all_goals (conv => whnf); all_goals (try with_reducible apply At.mk)))
          exact goal _ _ false (by simp) (by (exact bySame)) (by (exact byOm)) (by (exact byGet)) ⟨rfl, rfl, rfl, rfl, rfl, rfl, rfl, rfl, int_of rfl (by omega), trivial⟩
        · (focus ((try with_reducible apply wpC.to); (repeat' ((conv => whnf); first | refine byEv ?_ | ((apply Fork.mk) <;> (intro _; try (exfalso; omega; done))) | ((apply q_call); (focus exact byNext); (focus exact byLo); (focus (exact kChartC0)); first | ((apply q_allB) <;> (intro z_b _ _ _; first | exact Bool.noConfusion z_b | replace z_b := of_decide_eq_true z_b | replace z_b := of_decide_eq_false z_b | skip) <;> (first | contradiction | (revert z_b; intros))) | ((apply q_alli) <;> (intro _ _ _ _; try contradiction)) | ((apply q_allv); intro _ _ _)) | fail)); all_goals (conv => whnf); all_goals (try with_reducible apply At.mk)))
          · exact goal _ _ true ⟨fun _ => ⟨rfl, neg.1 (by omega)⟩, fun _ => rfl⟩ (by (exact bySame)) (by (exact byOm)) (by (exact byGet)) ⟨rfl, rfl, rfl, rfl, rfl, rfl, rfl, rfl, int_of rfl (by omega), trivial⟩
          · exact goal _ _ false ⟨fun h => (by cases h), fun h => (by have := neg.2 h.2; omega)⟩ (by (exact bySame)) (by (exact byOm)) (by (exact byGet)) ⟨rfl, rfl, rfl, rfl, rfl, rfl, rfl, rfl, int_of rfl (by omega), trivial⟩
          · exact goal _ _ false ⟨fun h => (by cases h), fun h => (by have := neg.2 h.2; omega)⟩ (by (exact bySame)) (by (exact byOm)) (by (exact byGet)) ⟨rfl, rfl, rfl, rfl, rfl, rfl, rfl, rfl, int_of rfl (by omega), trivial⟩
    · obtain rfl : k = T.R.w s := by omega
      (focus ((try with_reducible apply wpC.to); (repeat' ((conv => whnf); first | refine byEv ?_ | ((apply Fork.mk) <;> (intro _; try (exfalso; omega; done))) | ((apply q_call); (focus exact byNext); (focus exact byLo); (focus (exact kChartC0)); first | ((apply q_allB) <;> (intro z_b _ _ _; first | exact Bool.noConfusion z_b | replace z_b := of_decide_eq_true z_b | replace z_b := of_decide_eq_false z_b | skip) <;> (first | contradiction | (revert z_b; intros))) | ((apply q_alli) <;> (intro _ _ _ _; try contradiction)) | ((apply q_allv); intro _ _ _)) | fail)); all_goals (conv => whnf); all_goals (try with_reducible apply At.mk)))
      refine hK (s + 1) _ _ ⟨rfl, ?_, rfl, rfl, int_of rfl (by omega), trivial⟩ ⟨by (exact bySame), by (exact byOm), by omega, fun i hi => ?_⟩ (by omega)
      · refine congrArg Value.bool (decide_eq_decide.2 ⟨fun ⟨k1, k2⟩ i hi => ?_, fun k => ⟨fun i hi => k i (by omega), k s (by omega)⟩⟩)
        by_cases e : i = s
        · subst e; exact k2
        · exact k1 i (by omega)
      · by_cases e : i = s
        · subst e; exact hbk
        · exact hbd i (by omega)
  · obtain rfl : s = T.R.n := by omega
    have hB : ¬ ¬ (∀ i, i < T.R.n → ∀ k, k < T.R.w i → T.Bd i k) := fun k => k hbd
    by_cases hf : ∀ i, i < T.R.n → ∀ k, k + 1 < T.R.w i → T.Fl i k
    · rw [decide_eq_true hf]
      (focus ((try with_reducible apply wpC.to); (repeat' ((conv => whnf); first | refine byEv ?_ | ((apply Fork.mk) <;> (intro _; try (exfalso; omega; done))) | ((apply q_call); (focus exact byNext); (focus exact byLo); (focus (exact kChartC0)); first | ((apply q_allB) <;> (intro z_b _ _ _; first | exact Bool.noConfusion z_b | replace z_b := of_decide_eq_true z_b | replace z_b := of_decide_eq_false z_b | skip) <;> (first | contradiction | (revert z_b; intros))) | ((apply q_alli) <;> (intro _ _ _ _; try contradiction)) | ((apply q_allv); intro _ _ _)) | fail)); all_goals (conv => whnf); all_goals (try with_reducible apply At.mk)))
      (refine byFin ?_)
      unfold Tbl.err; rw [if_neg hMany, if_neg hnn, if_neg hRis, if_neg hB, if_neg (fun k => k hf)]
    · rw [decide_eq_false hf]
      (focus ((try with_reducible apply wpC.to); (repeat' ((conv => whnf); first | refine byEv ?_ | ((apply Fork.mk) <;> (intro _; try (exfalso; omega; done))) | ((apply q_call); (focus exact byNext); (focus exact byLo); (focus (exact kChartC0)); first | ((apply q_allB) <;> (intro z_b _ _ _; first | exact Bool.noConfusion z_b | replace z_b := of_decide_eq_true z_b | replace z_b := of_decide_eq_false z_b | skip) <;> (first | contradiction | (revert z_b; intros))) | ((apply q_alli) <;> (intro _ _ _ _; try contradiction)) | ((apply q_allv); intro _ _ _)) | fail)); all_goals (conv => whnf); all_goals (try with_reducible apply At.mk)))
      (refine byFin ?_)
      unfold Tbl.err; rw [if_neg hMany, if_neg hnn, if_neg hRis, if_neg hB, if_pos hf]
end AE.Try
