/- Walks of the laws of charts: the pull is within the span. -/
import Derived.Test.YtbfhhncmmllblaaChartZc
set_option linter.unusedVariables false
set_option linter.unusedSimpArgs false
set_option linter.unusedSectionVars false
namespace AE.Try
open Go AE Go.Proofs
set_option maxRecDepth 100000
set_option linter.unusedVariables false

theorem value_ok {h : H} {T : Tbl} {p : Pul} {at_ : Pt} {m : Nat} (hm : m ≤ h.next) (hT : T.Ok m h) (hp : p.Ok m h) (g : T.Good) (t : T.True p) (o : T.On at_) : AW Try.prog 15 h.next h [.agg ⟨T.cells⟩, .slice p.M.b p.M.n p.M.c, .agg ⟨at_.cells⟩] (fun v _ => v = .tuple #[.agg ⟨(T.val at_ p.f).cells⟩, .int .i64 0]) := by
  have e1 : T.verr p at_ = 0 := by unfold Tbl.verr; rw [if_neg (fun k => k (t.err g)), if_neg (fun k => k o)]
  have e2 : T.vres p at_ = T.val at_ p.f := by unfold Tbl.vres; rw [if_pos e1]
  have := Value_w (at_ := at_) hm hT hp
  rw [e1, e2] at this
  exact this
theorem span_ok {h : H} {T : Tbl} {p : Pt} {m : Nat} (hm : m ≤ h.next) (hT : T.Ok m h) (g : T.Good) (o : T.On p) : AW Try.prog 17 h.next h [.agg ⟨T.cells⟩, .agg ⟨p.cells⟩] (fun v _ => v = .tuple #[.agg ⟨(T.val p T.lo).cells ++ (T.val p T.hi).cells⟩, .int .i64 0]) := by
  have e1 : T.nerr (T.On p) = 0 := g.nerr o
  have e2 : T.span p = (T.val p T.lo, T.val p T.hi) := by unfold Tbl.span; rw [if_pos e1]
  have := Span_w (p := p) hm hT
  rw [e1, e2] at this
  exact this

set_option maxHeartbeats 4000000 in
theorem within_law {h : H} {T : Tbl} {B : Arr} {m : Nat} {x y : Int} (hm : m ≤ h.next) (hT : T.Ok m h) (hB : By .u32 B m h) (hx : 0 ≤ x ∧ x < 65536) (hy : 0 ≤ y ∧ y < 65536) : AW Try.prog 6 h.next h [.agg ⟨T.cells⟩, .slice B.b B.n B.c, .agg ⟨[.int .u16 x, .int .u16 y]⟩] (fun v _ => v = .bool true) := by
  have lB := hB.l
  refine fun6.call rfl (Nat.le_refl _) ?_
  unfold a6 Tbl.cells
  (focus ((try with_reducible apply wpC.to); (repeat' ((conv => whnf); first | refine byEv ?_ | ((apply Fork.mk) <;> (intro _; try (exfalso; omega; done))) | ((apply q_call); (focus exact byNext); (focus exact byLo); (focus (exact kChartY2)); first | ((apply q_allB) <;> (intro z_b _ _ _; first | exact Bool.noConfusion z_b | replace z_b := of_decide_eq_true z_b | replace z_b := of_decide_eq_false z_b | skip) <;> (first | contradiction | (revert z_b; intros))) | ((apply q_alli) <;> (intro _ _ _ _; try contradiction)) | ((apply q_allv); intro _ _ _)) | ((apply Load1.mk); (focus ((repeat (first | (apply el_lo <;> first | assumption | omega) | (apply el_hi <;> first | assumption | omega) | apply bump_old | ((apply put_old); focus (dsimp only [aadd]; omega)) | ((apply quiet_old); (focus assumption); focus (dsimp only [aadd]; omega)) | ((apply same_old); (focus assumption); focus (dsimp only [aadd]; omega)))); done)); (focus exact byVal)) | fail)); all_goals (conv => whnf); all_goals (try with_reducible apply At.mk)))
  apply q_call
  focus (exact byNext)
  focus (exact byLo)
  focus exact fine_w (T := T) (m := m) (by (exact byOm)) (hT.same (by (exact bySame)) (Nat.le_refl _))
  rintro _ h1 ⟨b, rfl, hb⟩ q1 n1
  cases b
  · (focus ((try with_reducible apply wpC.to); (repeat' ((conv => whnf); first | refine byEv ?_ | ((apply Fork.mk) <;> (intro _; try (exfalso; omega; done))) | ((apply q_call); (focus exact byNext); (focus exact byLo); (focus (exact kChartY2)); first | ((apply q_allB) <;> (intro z_b _ _ _; first | exact Bool.noConfusion z_b | replace z_b := of_decide_eq_true z_b | replace z_b := of_decide_eq_false z_b | skip) <;> (first | contradiction | (revert z_b; intros))) | ((apply q_alli) <;> (intro _ _ _ _; try contradiction)) | ((apply q_allv); intro _ _ _)) | ((apply Load1.mk); (focus ((repeat (first | (apply el_lo <;> first | assumption | omega) | (apply el_hi <;> first | assumption | omega) | apply bump_old | ((apply put_old); focus (dsimp only [aadd]; omega)) | ((apply quiet_old); (focus assumption); focus (dsimp only [aadd]; omega)) | ((apply same_old); (focus assumption); focus (dsimp only [aadd]; omega)))); done)); (focus exact byVal)) | fail)); all_goals (conv => whnf); all_goals (try with_reducible apply At.mk)))
    (refine byFin ?_)
    rfl
  have g := hb rfl
  (focus ((try with_reducible apply wpC.to); (repeat' ((conv => whnf); first | refine byEv ?_ | ((apply Fork.mk) <;> (intro _; try (exfalso; omega; done))) | ((apply q_call); (focus exact byNext); (focus exact byLo); (focus (exact kChartY2)); first | ((apply q_allB) <;> (intro z_b _ _ _; first | exact Bool.noConfusion z_b | replace z_b := of_decide_eq_true z_b | replace z_b := of_decide_eq_false z_b | skip) <;> (first | contradiction | (revert z_b; intros))) | ((apply q_alli) <;> (intro _ _ _ _; try contradiction)) | ((apply q_allv); intro _ _ _)) | ((apply Load1.mk); (focus ((repeat (first | (apply el_lo <;> first | assumption | omega) | (apply el_hi <;> first | assumption | omega) | apply bump_old | ((apply put_old); focus (dsimp only [aadd]; omega)) | ((apply quiet_old); (focus assumption); focus (dsimp only [aadd]; omega)) | ((apply same_old); (focus assumption); focus (dsimp only [aadd]; omega)))); done)); (focus exact byVal)) | fail)); all_goals (conv => whnf); all_goals (try with_reducible apply At.mk)))
  · (refine byFin ?_)
    rfl
  apply q_call
  focus (exact byNext)
  focus (exact byLo)
  focus exact draw_w (T := T) (B := B) (m := m) (by (exact byOm)) (hT.same (by (exact bySame)) (Nat.le_refl _)) g (hB.same (by (exact bySame)) (Nat.le_refl _))
  rintro _ h2 ⟨A, rfl, ⟨O, oA⟩, ⟨An, Aw⟩, Af⟩ q2 n2
  have kA := oA.ok
  have tA : T.True A := ⟨An, Aw, fun i k hi hk => by rw [Af]; have := g.bd i k hi hk; unfold Tbl.Bd at this; exact drawn_in (by omega)⟩
  (focus ((try with_reducible apply wpC.to); (repeat' ((conv => whnf); first | refine byEv ?_ | ((apply Fork.mk) <;> (intro _; try (exfalso; omega; done))) | ((apply q_call); (focus exact byNext); (focus exact byLo); (focus (exact kChartY2)); first | ((apply q_allB) <;> (intro z_b _ _ _; first | exact Bool.noConfusion z_b | replace z_b := of_decide_eq_true z_b | replace z_b := of_decide_eq_false z_b | skip) <;> (first | contradiction | (revert z_b; intros))) | ((apply q_alli) <;> (intro _ _ _ _; try contradiction)) | ((apply q_allv); intro _ _ _)) | ((apply Load1.mk); (focus ((repeat (first | (apply el_lo <;> first | assumption | omega) | (apply el_hi <;> first | assumption | omega) | apply bump_old | ((apply put_old); focus (dsimp only [aadd]; omega)) | ((apply quiet_old); (focus assumption); focus (dsimp only [aadd]; omega)) | ((apply same_old); (focus assumption); focus (dsimp only [aadd]; omega)))); done)); (focus exact byVal)) | fail)); all_goals (conv => whnf); all_goals (try with_reducible apply At.mk)))
  apply q_call
  focus (exact byNext)
  focus (exact byLo)
  focus exact point_w (T := T) (m := m) (by (exact byOm)) (hT.same (by (exact bySame)) (Nat.le_refl _)) g hx hy
  rintro _ h3 ⟨p, rfl, op⟩ q3 n3
  have ar := g.around op
  unfold Pt.cells
  (focus ((try with_reducible apply wpC.to); (repeat' ((conv => whnf); first | refine byEv ?_ | ((apply Fork.mk) <;> (intro _; try (exfalso; omega; done))) | ((apply q_call); (focus exact byNext); (focus exact byLo); (focus (exact kChartY2)); first | ((apply q_allB) <;> (intro z_b _ _ _; first | exact Bool.noConfusion z_b | replace z_b := of_decide_eq_true z_b | replace z_b := of_decide_eq_false z_b | skip) <;> (first | contradiction | (revert z_b; intros))) | ((apply q_alli) <;> (intro _ _ _ _; try contradiction)) | ((apply q_allv); intro _ _ _)) | ((apply Load1.mk); (focus ((repeat (first | (apply el_lo <;> first | assumption | omega) | (apply el_hi <;> first | assumption | omega) | apply bump_old | ((apply put_old); focus (dsimp only [aadd]; omega)) | ((apply quiet_old); (focus assumption); focus (dsimp only [aadd]; omega)) | ((apply same_old); (focus assumption); focus (dsimp only [aadd]; omega)))); done)); (focus exact byVal)) | fail)); all_goals (conv => whnf); all_goals (try with_reducible apply At.mk)))
  apply q_callv
  focus (exact byNext)
  focus (exact byLo)
  focus exact value_ok (T := T) (p := A) (at_ := p) (m := h2.next) (by (exact byOm)) (hT.same (by (exact bySame)) (by (exact byOm))) (kA.same (by (exact bySame)) (Nat.le_refl _)) g tA op
  intro h4 q4 n4
  (focus ((try with_reducible apply wpC.to); (repeat' ((conv => whnf); first | refine byEv ?_ | ((apply Fork.mk) <;> (intro _; try (exfalso; omega; done))) | ((apply q_call); (focus exact byNext); (focus exact byLo); (focus (exact kChartY2)); first | ((apply q_allB) <;> (intro z_b _ _ _; first | exact Bool.noConfusion z_b | replace z_b := of_decide_eq_true z_b | replace z_b := of_decide_eq_false z_b | skip) <;> (first | contradiction | (revert z_b; intros))) | ((apply q_alli) <;> (intro _ _ _ _; try contradiction)) | ((apply q_allv); intro _ _ _)) | ((apply Load1.mk); (focus ((repeat (first | (apply el_lo <;> first | assumption | omega) | (apply el_hi <;> first | assumption | omega) | apply bump_old | ((apply put_old); focus (dsimp only [aadd]; omega)) | ((apply quiet_old); (focus assumption); focus (dsimp only [aadd]; omega)) | ((apply same_old); (focus assumption); focus (dsimp only [aadd]; omega)))); done)); (focus exact byVal)) | fail)); all_goals (conv => whnf); all_goals (try with_reducible apply At.mk)))
  apply q_callv
  focus (exact byNext)
  focus (exact byLo)
  focus exact span_ok (T := T) (p := p) (m := m) (by (exact byOm)) (hT.same (by (exact bySame)) (Nat.le_refl _)) g op
  intro h5 q5 n5
  (focus ((try with_reducible apply wpC.to); (repeat' ((conv => whnf); first | refine byEv ?_ | ((apply Fork.mk) <;> (intro _; try (exfalso; omega; done))) | ((apply q_call); (focus exact byNext); (focus exact byLo); (focus (exact kChartY2)); first | ((apply q_allB) <;> (intro z_b _ _ _; first | exact Bool.noConfusion z_b | replace z_b := of_decide_eq_true z_b | replace z_b := of_decide_eq_false z_b | skip) <;> (first | contradiction | (revert z_b; intros))) | ((apply q_alli) <;> (intro _ _ _ _; try contradiction)) | ((apply q_allv); intro _ _ _)) | ((apply Load1.mk); (focus ((repeat (first | (apply el_lo <;> first | assumption | omega) | (apply el_hi <;> first | assumption | omega) | apply bump_old | ((apply put_old); focus (dsimp only [aadd]; omega)) | ((apply quiet_old); (focus assumption); focus (dsimp only [aadd]; omega)) | ((apply same_old); (focus assumption); focus (dsimp only [aadd]; omega)))); done)); (focus exact byVal)) | fail)); all_goals (conv => whnf); all_goals (try with_reducible apply At.mk)))
  have rlo : ∀ i k, i < T.P.n → k < T.A.n → 0 ≤ T.lo i k ∧ T.lo i k ≤ 100000 := fun i k hi hk => by have := g.bd i k hi hk; unfold Tbl.Bd at this; omega
  have rhi : ∀ i k, i < T.P.n → k < T.A.n → 0 ≤ T.hi i k ∧ T.hi i k ≤ 100000 := fun i k hi hk => by have := g.bd i k hi hk; unfold Tbl.Bd at this; omega
  have rA := tA.bd g
  have fA := val_formed ar rA
  apply q_callv
  focus (exact byNext)
  focus (exact byLo)
  focus exact atMost_w (x := T.val p T.lo) (y := T.val p A.f) (val_formed ar rlo) fA (val_le ar fun i k hi hk => (tA.rng i k hi hk).1)
  intro h6 q6 n6
  (focus ((try with_reducible apply wpC.to); (repeat' ((conv => whnf); first | refine byEv ?_ | ((apply Fork.mk) <;> (intro _; try (exfalso; omega; done))) | ((apply q_call); (focus exact byNext); (focus exact byLo); (focus (exact kChartY2)); first | ((apply q_allB) <;> (intro z_b _ _ _; first | exact Bool.noConfusion z_b | replace z_b := of_decide_eq_true z_b | replace z_b := of_decide_eq_false z_b | skip) <;> (first | contradiction | (revert z_b; intros))) | ((apply q_alli) <;> (intro _ _ _ _; try contradiction)) | ((apply q_allv); intro _ _ _)) | ((apply Load1.mk); (focus ((repeat (first | (apply el_lo <;> first | assumption | omega) | (apply el_hi <;> first | assumption | omega) | apply bump_old | ((apply put_old); focus (dsimp only [aadd]; omega)) | ((apply quiet_old); (focus assumption); focus (dsimp only [aadd]; omega)) | ((apply same_old); (focus assumption); focus (dsimp only [aadd]; omega)))); done)); (focus exact byVal)) | fail)); all_goals (conv => whnf); all_goals (try with_reducible apply At.mk)))
  apply q_callv
  focus (exact byNext)
  focus (exact byLo)
  focus exact atMost_w (x := T.val p A.f) (y := T.val p T.hi) fA (val_formed ar rhi) (val_le ar fun i k hi hk => (tA.rng i k hi hk).2)
  intro h7 q7 n7
  (focus ((try with_reducible apply wpC.to); (repeat' ((conv => whnf); first | refine byEv ?_ | ((apply Fork.mk) <;> (intro _; try (exfalso; omega; done))) | ((apply q_call); (focus exact byNext); (focus exact byLo); (focus (exact kChartY2)); first | ((apply q_allB) <;> (intro z_b _ _ _; first | exact Bool.noConfusion z_b | replace z_b := of_decide_eq_true z_b | replace z_b := of_decide_eq_false z_b | skip) <;> (first | contradiction | (revert z_b; intros))) | ((apply q_alli) <;> (intro _ _ _ _; try contradiction)) | ((apply q_allv); intro _ _ _)) | ((apply Load1.mk); (focus ((repeat (first | (apply el_lo <;> first | assumption | omega) | (apply el_hi <;> first | assumption | omega) | apply bump_old | ((apply put_old); focus (dsimp only [aadd]; omega)) | ((apply quiet_old); (focus assumption); focus (dsimp only [aadd]; omega)) | ((apply same_old); (focus assumption); focus (dsimp only [aadd]; omega)))); done)); (focus exact byVal)) | fail)); all_goals (conv => whnf); all_goals (try with_reducible apply At.mk)))
  apply q_call
  focus (exact byNext)
  focus (exact byLo)
  focus exact weights_r (T := T) (p := p) (m := m) (by (exact byOm)) (hT.same (by (exact bySame)) (Nat.le_refl _)) g op
  rintro _ h8 ⟨W, rfl, oW, Wn, Ww, Wf⟩ q8 n8
  have kW := oW.ok
  have kA8 : A.Ok h2.next h8 := kA.same (by (exact bySame)) (Nat.le_refl _)
  obtain ⟨we, wi, wr, wl, wre, wri, wrr, wrl, wrf⟩ := kW
  obtain ⟨ae, ai, ar1, al, are, ari, arr, arl, arf⟩ := kA8
  have gp8 := g.p8
  have ga10 := g.a10
  have gv : h8.get (h3.next + 7) = some (.cells [.int .i64 (T.val p A.f).n, .int .i64 (T.val p A.f).d] 32) := by (exact byGet)
  (focus ((try with_reducible apply wpC.to); (repeat' ((conv => whnf); first | refine byEv ?_ | ((apply Fork.mk) <;> (intro _; try (exfalso; omega; done))) | ((apply q_call); (focus exact byNext); (focus exact byLo); (focus (exact kChartY2)); first | ((apply q_allB) <;> (intro z_b _ _ _; first | exact Bool.noConfusion z_b | replace z_b := of_decide_eq_true z_b | replace z_b := of_decide_eq_false z_b | skip) <;> (first | contradiction | (revert z_b; intros))) | ((apply q_alli) <;> (intro _ _ _ _; try contradiction)) | ((apply q_allv); intro _ _ _)) | ((apply Load1.mk); (focus ((repeat (first | (apply el_lo <;> first | assumption | omega) | (apply el_hi <;> first | assumption | omega) | apply bump_old | ((apply put_old); focus (dsimp only [aadd]; omega)) | ((apply quiet_old); (focus assumption); focus (dsimp only [aadd]; omega)) | ((apply same_old); (focus assumption); focus (dsimp only [aadd]; omega)))); done)); (focus exact byVal)) | fail)); all_goals (conv => whnf); all_goals (try with_reducible apply At.mk)))
  refine wp_loop (fun s : Nat × Int × Int => [(7, .slice A.M.b A.M.n A.M.c), (9, .pointer (some ⟨h3.next + 7, 0, none⟩)), (13, .slice W.M.b W.M.n W.M.c), (15, .int .i64 s.2.1), (16, .int .i64 s.2.2), (17, .int .i64 s.1)])
    (fun s g1 => Quiet h8.next h8 g1 ∧ s.1 ≤ T.P.n ∧ (0 ≤ s.2.1 ∧ s.2.1 ≤ 1073741824 ∧ 0 ≤ s.2.2 ∧ s.2.2 ≤ 100000) ∧ ∀ i k, i < s.1 → i < T.P.n → k < T.A.n → T.wm p i k ≠ 0 → s.2.1 ≤ A.f i k ∧ A.f i k ≤ s.2.2) (fun s => T.P.n - s.1) (0, 1073741824, 0) ⟨rfl, rfl, rfl, rfl, rfl, rfl, trivial⟩ ⟨by (exact byQuiet), by dsimp only; omega, by dsimp only; omega, fun i k hi => absurd hi (Nat.not_lt_zero _)⟩ ?_
  rintro ⟨s, lo, hi⟩ g' h9 ⟨q9, hs, hr, hv⟩ K hK
  dsimp only at hs hr hv ⊢
  have n9 := q9.next
  by_cases hsn : s < T.P.n
  · have hww := Ww s hsn
    have haw := Aw s hsn
    have we9 := we
    have wi9 := wi.same (Same.quiet (Same.refl _ _) q9 (Nat.le_refl _)) wr
    have ai9 := ai.same (m := h2.next) (Same.quiet (Same.refl _ _) q9 (by omega)) ar1
    have hsW : s < W.M.n := by omega
    have hsA : s < A.M.n := by omega
    have wre9 := wre s hsW
    have are9 := are s hsA
    have wrl9 := wrl s hsW
    (focus ((try with_reducible apply wpC.to); (repeat' ((conv => whnf); first | refine byEv ?_ | ((apply Fork.mk) <;> (intro _; try (exfalso; omega; done))) | ((apply q_call); (focus exact byNext); (focus exact byLo); (focus (exact kChartY2)); first | ((apply q_allB) <;> (intro z_b _ _ _; first | exact Bool.noConfusion z_b | replace z_b := of_decide_eq_true z_b | replace z_b := of_decide_eq_false z_b | skip) <;> (first | contradiction | (revert z_b; intros))) | ((apply q_alli) <;> (intro _ _ _ _; try contradiction)) | ((apply q_allv); intro _ _ _)) | ((apply Load1.mk); (focus ((repeat (first | (apply el_lo <;> first | assumption | omega) | (apply el_hi <;> first | assumption | omega) | apply bump_old | ((apply put_old); focus (dsimp only [aadd]; omega)) | ((apply quiet_old); (focus assumption); focus (dsimp only [aadd]; omega)) | ((apply same_old); (focus assumption); focus (dsimp only [aadd]; omega)))); done)); (focus exact byVal)) | fail)); all_goals (conv => whnf); all_goals (try with_reducible apply At.mk)))
    refine wp_loop (fun t : Nat × Int × Int => [(7, .slice A.M.b A.M.n A.M.c), (9, .pointer (some ⟨h3.next + 7, 0, none⟩)), (13, .slice W.M.b W.M.n W.M.c), (15, .int .i64 t.2.1), (16, .int .i64 t.2.2), (17, .int .i64 s), (18, .int .i64 t.1)])
      (fun t g1 => Quiet h8.next h8 g1 ∧ t.1 ≤ T.A.n ∧ (0 ≤ t.2.1 ∧ t.2.1 ≤ 1073741824 ∧ 0 ≤ t.2.2 ∧ t.2.2 ≤ 100000) ∧ (∀ i k, i < s → i < T.P.n → k < T.A.n → T.wm p i k ≠ 0 → t.2.1 ≤ A.f i k ∧ A.f i k ≤ t.2.2) ∧ ∀ k, k < t.1 → T.wm p s k ≠ 0 → t.2.1 ≤ A.f s k ∧ A.f s k ≤ t.2.2) (fun t => T.A.n - t.1) (0, lo, hi) ⟨rfl, rfl, rfl, rfl, rfl, rfl, rfl, trivial⟩ ⟨by (exact byQuiet), by dsimp only; omega, hr, hv, fun k hk => absurd hk (Nat.not_lt_zero _)⟩ ?_
    rintro ⟨t, lo', hi'⟩ g'' h10 ⟨q10, ht, hr', hv', hv2⟩ K' hK'
    dsimp only at ht hr' hv' hv2 ⊢
    have n10 := q10.next
    have wi10 := wi.same (Same.quiet (Same.refl _ _) q10 (Nat.le_refl _)) wr
    have ai10 := ai.same (m := h2.next) (Same.quiet (Same.refl _ _) q10 (by omega)) ar1
    have wri10 := (wri s hsW).same (m := h8.next) (Same.quiet (Same.refl _ _) q10 (Nat.le_refl _)) (wrr s hsW)
    have ari10 := (ari s hsA).same (m := h2.next) (Same.quiet (Same.refl _ _) q10 (by omega)) (arr s hsA)
    by_cases htn : t < T.A.n
    · have wf := Wf s t hsn htn
      have ra := rA s t hsn htn
      (focus ((try with_reducible apply wpC.to); (repeat' ((conv => whnf); first | refine byEv ?_ | ((apply Fork.mk) <;> (intro _; try (exfalso; omega; done))) | ((apply q_call); (focus exact byNext); (focus exact byLo); (focus (exact kChartY2)); first | ((apply q_allB) <;> (intro z_b _ _ _; first | exact Bool.noConfusion z_b | replace z_b := of_decide_eq_true z_b | replace z_b := of_decide_eq_false z_b | skip) <;> (first | contradiction | (revert z_b; intros))) | ((apply q_alli) <;> (intro _ _ _ _; try contradiction)) | ((apply q_allv); intro _ _ _)) | ((apply Load1.mk); (focus ((repeat (first | (apply el_lo <;> first | assumption | omega) | (apply el_hi <;> first | assumption | omega) | apply bump_old | ((apply put_old); focus (dsimp only [aadd]; omega)) | ((apply quiet_old); (focus assumption); focus (dsimp only [aadd]; omega)) | ((apply same_old); (focus assumption); focus (dsimp only [aadd]; omega)))); done)); (focus exact byVal)) | fail)); all_goals (conv => whnf); all_goals (try with_reducible apply At.mk)))
      · refine hK' (t + 1, min lo' (A.f s t), max hi' (A.f s t)) _ _ ⟨rfl, rfl, rfl, rfl, rfl, rfl, int_of rfl (by dsimp only; omega), trivial⟩ ⟨by (exact byQuiet), by dsimp only; omega, by dsimp only; omega, fun i k hi hP hA hw => by have := hv' i k hi hP hA hw; dsimp only; omega, fun k hk hw => ?_⟩ (by dsimp only; omega)
        dsimp only at hk ⊢
        by_cases e : k = t
        · subst e; omega
        · have := hv2 k (by omega) hw; omega
      · refine hK' (t + 1, lo', hi') _ _ ⟨rfl, rfl, rfl, rfl, rfl, rfl, int_of rfl (by dsimp only; omega), trivial⟩ ⟨by (exact byQuiet), by dsimp only; omega, hr', hv', fun k hk hw => ?_⟩ (by dsimp only; omega)
        dsimp only at hk ⊢
        by_cases e : k = t
        · subst e; exact absurd (wf.symm.trans (by omega)) hw
        · exact hv2 k (by omega) hw
    · (focus ((try with_reducible apply wpC.to); (repeat' ((conv => whnf); first | refine byEv ?_ | ((apply Fork.mk) <;> (intro _; try (exfalso; omega; done))) | ((apply q_call); (focus exact byNext); (focus exact byLo); (focus (exact kChartY2)); first | ((apply q_allB) <;> (intro z_b _ _ _; first | exact Bool.noConfusion z_b | replace z_b := of_decide_eq_true z_b | replace z_b := of_decide_eq_false z_b | skip) <;> (first | contradiction | (revert z_b; intros))) | ((apply q_alli) <;> (intro _ _ _ _; try contradiction)) | ((apply q_allv); intro _ _ _)) | ((apply Load1.mk); (focus ((repeat (first | (apply el_lo <;> first | assumption | omega) | (apply el_hi <;> first | assumption | omega) | apply bump_old | ((apply put_old); focus (dsimp only [aadd]; omega)) | ((apply quiet_old); (focus assumption); focus (dsimp only [aadd]; omega)) | ((apply same_old); (focus assumption); focus (dsimp only [aadd]; omega)))); done)); (focus exact byVal)) | fail)); all_goals (conv => whnf); all_goals (try with_reducible apply At.mk)))
      refine hK (s + 1, lo', hi') _ _ ⟨rfl, rfl, rfl, rfl, rfl, int_of rfl (by dsimp only; omega), trivial⟩ ⟨by (exact byQuiet), by dsimp only; omega, hr', fun i k hi hP hA hw => ?_⟩ (by dsimp only; omega)
      dsimp only at hi ⊢
      by_cases e : i = s
      · subst e; exact hv2 k (by omega) hw
      · exact hv' i k (by omega) hP hA hw
  · obtain rfl : s = T.P.n := by omega
    obtain ⟨i0, k0, ⟨hi0, hk0⟩, hw0⟩ := wm_some ar
    have b0 := hv i0 k0 hi0 hi0 hk0 hw0
    have b1 := rA i0 k0 hi0 hk0
    (focus ((try with_reducible apply wpC.to); (repeat' ((conv => whnf); first | refine byEv ?_ | ((apply Fork.mk) <;> (intro _; try (exfalso; omega; done))) | ((apply q_call); (focus exact byNext); (focus exact byLo); (focus (exact kChartY2)); first | ((apply q_allB) <;> (intro z_b _ _ _; first | exact Bool.noConfusion z_b | replace z_b := of_decide_eq_true z_b | replace z_b := of_decide_eq_false z_b | skip) <;> (first | contradiction | (revert z_b; intros))) | ((apply q_alli) <;> (intro _ _ _ _; try contradiction)) | ((apply q_allv); intro _ _ _)) | ((apply Load1.mk); (focus ((repeat (first | (apply el_lo <;> first | assumption | omega) | (apply el_hi <;> first | assumption | omega) | apply bump_old | ((apply put_old); focus (dsimp only [aadd]; omega)) | ((apply quiet_old); (focus assumption); focus (dsimp only [aadd]; omega)) | ((apply same_old); (focus assumption); focus (dsimp only [aadd]; omega)))); done)); (focus exact byVal)) | fail)); all_goals (conv => whnf); all_goals (try with_reducible apply At.mk)))
    apply q_callv
    focus (exact byNext)
    focus (exact byLo)
    focus exact atMost_w (x := ⟨lo, 1⟩) (y := T.val p A.f) ((FrOf.whole lo).formed (by decide) (by omega) (by omega)) fA (val_ge ar fun i k hi hk hw => (hv i k hi hi hk hw).1)
    intro h10 q10 n10
    (focus ((try with_reducible apply wpC.to); (repeat' ((conv => whnf); first | refine byEv ?_ | ((apply Fork.mk) <;> (intro _; try (exfalso; omega; done))) | ((apply q_call); (focus exact byNext); (focus exact byLo); (focus (exact kChartY2)); first | ((apply q_allB) <;> (intro z_b _ _ _; first | exact Bool.noConfusion z_b | replace z_b := of_decide_eq_true z_b | replace z_b := of_decide_eq_false z_b | skip) <;> (first | contradiction | (revert z_b; intros))) | ((apply q_alli) <;> (intro _ _ _ _; try contradiction)) | ((apply q_allv); intro _ _ _)) | ((apply Load1.mk); (focus ((repeat (first | (apply el_lo <;> first | assumption | omega) | (apply el_hi <;> first | assumption | omega) | apply bump_old | ((apply put_old); focus (dsimp only [aadd]; omega)) | ((apply quiet_old); (focus assumption); focus (dsimp only [aadd]; omega)) | ((apply same_old); (focus assumption); focus (dsimp only [aadd]; omega)))); done)); (focus exact byVal)) | fail)); all_goals (conv => whnf); all_goals (try with_reducible apply At.mk)))
    apply q_callv
    focus (exact byNext)
    focus (exact byLo)
    focus exact atMost_w (x := T.val p A.f) (y := ⟨hi, 1⟩) fA ((FrOf.whole hi).formed (by decide) (by omega) (by omega)) (val_le' ar fun i k hi hk hw => (hv i k hi hi hk hw).2)
    intro h11 q11 n11
    (focus ((try with_reducible apply wpC.to); (repeat' ((conv => whnf); first | refine byEv ?_ | ((apply Fork.mk) <;> (intro _; try (exfalso; omega; done))) | ((apply q_call); (focus exact byNext); (focus exact byLo); (focus (exact kChartY2)); first | ((apply q_allB) <;> (intro z_b _ _ _; first | exact Bool.noConfusion z_b | replace z_b := of_decide_eq_true z_b | replace z_b := of_decide_eq_false z_b | skip) <;> (first | contradiction | (revert z_b; intros))) | ((apply q_alli) <;> (intro _ _ _ _; try contradiction)) | ((apply q_allv); intro _ _ _)) | ((apply Load1.mk); (focus ((repeat (first | (apply el_lo <;> first | assumption | omega) | (apply el_hi <;> first | assumption | omega) | apply bump_old | ((apply put_old); focus (dsimp only [aadd]; omega)) | ((apply quiet_old); (focus assumption); focus (dsimp only [aadd]; omega)) | ((apply same_old); (focus assumption); focus (dsimp only [aadd]; omega)))); done)); (focus exact byVal)) | fail)); all_goals (conv => whnf); all_goals (try with_reducible apply At.mk)))
    (refine byFin ?_)
    rfl
end AE.Try
