/- Walks of the laws of charts: what two points share. -/
import Derived.Test.YtbfhhncmmllblaaChartZf
import Derived.Test.YtbfhhncmmllblaaChartZd
import Derived.Test.YtbfhhncmmllblaaChartEq
set_option linter.unusedVariables false
set_option linter.unusedSimpArgs false
set_option linter.unusedSectionVars false
namespace AE.Try
open Go AE Go.Proofs
set_option maxRecDepth 100000
set_option linter.unusedVariables false

theorem more_ok {h : H} {T : Tbl} {p q : Pt} {m : Nat} (hm : m ≤ h.next) (hT : T.Ok m h) (g : T.Good) (o : T.On p) (o' : T.On q) : AW Try.prog 39 h.next h [.agg ⟨T.cells⟩, .agg ⟨p.cells⟩, .agg ⟨q.cells⟩] (fun v _ => v = .tuple #[.agg ⟨(T.far p q Bool.false).cells ++ (T.far p q Bool.true).cells⟩, .int .i64 0]) := by
  have e1 : T.nerr (T.On p ∧ T.On q) = 0 := g.nerr ⟨o, o'⟩
  have e2 : T.mspan p q = (T.far p q Bool.false, T.far p q Bool.true) := by unfold Tbl.mspan; rw [if_pos e1]
  have := More_w (p := p) (q := q) hm hT
  rw [e1, e2] at this
  exact this
theorem spanr_ok {h : H} {T : Tbl} {p : Pt} {m : Nat} (hm : m ≤ h.next) (hT : T.Ok m h) (g : T.Good) (o : T.On p) : AW Try.prog 18 h.next h [.agg ⟨T.cells⟩, .agg ⟨p.cells⟩] (fun v _ => v = .tuple #[.agg ⟨(T.val p T.lo).cells ++ (T.val p T.hi).cells⟩, .int .i64 0]) := by
  have e1 : T.nerr (T.On p) = 0 := g.nerr o
  have e2 : T.span p = (T.val p T.lo, T.val p T.hi) := by unfold Tbl.span; rw [if_pos e1]
  have := Span_r (p := p) hm hT
  rw [e1, e2] at this
  exact this
theorem valuer_ok {h : H} {T : Tbl} {p : Pul} {at_ : Pt} {m : Nat} (hm : m ≤ h.next) (hT : T.Ok m h) (hp : p.Ok m h) (g : T.Good) (t : T.True p) (o : T.On at_) : AW Try.prog 16 h.next h [.agg ⟨T.cells⟩, .slice p.M.b p.M.n p.M.c, .agg ⟨at_.cells⟩] (fun v _ => v = .tuple #[.agg ⟨(T.val at_ p.f).cells⟩, .int .i64 0]) := by
  have e1 : T.verr p at_ = 0 := by unfold Tbl.verr; rw [if_neg (fun k => k (t.err g)), if_neg (fun k => k o)]
  have e2 : T.vres p at_ = T.val at_ p.f := by unfold Tbl.vres; rw [if_pos e1]
  have := Value_r (at_ := at_) hm hT hp
  rw [e1, e2] at this
  exact this
theorem end_ok {h : H} {T : Tbl} {p q : Pt} {m : Nat} {high : Bool} (hm : m ≤ h.next) (hT : T.Ok m h) (g : T.Good) (o : T.On p) (o' : T.On q) : AW Try.prog 41 h.next h [.agg ⟨T.cells⟩, .agg ⟨p.cells⟩, .agg ⟨q.cells⟩, .bool high] (fun v h' => ∃ x : Pul, v = .tuple #[.slice x.M.b x.M.n x.M.c, .int .i64 0] ∧ x.Ok h'.next h' ∧ T.True x ∧ ∀ i k, i < T.P.n → k < T.A.n → x.f i k = T.ev p q high i k) := by
  have e1 : T.nerr (T.On p ∧ T.On q) = 0 := g.nerr ⟨o, o'⟩
  obtain ⟨v, h', ⟨x, rfl, ox, -, hx⟩, a⟩ := End_w (p := p) (q := q) (high := high) hm hT
  obtain ⟨x1, x2, x3⟩ := hx e1
  rw [e1] at a
  refine ⟨_, h', ⟨x, rfl, ox, ⟨x1, x2, fun i k hi hk => ?_⟩, x3⟩, a⟩
  rw [x3 i k hi hk]
  have := g.bd i k hi hk
  unfold Tbl.Bd at this
  unfold Tbl.ev Tbl.endv
  split
  · omega
  · split <;> omega
theorem vsum_congr {T : Tbl} {p : Pt} {f f' : Nat → Nat → Int} (ar : Around T p) (h : ∀ i k, i < T.P.n → k < T.A.n → f i k = f' i k) : T.vsum p f = T.vsum p f' := by
  rw [← wm_sum ar, ← wm_sum ar]
  exact gs_congr fun i k hi hk => by rw [h i k hi hk]
set_option maxHeartbeats 8000000 in
theorem shared_law {h : H} {T : Tbl} {B : Arr} {m : Nat} {x y x' y' : Int} (hm : m ≤ h.next) (hT : T.Ok m h) (hB : By .u32 B m h) (hx : 0 ≤ x ∧ x < 65536) (hy : 0 ≤ y ∧ y < 65536) (hx' : 0 ≤ x' ∧ x' < 65536) (hy' : 0 ≤ y' ∧ y' < 65536) : AW Try.prog 11 h.next h [.agg ⟨T.cells⟩, .slice B.b B.n B.c, .agg ⟨[.int .u16 x, .int .u16 y]⟩, .agg ⟨[.int .u16 x', .int .u16 y']⟩] (fun v _ => v = .bool true) := by
  have lB := hB.l
  refine fun11.call rfl (Nat.le_refl _) ?_
  unfold a11 Tbl.cells
  (focus ((try with_reducible apply wpC.to); (repeat' ((conv => whnf); first | refine byEv ?_ | ((apply Fork.mk) <;> (intro _; try (exfalso; omega; done))) | ((apply q_call); (focus exact byNext); (focus exact byLo); (focus (first | exact kChartY2 | exact kChartY1)); first | ((apply q_allB) <;> (intro z_b _ _ _; first | exact Bool.noConfusion z_b | replace z_b := of_decide_eq_true z_b | replace z_b := of_decide_eq_false z_b | skip) <;> (first | contradiction | (revert z_b; intros))) | ((apply q_alli) <;> (intro _ _ _ _; try contradiction)) | ((apply q_allv); intro _ _ _)) | fail)); all_goals (conv => whnf); all_goals (try with_reducible apply At.mk)))
  apply q_call
  focus (exact byNext)
  focus (exact byLo)
  focus exact fine_w (T := T) (m := m) (by (exact byOm)) (hT.same (by (exact bySame)) (Nat.le_refl _))
  rintro _ h1 ⟨b, rfl, hb⟩ q1 n1
  cases b
  · (focus ((try with_reducible apply wpC.to); (repeat' ((conv => whnf); first | refine byEv ?_ | ((apply Fork.mk) <;> (intro _; try (exfalso; omega; done))) | ((apply q_call); (focus exact byNext); (focus exact byLo); (focus (first | exact kChartY2 | exact kChartY1)); first | ((apply q_allB) <;> (intro z_b _ _ _; first | exact Bool.noConfusion z_b | replace z_b := of_decide_eq_true z_b | replace z_b := of_decide_eq_false z_b | skip) <;> (first | contradiction | (revert z_b; intros))) | ((apply q_alli) <;> (intro _ _ _ _; try contradiction)) | ((apply q_allv); intro _ _ _)) | fail)); all_goals (conv => whnf); all_goals (try with_reducible apply At.mk)))
    (refine byFin ?_)
    rfl
  have g := hb rfl
  (focus ((try with_reducible apply wpC.to); (repeat' ((conv => whnf); first | refine byEv ?_ | ((apply Fork.mk) <;> (intro _; try (exfalso; omega; done))) | ((apply q_call); (focus exact byNext); (focus exact byLo); (focus (first | exact kChartY2 | exact kChartY1)); first | ((apply q_allB) <;> (intro z_b _ _ _; first | exact Bool.noConfusion z_b | replace z_b := of_decide_eq_true z_b | replace z_b := of_decide_eq_false z_b | skip) <;> (first | contradiction | (revert z_b; intros))) | ((apply q_alli) <;> (intro _ _ _ _; try contradiction)) | ((apply q_allv); intro _ _ _)) | fail)); all_goals (conv => whnf); all_goals (try with_reducible apply At.mk)))
  · (refine byFin ?_)
    rfl
  apply q_call
  focus (exact byNext)
  focus (exact byLo)
  focus exact draw_w (T := T) (B := B) (m := m) (by (exact byOm)) (hT.same (by (exact bySame)) (Nat.le_refl _)) g (hB.same (by (exact bySame)) (Nat.le_refl _))
  rintro _ h2 ⟨A, rfl, ⟨O, oA⟩, ⟨An, Aw⟩, Af⟩ q2 n2
  have kA := oA.ok
  have tA : T.True A := ⟨An, Aw, fun i k hi hk => by rw [Af]; have := g.bd i k hi hk; unfold Tbl.Bd at this; exact drawn_in (by omega)⟩
  (focus ((try with_reducible apply wpC.to); (repeat' ((conv => whnf); first | refine byEv ?_ | ((apply Fork.mk) <;> (intro _; try (exfalso; omega; done))) | ((apply q_call); (focus exact byNext); (focus exact byLo); (focus (first | exact kChartY2 | exact kChartY1)); first | ((apply q_allB) <;> (intro z_b _ _ _; first | exact Bool.noConfusion z_b | replace z_b := of_decide_eq_true z_b | replace z_b := of_decide_eq_false z_b | skip) <;> (first | contradiction | (revert z_b; intros))) | ((apply q_alli) <;> (intro _ _ _ _; try contradiction)) | ((apply q_allv); intro _ _ _)) | fail)); all_goals (conv => whnf); all_goals (try with_reducible apply At.mk)))
  apply q_call
  focus (exact byNext)
  focus (exact byLo)
  focus exact point_w (T := T) (m := m) (by (exact byOm)) (hT.same (by (exact bySame)) (Nat.le_refl _)) g hx hy
  rintro _ h3 ⟨p, rfl, op⟩ q3 n3
  have ar := g.around op
  unfold Pt.cells
  (focus ((try with_reducible apply wpC.to); (repeat' ((conv => whnf); first | refine byEv ?_ | ((apply Fork.mk) <;> (intro _; try (exfalso; omega; done))) | ((apply q_call); (focus exact byNext); (focus exact byLo); (focus (first | exact kChartY2 | exact kChartY1)); first | ((apply q_allB) <;> (intro z_b _ _ _; first | exact Bool.noConfusion z_b | replace z_b := of_decide_eq_true z_b | replace z_b := of_decide_eq_false z_b | skip) <;> (first | contradiction | (revert z_b; intros))) | ((apply q_alli) <;> (intro _ _ _ _; try contradiction)) | ((apply q_allv); intro _ _ _)) | fail)); all_goals (conv => whnf); all_goals (try with_reducible apply At.mk)))
  apply q_call
  focus (exact byNext)
  focus (exact byLo)
  focus exact point_w (T := T) (m := m) (by (exact byOm)) (hT.same (by (exact bySame)) (Nat.le_refl _)) g hx' hy'
  rintro _ h4 ⟨q, rfl, oq⟩ q4 n4
  have ar' := g.around oq
  unfold Pt.cells
  (focus ((try with_reducible apply wpC.to); (repeat' ((conv => whnf); first | refine byEv ?_ | ((apply Fork.mk) <;> (intro _; try (exfalso; omega; done))) | ((apply q_call); (focus exact byNext); (focus exact byLo); (focus (first | exact kChartY2 | exact kChartY1)); first | ((apply q_allB) <;> (intro z_b _ _ _; first | exact Bool.noConfusion z_b | replace z_b := of_decide_eq_true z_b | replace z_b := of_decide_eq_false z_b | skip) <;> (first | contradiction | (revert z_b; intros))) | ((apply q_alli) <;> (intro _ _ _ _; try contradiction)) | ((apply q_allv); intro _ _ _)) | fail)); all_goals (conv => whnf); all_goals (try with_reducible apply At.mk)))
  apply q_callv
  focus (exact byNext)
  focus (exact byLo)
  focus exact value_ok (T := T) (p := A) (at_ := p) (m := h2.next) (by (exact byOm)) (hT.same (by (exact bySame)) (by (exact byOm))) (kA.same (by (exact bySame)) (Nat.le_refl _)) g tA op
  intro h5 q5 n5
  (focus ((try with_reducible apply wpC.to); (repeat' ((conv => whnf); first | refine byEv ?_ | ((apply Fork.mk) <;> (intro _; try (exfalso; omega; done))) | ((apply q_call); (focus exact byNext); (focus exact byLo); (focus (first | exact kChartY2 | exact kChartY1)); first | ((apply q_allB) <;> (intro z_b _ _ _; first | exact Bool.noConfusion z_b | replace z_b := of_decide_eq_true z_b | replace z_b := of_decide_eq_false z_b | skip) <;> (first | contradiction | (revert z_b; intros))) | ((apply q_alli) <;> (intro _ _ _ _; try contradiction)) | ((apply q_allv); intro _ _ _)) | fail)); all_goals (conv => whnf); all_goals (try with_reducible apply At.mk)))
  apply q_callv
  focus (exact byNext)
  focus (exact byLo)
  focus exact value_ok (T := T) (p := A) (at_ := q) (m := h2.next) (by (exact byOm)) (hT.same (by (exact bySame)) (by (exact byOm))) (kA.same (by (exact bySame)) (Nat.le_refl _)) g tA oq
  intro h6 q6 n6
  (focus ((try with_reducible apply wpC.to); (repeat' ((conv => whnf); first | refine byEv ?_ | ((apply Fork.mk) <;> (intro _; try (exfalso; omega; done))) | ((apply q_call); (focus exact byNext); (focus exact byLo); (focus (first | exact kChartY2 | exact kChartY1)); first | ((apply q_allB) <;> (intro z_b _ _ _; first | exact Bool.noConfusion z_b | replace z_b := of_decide_eq_true z_b | replace z_b := of_decide_eq_false z_b | skip) <;> (first | contradiction | (revert z_b; intros))) | ((apply q_alli) <;> (intro _ _ _ _; try contradiction)) | ((apply q_allv); intro _ _ _)) | fail)); all_goals (conv => whnf); all_goals (try with_reducible apply At.mk)))
  apply q_callv
  focus (exact byNext)
  focus (exact byLo)
  focus exact more_ok (T := T) (p := p) (q := q) (m := m) (by (exact byOm)) (hT.same (by (exact bySame)) (Nat.le_refl _)) g op oq
  intro h7 q7 n7
  (focus ((try with_reducible apply wpC.to); (repeat' ((conv => whnf); first | refine byEv ?_ | ((apply Fork.mk) <;> (intro _; try (exfalso; omega; done))) | ((apply q_call); (focus exact byNext); (focus exact byLo); (focus (first | exact kChartY2 | exact kChartY1)); first | ((apply q_allB) <;> (intro z_b _ _ _; first | exact Bool.noConfusion z_b | replace z_b := of_decide_eq_true z_b | replace z_b := of_decide_eq_false z_b | skip) <;> (first | contradiction | (revert z_b; intros))) | ((apply q_alli) <;> (intro _ _ _ _; try contradiction)) | ((apply q_allv); intro _ _ _)) | fail)); all_goals (conv => whnf); all_goals (try with_reducible apply At.mk)))
  apply q_callv
  focus (exact byNext)
  focus (exact byLo)
  focus exact more_ok (T := T) (p := p) (q := p) (m := m) (by (exact byOm)) (hT.same (by (exact bySame)) (Nat.le_refl _)) g op op
  intro h8 q8 n8
  rw [far_self Bool.false ar, far_self Bool.true ar]
  have rlo : ∀ i k, i < T.P.n → k < T.A.n → 0 ≤ T.lo i k ∧ T.lo i k ≤ 100000 := fun i k hi hk => by have := g.bd i k hi hk; unfold Tbl.Bd at this; omega
  have rhi : ∀ i k, i < T.P.n → k < T.A.n → 0 ≤ T.hi i k ∧ T.hi i k ≤ 100000 := fun i k hi hk => by have := g.bd i k hi hk; unfold Tbl.Bd at this; omega
  have rA := tA.bd g
  have fp := val_formed ar rA
  have fq := val_formed ar' rA
  have wd := whole2_pos ar ar'
  have dA := dif_rng ar ar' rA rA
  have evr : ∀ b i k, i < T.P.n → k < T.A.n → T.lo i k ≤ T.ev p q b i k ∧ T.ev p q b i k ≤ T.hi i k := fun b i k hi hk => by
    have := g.bd i k hi hk
    unfold Tbl.Bd at this
    unfold Tbl.ev Tbl.endv
    split
    · omega
    · split <;> omega
  have ev0 : ∀ b i k, i < T.P.n → k < T.A.n → 0 ≤ T.ev p q b i k ∧ T.ev p q b i k ≤ 100000 := fun b i k hi hk => by
    have := evr b i k hi hk
    have := rlo i k hi hk
    have := rhi i k hi hk
    omega
  have dL := dif_rng ar ar' (ev0 Bool.false) (ev0 Bool.false)
  have dH := dif_rng ar ar' (ev0 Bool.true) (ev0 Bool.true)
  have dS := dif_rng ar ar' rlo rhi
  have dT := dif_rng ar ar' rhi rlo
  (focus ((try with_reducible apply wpC.to); (repeat' ((conv => whnf); first | refine byEv ?_ | ((apply Fork.mk) <;> (intro _; try (exfalso; omega; done))) | ((apply q_call); (focus exact byNext); (focus exact byLo); (focus (first | exact kChartY2 | exact kChartY1)); first | ((apply q_allB) <;> (intro z_b _ _ _; first | exact Bool.noConfusion z_b | replace z_b := of_decide_eq_true z_b | replace z_b := of_decide_eq_false z_b | skip) <;> (first | contradiction | (revert z_b; intros))) | ((apply q_alli) <;> (intro _ _ _ _; try contradiction)) | ((apply q_allv); intro _ _ _)) | fail)); all_goals (conv => whnf); all_goals (try with_reducible apply At.mk)))
  apply q_callv
  focus (exact byNext)
  focus (exact byLo)
  focus exact formed_w (x := T.val p A.f) fp.d1 fp.d0 fp.n0 fp.n1
  intro h9 q9 n9
  (focus ((try with_reducible apply wpC.to); (repeat' ((conv => whnf); first | refine byEv ?_ | ((apply Fork.mk) <;> (intro _; try (exfalso; omega; done))) | ((apply q_call); (focus exact byNext); (focus exact byLo); (focus (first | exact kChartY2 | exact kChartY1)); first | ((apply q_allB) <;> (intro z_b _ _ _; first | exact Bool.noConfusion z_b | replace z_b := of_decide_eq_true z_b | replace z_b := of_decide_eq_false z_b | skip) <;> (first | contradiction | (revert z_b; intros))) | ((apply q_alli) <;> (intro _ _ _ _; try contradiction)) | ((apply q_allv); intro _ _ _)) | fail)); all_goals (conv => whnf); all_goals (try with_reducible apply At.mk)))
  apply q_callv
  focus (exact byNext)
  focus (exact byLo)
  focus exact formed_w (x := T.val q A.f) fq.d1 fq.d0 fq.n0 fq.n1
  intro h10 q10 n10
  (focus ((try with_reducible apply wpC.to); (repeat' ((conv => whnf); first | refine byEv ?_ | ((apply Fork.mk) <;> (intro _; try (exfalso; omega; done))) | ((apply q_call); (focus exact byNext); (focus exact byLo); (focus (first | exact kChartY2 | exact kChartY1)); first | ((apply q_allB) <;> (intro z_b _ _ _; first | exact Bool.noConfusion z_b | replace z_b := of_decide_eq_true z_b | replace z_b := of_decide_eq_false z_b | skip) <;> (first | contradiction | (revert z_b; intros))) | ((apply q_alli) <;> (intro _ _ _ _; try contradiction)) | ((apply q_allv); intro _ _ _)) | fail)); all_goals (conv => whnf); all_goals (try with_reducible apply At.mk)))
  refine OpE.pure (.bool false) (by kernel_rfl) ?_
  (focus ((try with_reducible apply wpC.to); (repeat' ((conv => whnf); first | refine byEv ?_ | ((apply Fork.mk) <;> (intro _; try (exfalso; omega; done))) | ((apply q_call); (focus exact byNext); (focus exact byLo); (focus (first | exact kChartY2 | exact kChartY1)); first | ((apply q_allB) <;> (intro z_b _ _ _; first | exact Bool.noConfusion z_b | replace z_b := of_decide_eq_true z_b | replace z_b := of_decide_eq_false z_b | skip) <;> (first | contradiction | (revert z_b; intros))) | ((apply q_alli) <;> (intro _ _ _ _; try contradiction)) | ((apply q_allv); intro _ _ _)) | fail)); all_goals (conv => whnf); all_goals (try with_reducible apply At.mk)))
  apply q_callv
  focus (exact byNext)
  focus (exact byLo)
  focus exact lessF_w (x := T.val p A.f) (y := T.val q A.f) fp fq
  rw [less_val ar ar' A.f A.f]
  intro h12 q12 n12
  (focus ((try with_reducible apply wpC.to); (repeat' ((conv => whnf); first | refine byEv ?_ | ((apply Fork.mk) <;> (intro _; try (exfalso; omega; done))) | ((apply q_call); (focus exact byNext); (focus exact byLo); (focus (first | exact kChartY2 | exact kChartY1)); first | ((apply q_allB) <;> (intro z_b _ _ _; first | exact Bool.noConfusion z_b | replace z_b := of_decide_eq_true z_b | replace z_b := of_decide_eq_false z_b | skip) <;> (first | contradiction | (revert z_b; intros))) | ((apply q_alli) <;> (intro _ _ _ _; try contradiction)) | ((apply q_allv); intro _ _ _)) | fail)); all_goals (conv => whnf); all_goals (try with_reducible apply At.mk)))
  apply q_callv
  focus (exact byNext)
  focus (exact byLo)
  focus exact notAbove_w (x := T.far p q Bool.false) (y := fr (T.dif p q A.f A.f) (T.whole p * T.whole q)) (by rw [far_eq _ ar ar']; exact cf_of (by omega) (dif_lo g ar ar' tA.rng) dL dA)
  intro h13 q13 n13
  (focus ((try with_reducible apply wpC.to); (repeat' ((conv => whnf); first | refine byEv ?_ | ((apply Fork.mk) <;> (intro _; try (exfalso; omega; done))) | ((apply q_call); (focus exact byNext); (focus exact byLo); (focus (first | exact kChartY2 | exact kChartY1)); first | ((apply q_allB) <;> (intro z_b _ _ _; first | exact Bool.noConfusion z_b | replace z_b := of_decide_eq_true z_b | replace z_b := of_decide_eq_false z_b | skip) <;> (first | contradiction | (revert z_b; intros))) | ((apply q_alli) <;> (intro _ _ _ _; try contradiction)) | ((apply q_allv); intro _ _ _)) | fail)); all_goals (conv => whnf); all_goals (try with_reducible apply At.mk)))
  apply q_callv
  focus (exact byNext)
  focus (exact byLo)
  focus exact lessF_w (x := T.val p A.f) (y := T.val q A.f) fp fq
  rw [less_val ar ar' A.f A.f]
  intro h14 q14 n14
  (focus ((try with_reducible apply wpC.to); (repeat' ((conv => whnf); first | refine byEv ?_ | ((apply Fork.mk) <;> (intro _; try (exfalso; omega; done))) | ((apply q_call); (focus exact byNext); (focus exact byLo); (focus (first | exact kChartY2 | exact kChartY1)); first | ((apply q_allB) <;> (intro z_b _ _ _; first | exact Bool.noConfusion z_b | replace z_b := of_decide_eq_true z_b | replace z_b := of_decide_eq_false z_b | skip) <;> (first | contradiction | (revert z_b; intros))) | ((apply q_alli) <;> (intro _ _ _ _; try contradiction)) | ((apply q_allv); intro _ _ _)) | fail)); all_goals (conv => whnf); all_goals (try with_reducible apply At.mk)))
  apply q_callv
  focus (exact byNext)
  focus (exact byLo)
  focus exact notAbove_w (x := fr (T.dif p q A.f A.f) (T.whole p * T.whole q)) (y := T.far p q Bool.true) (by rw [far_eq _ ar ar']; exact cf_of (by omega) (dif_hi g ar ar' tA.rng) dA dH)
  intro h15 q15 n15
  (focus ((try with_reducible apply wpC.to); (repeat' ((conv => whnf); first | refine byEv ?_ | ((apply Fork.mk) <;> (intro _; try (exfalso; omega; done))) | ((apply q_call); (focus exact byNext); (focus exact byLo); (focus (first | exact kChartY2 | exact kChartY1)); first | ((apply q_allB) <;> (intro z_b _ _ _; first | exact Bool.noConfusion z_b | replace z_b := of_decide_eq_true z_b | replace z_b := of_decide_eq_false z_b | skip) <;> (first | contradiction | (revert z_b; intros))) | ((apply q_alli) <;> (intro _ _ _ _; try contradiction)) | ((apply q_allv); intro _ _ _)) | fail)); all_goals (conv => whnf); all_goals (try with_reducible apply At.mk)))
  apply q_callv
  focus (exact byNext)
  focus (exact byLo)
  focus exact spanr_ok (T := T) (p := p) (m := m) (by (exact byOm)) (hT.same (by (exact bySame)) (Nat.le_refl _)) g op
  intro h16 q16 n16
  (focus ((try with_reducible apply wpC.to); (repeat' ((conv => whnf); first | refine byEv ?_ | ((apply Fork.mk) <;> (intro _; try (exfalso; omega; done))) | ((apply q_call); (focus exact byNext); (focus exact byLo); (focus (first | exact kChartY2 | exact kChartY1)); first | ((apply q_allB) <;> (intro z_b _ _ _; first | exact Bool.noConfusion z_b | replace z_b := of_decide_eq_true z_b | replace z_b := of_decide_eq_false z_b | skip) <;> (first | contradiction | (revert z_b; intros))) | ((apply q_alli) <;> (intro _ _ _ _; try contradiction)) | ((apply q_allv); intro _ _ _)) | fail)); all_goals (conv => whnf); all_goals (try with_reducible apply At.mk)))
  apply q_callv
  focus (exact byNext)
  focus (exact byLo)
  focus exact spanr_ok (T := T) (p := q) (m := m) (by (exact byOm)) (hT.same (by (exact bySame)) (Nat.le_refl _)) g oq
  intro h17 q17 n17
  (focus ((try with_reducible apply wpC.to); (repeat' ((conv => whnf); first | refine byEv ?_ | ((apply Fork.mk) <;> (intro _; try (exfalso; omega; done))) | ((apply q_call); (focus exact byNext); (focus exact byLo); (focus (first | exact kChartY2 | exact kChartY1)); first | ((apply q_allB) <;> (intro z_b _ _ _; first | exact Bool.noConfusion z_b | replace z_b := of_decide_eq_true z_b | replace z_b := of_decide_eq_false z_b | skip) <;> (first | contradiction | (revert z_b; intros))) | ((apply q_alli) <;> (intro _ _ _ _; try contradiction)) | ((apply q_allv); intro _ _ _)) | fail)); all_goals (conv => whnf); all_goals (try with_reducible apply At.mk)))
  apply q_callv
  focus (exact byNext)
  focus (exact byLo)
  focus exact lessF_w (x := T.val p T.lo) (y := T.val q T.hi) (val_formed ar rlo) (val_formed ar' rhi)
  rw [less_val ar ar' T.lo T.hi]
  intro h18 q18 n18
  (focus ((try with_reducible apply wpC.to); (repeat' ((conv => whnf); first | refine byEv ?_ | ((apply Fork.mk) <;> (intro _; try (exfalso; omega; done))) | ((apply q_call); (focus exact byNext); (focus exact byLo); (focus (first | exact kChartY2 | exact kChartY1)); first | ((apply q_allB) <;> (intro z_b _ _ _; first | exact Bool.noConfusion z_b | replace z_b := of_decide_eq_true z_b | replace z_b := of_decide_eq_false z_b | skip) <;> (first | contradiction | (revert z_b; intros))) | ((apply q_alli) <;> (intro _ _ _ _; try contradiction)) | ((apply q_allv); intro _ _ _)) | fail)); all_goals (conv => whnf); all_goals (try with_reducible apply At.mk)))
  apply q_callv
  focus (exact byNext)
  focus (exact byLo)
  focus exact notAbove_w (x := fr (T.dif p q T.lo T.hi) (T.whole p * T.whole q)) (y := T.far p q Bool.false) (by rw [far_eq _ ar ar']; exact cf_of (by omega) (dif_slo g ar ar') dS dL)
  intro h19 q19 n19
  (focus ((try with_reducible apply wpC.to); (repeat' ((conv => whnf); first | refine byEv ?_ | ((apply Fork.mk) <;> (intro _; try (exfalso; omega; done))) | ((apply q_call); (focus exact byNext); (focus exact byLo); (focus (first | exact kChartY2 | exact kChartY1)); first | ((apply q_allB) <;> (intro z_b _ _ _; first | exact Bool.noConfusion z_b | replace z_b := of_decide_eq_true z_b | replace z_b := of_decide_eq_false z_b | skip) <;> (first | contradiction | (revert z_b; intros))) | ((apply q_alli) <;> (intro _ _ _ _; try contradiction)) | ((apply q_allv); intro _ _ _)) | fail)); all_goals (conv => whnf); all_goals (try with_reducible apply At.mk)))
  apply q_callv
  focus (exact byNext)
  focus (exact byLo)
  focus exact lessF_w (x := T.val p T.hi) (y := T.val q T.lo) (val_formed ar rhi) (val_formed ar' rlo)
  rw [less_val ar ar' T.hi T.lo]
  intro h20 q20 n20
  (focus ((try with_reducible apply wpC.to); (repeat' ((conv => whnf); first | refine byEv ?_ | ((apply Fork.mk) <;> (intro _; try (exfalso; omega; done))) | ((apply q_call); (focus exact byNext); (focus exact byLo); (focus (first | exact kChartY2 | exact kChartY1)); first | ((apply q_allB) <;> (intro z_b _ _ _; first | exact Bool.noConfusion z_b | replace z_b := of_decide_eq_true z_b | replace z_b := of_decide_eq_false z_b | skip) <;> (first | contradiction | (revert z_b; intros))) | ((apply q_alli) <;> (intro _ _ _ _; try contradiction)) | ((apply q_allv); intro _ _ _)) | fail)); all_goals (conv => whnf); all_goals (try with_reducible apply At.mk)))
  apply q_callv
  focus (exact byNext)
  focus (exact byLo)
  focus exact notAbove_w (x := T.far p q Bool.true) (y := fr (T.dif p q T.hi T.lo) (T.whole p * T.whole q)) (by rw [far_eq _ ar ar']; exact cf_of (by omega) (dif_shi g ar ar') dH dT)
  intro h21 q21 n21
  (focus ((try with_reducible apply wpC.to); (repeat' ((conv => whnf); first | refine byEv ?_ | ((apply Fork.mk) <;> (intro _; try (exfalso; omega; done))) | ((apply q_call); (focus exact byNext); (focus exact byLo); (focus (first | exact kChartY2 | exact kChartY1)); first | ((apply q_allB) <;> (intro z_b _ _ _; first | exact Bool.noConfusion z_b | replace z_b := of_decide_eq_true z_b | replace z_b := of_decide_eq_false z_b | skip) <;> (first | contradiction | (revert z_b; intros))) | ((apply q_alli) <;> (intro _ _ _ _; try contradiction)) | ((apply q_allv); intro _ _ _)) | fail)); all_goals (conv => whnf); all_goals (try with_reducible apply At.mk)))
  have gT : h21.get h.next = some (.cells [.slice T.P.b T.P.n T.P.c, .slice T.A.b T.A.n T.A.c, .slice T.R.b T.R.n T.R.c] 25) := by (exact byGet)
  have g10 : h21.get (h2.next + 6) = some (.cells [.int .i64 p.p, .int .i64 p.a] 28) := by (exact byGet)
  have g11 : h21.get (h2.next + 7) = some (.cells [.int .i64 q.p, .int .i64 q.a] 28) := by (exact byGet)
  have g16 : h21.get (h6.next + 7) = some (.cells [.int .i64 (T.far p q Bool.false).n, .int .i64 (T.far p q Bool.false).d, .int .i64 (T.far p q Bool.true).n, .int .i64 (T.far p q Bool.true).d] 37) := by (exact byGet)
  have hT21 : T.Ok m h21 := hT.same (by (exact bySame)) (Nat.le_refl _)
  have hm21 : m ≤ h21.next := by (exact byOm)
  clear hT
  have hT := hT21
  refine wp_loop (fun s : Nat => [(4, .pointer (some ⟨h.next, 0, none⟩)), (10, .pointer (some ⟨h2.next + 6, 0, none⟩)), (11, .pointer (some ⟨h2.next + 7, 0, none⟩)), (16, .pointer (some ⟨h6.next + 7, 0, none⟩)), (22, .int .i64 s)])
    (fun s g1 => Quiet h21.next h21 g1 ∧ s ≤ 2) (fun s => 2 - s) 0 ⟨rfl, rfl, rfl, rfl, rfl, trivial⟩ ⟨by (exact byQuiet), by decide⟩ ?_
  rintro s g' h22 ⟨q22, hs⟩ K hK
  have n22 := q22.next
  by_cases hs2 : s < 2
  · by_cases hs1 : s = 1
    · subst hs1
      (focus ((try with_reducible apply wpC.to); (repeat' ((conv => whnf); first | refine byEv ?_ | ((apply Fork.mk) <;> (intro _; try (exfalso; omega; done))) | ((apply q_call); (focus exact byNext); (focus exact byLo); (focus (first | exact kChartY2 | exact kChartY1)); first | ((apply q_allB) <;> (intro z_b _ _ _; first | exact Bool.noConfusion z_b | replace z_b := of_decide_eq_true z_b | replace z_b := of_decide_eq_false z_b | skip) <;> (first | contradiction | (revert z_b; intros))) | ((apply q_alli) <;> (intro _ _ _ _; try contradiction)) | ((apply q_allv); intro _ _ _)) | fail)); all_goals (conv => whnf); all_goals (try with_reducible apply At.mk)))
      apply q_call
      focus (exact byNext)
      focus (exact byLo)
      focus exact end_ok (T := T) (p := p) (q := q) (high := Bool.true) (m := m) (by (exact byOm)) (hT.same (by (exact bySame)) (Nat.le_refl _)) g op oq
      rintro _ h23 ⟨X, rfl, oX, tX, Xf⟩ q23 n23
      have rX := tX.bd g
      have dX : T.dif p q X.f X.f = T.dif p q (T.ev p q Bool.true) (T.ev p q Bool.true) := by unfold Tbl.dif; rw [vsum_congr ar Xf, vsum_congr ar' Xf]
      (focus ((try with_reducible apply wpC.to); (repeat' ((conv => whnf); first | refine byEv ?_ | ((apply Fork.mk) <;> (intro _; try (exfalso; omega; done))) | ((apply q_call); (focus exact byNext); (focus exact byLo); (focus (first | exact kChartY2 | exact kChartY1)); first | ((apply q_allB) <;> (intro z_b _ _ _; first | exact Bool.noConfusion z_b | replace z_b := of_decide_eq_true z_b | replace z_b := of_decide_eq_false z_b | skip) <;> (first | contradiction | (revert z_b; intros))) | ((apply q_alli) <;> (intro _ _ _ _; try contradiction)) | ((apply q_allv); intro _ _ _)) | fail)); all_goals (conv => whnf); all_goals (try with_reducible apply At.mk)))
      apply q_callv
      focus (exact byNext)
      focus (exact byLo)
      focus exact valuer_ok (T := T) (p := X) (at_ := p) (m := h23.next) (by (exact byOm)) (hT.same (by (exact bySame)) (by (exact byOm))) (oX.same (by (exact bySame)) (Nat.le_refl _)) g tX op
      intro h24 q24 n24
      (focus ((try with_reducible apply wpC.to); (repeat' ((conv => whnf); first | refine byEv ?_ | ((apply Fork.mk) <;> (intro _; try (exfalso; omega; done))) | ((apply q_call); (focus exact byNext); (focus exact byLo); (focus (first | exact kChartY2 | exact kChartY1)); first | ((apply q_allB) <;> (intro z_b _ _ _; first | exact Bool.noConfusion z_b | replace z_b := of_decide_eq_true z_b | replace z_b := of_decide_eq_false z_b | skip) <;> (first | contradiction | (revert z_b; intros))) | ((apply q_alli) <;> (intro _ _ _ _; try contradiction)) | ((apply q_allv); intro _ _ _)) | fail)); all_goals (conv => whnf); all_goals (try with_reducible apply At.mk)))
      apply q_callv
      focus (exact byNext)
      focus (exact byLo)
      focus exact valuer_ok (T := T) (p := X) (at_ := q) (m := h23.next) (by (exact byOm)) (hT.same (by (exact bySame)) (by (exact byOm))) (oX.same (by (exact bySame)) (Nat.le_refl _)) g tX oq
      intro h25 q25 n25
      (focus ((try with_reducible apply wpC.to); (repeat' ((conv => whnf); first | refine byEv ?_ | ((apply Fork.mk) <;> (intro _; try (exfalso; omega; done))) | ((apply q_call); (focus exact byNext); (focus exact byLo); (focus (first | exact kChartY2 | exact kChartY1)); first | ((apply q_allB) <;> (intro z_b _ _ _; first | exact Bool.noConfusion z_b | replace z_b := of_decide_eq_true z_b | replace z_b := of_decide_eq_false z_b | skip) <;> (first | contradiction | (revert z_b; intros))) | ((apply q_alli) <;> (intro _ _ _ _; try contradiction)) | ((apply q_allv); intro _ _ _)) | fail)); all_goals (conv => whnf); all_goals (try with_reducible apply At.mk)))
      apply q_callv
      focus (exact byNext)
      focus (exact byLo)
      focus exact lessF_w (x := T.val p X.f) (y := T.val q X.f) (val_formed ar rX) (val_formed ar' rX)
      rw [less_val ar ar' X.f X.f, dX, ← far_eq Bool.true ar ar']
      intro h26 q26 n26
      (focus ((try with_reducible apply wpC.to); (repeat' ((conv => whnf); first | refine byEv ?_ | ((apply Fork.mk) <;> (intro _; try (exfalso; omega; done))) | ((apply q_call); (focus exact byNext); (focus exact byLo); (focus (first | exact kChartY2 | exact kChartY1)); first | ((apply q_allB) <;> (intro z_b _ _ _; first | exact Bool.noConfusion z_b | replace z_b := of_decide_eq_true z_b | replace z_b := of_decide_eq_false z_b | skip) <;> (first | contradiction | (revert z_b; intros))) | ((apply q_alli) <;> (intro _ _ _ _; try contradiction)) | ((apply q_allv); intro _ _ _)) | fail)); all_goals (conv => whnf); all_goals (try with_reducible apply At.mk)))
      refine OpE.pure (.bool false) (xPure_neq (A := ⟨(T.far p q Bool.true).cells⟩) (B := ⟨(T.far p q Bool.true).cells⟩) rfl rfl rfl rfl rfl (by kernel_rfl) (eql_fr _)) ?_
      (focus ((try with_reducible apply wpC.to); (repeat' ((conv => whnf); first | refine byEv ?_ | ((apply Fork.mk) <;> (intro _; try (exfalso; omega; done))) | ((apply q_call); (focus exact byNext); (focus exact byLo); (focus (first | exact kChartY2 | exact kChartY1)); first | ((apply q_allB) <;> (intro z_b _ _ _; first | exact Bool.noConfusion z_b | replace z_b := of_decide_eq_true z_b | replace z_b := of_decide_eq_false z_b | skip) <;> (first | contradiction | (revert z_b; intros))) | ((apply q_alli) <;> (intro _ _ _ _; try contradiction)) | ((apply q_allv); intro _ _ _)) | fail)); all_goals (conv => whnf); all_goals (try with_reducible apply At.mk)))
      have q28 : Quiet h21.next h21 (h24.put (h23.next + 7) (.cells [.int .i64 0, .int .i64 0] 32)) := Quiet.put' (by (exact byQuiet)) (by omega) (by omega)
      have q27 : Quiet h21.next h21 (h25.put (h24.next + 7) (.cells [.int .i64 0, .int .i64 0] 32)) := Quiet.put' (by (exact byQuiet)) (by omega) (by omega)
      refine hK (1 + 1) _ _ ⟨rfl, rfl, rfl, rfl, int_of rfl (by omega), trivial⟩ ⟨by (exact byQuiet), by omega⟩ (by omega)
    · obtain rfl : s = 0 := by omega
      (focus ((try with_reducible apply wpC.to); (repeat' ((conv => whnf); first | refine byEv ?_ | ((apply Fork.mk) <;> (intro _; try (exfalso; omega; done))) | ((apply q_call); (focus exact byNext); (focus exact byLo); (focus (first | exact kChartY2 | exact kChartY1)); first | ((apply q_allB) <;> (intro z_b _ _ _; first | exact Bool.noConfusion z_b | replace z_b := of_decide_eq_true z_b | replace z_b := of_decide_eq_false z_b | skip) <;> (first | contradiction | (revert z_b; intros))) | ((apply q_alli) <;> (intro _ _ _ _; try contradiction)) | ((apply q_allv); intro _ _ _)) | fail)); all_goals (conv => whnf); all_goals (try with_reducible apply At.mk)))
      apply q_call
      focus (exact byNext)
      focus (exact byLo)
      focus exact end_ok (T := T) (p := p) (q := q) (high := Bool.false) (m := m) (by (exact byOm)) (hT.same (by (exact bySame)) (Nat.le_refl _)) g op oq
      rintro _ h23 ⟨X, rfl, oX, tX, Xf⟩ q23 n23
      have rX := tX.bd g
      have dX : T.dif p q X.f X.f = T.dif p q (T.ev p q Bool.false) (T.ev p q Bool.false) := by unfold Tbl.dif; rw [vsum_congr ar Xf, vsum_congr ar' Xf]
      (focus ((try with_reducible apply wpC.to); (repeat' ((conv => whnf); first | refine byEv ?_ | ((apply Fork.mk) <;> (intro _; try (exfalso; omega; done))) | ((apply q_call); (focus exact byNext); (focus exact byLo); (focus (first | exact kChartY2 | exact kChartY1)); first | ((apply q_allB) <;> (intro z_b _ _ _; first | exact Bool.noConfusion z_b | replace z_b := of_decide_eq_true z_b | replace z_b := of_decide_eq_false z_b | skip) <;> (first | contradiction | (revert z_b; intros))) | ((apply q_alli) <;> (intro _ _ _ _; try contradiction)) | ((apply q_allv); intro _ _ _)) | fail)); all_goals (conv => whnf); all_goals (try with_reducible apply At.mk)))
      apply q_callv
      focus (exact byNext)
      focus (exact byLo)
      focus exact valuer_ok (T := T) (p := X) (at_ := p) (m := h23.next) (by (exact byOm)) (hT.same (by (exact bySame)) (by (exact byOm))) (oX.same (by (exact bySame)) (Nat.le_refl _)) g tX op
      intro h24 q24 n24
      (focus ((try with_reducible apply wpC.to); (repeat' ((conv => whnf); first | refine byEv ?_ | ((apply Fork.mk) <;> (intro _; try (exfalso; omega; done))) | ((apply q_call); (focus exact byNext); (focus exact byLo); (focus (first | exact kChartY2 | exact kChartY1)); first | ((apply q_allB) <;> (intro z_b _ _ _; first | exact Bool.noConfusion z_b | replace z_b := of_decide_eq_true z_b | replace z_b := of_decide_eq_false z_b | skip) <;> (first | contradiction | (revert z_b; intros))) | ((apply q_alli) <;> (intro _ _ _ _; try contradiction)) | ((apply q_allv); intro _ _ _)) | fail)); all_goals (conv => whnf); all_goals (try with_reducible apply At.mk)))
      apply q_callv
      focus (exact byNext)
      focus (exact byLo)
      focus exact valuer_ok (T := T) (p := X) (at_ := q) (m := h23.next) (by (exact byOm)) (hT.same (by (exact bySame)) (by (exact byOm))) (oX.same (by (exact bySame)) (Nat.le_refl _)) g tX oq
      intro h25 q25 n25
      (focus ((try with_reducible apply wpC.to); (repeat' ((conv => whnf); first | refine byEv ?_ | ((apply Fork.mk) <;> (intro _; try (exfalso; omega; done))) | ((apply q_call); (focus exact byNext); (focus exact byLo); (focus (first | exact kChartY2 | exact kChartY1)); first | ((apply q_allB) <;> (intro z_b _ _ _; first | exact Bool.noConfusion z_b | replace z_b := of_decide_eq_true z_b | replace z_b := of_decide_eq_false z_b | skip) <;> (first | contradiction | (revert z_b; intros))) | ((apply q_alli) <;> (intro _ _ _ _; try contradiction)) | ((apply q_allv); intro _ _ _)) | fail)); all_goals (conv => whnf); all_goals (try with_reducible apply At.mk)))
      apply q_callv
      focus (exact byNext)
      focus (exact byLo)
      focus exact lessF_w (x := T.val p X.f) (y := T.val q X.f) (val_formed ar rX) (val_formed ar' rX)
      rw [less_val ar ar' X.f X.f, dX, ← far_eq Bool.false ar ar']
      intro h26 q26 n26
      (focus ((try with_reducible apply wpC.to); (repeat' ((conv => whnf); first | refine byEv ?_ | ((apply Fork.mk) <;> (intro _; try (exfalso; omega; done))) | ((apply q_call); (focus exact byNext); (focus exact byLo); (focus (first | exact kChartY2 | exact kChartY1)); first | ((apply q_allB) <;> (intro z_b _ _ _; first | exact Bool.noConfusion z_b | replace z_b := of_decide_eq_true z_b | replace z_b := of_decide_eq_false z_b | skip) <;> (first | contradiction | (revert z_b; intros))) | ((apply q_alli) <;> (intro _ _ _ _; try contradiction)) | ((apply q_allv); intro _ _ _)) | fail)); all_goals (conv => whnf); all_goals (try with_reducible apply At.mk)))
      refine OpE.pure (.bool false) (xPure_neq (A := ⟨(T.far p q Bool.false).cells⟩) (B := ⟨(T.far p q Bool.false).cells⟩) rfl rfl rfl rfl rfl (by kernel_rfl) (eql_fr _)) ?_
      (focus ((try with_reducible apply wpC.to); (repeat' ((conv => whnf); first | refine byEv ?_ | ((apply Fork.mk) <;> (intro _; try (exfalso; omega; done))) | ((apply q_call); (focus exact byNext); (focus exact byLo); (focus (first | exact kChartY2 | exact kChartY1)); first | ((apply q_allB) <;> (intro z_b _ _ _; first | exact Bool.noConfusion z_b | replace z_b := of_decide_eq_true z_b | replace z_b := of_decide_eq_false z_b | skip) <;> (first | contradiction | (revert z_b; intros))) | ((apply q_alli) <;> (intro _ _ _ _; try contradiction)) | ((apply q_allv); intro _ _ _)) | fail)); all_goals (conv => whnf); all_goals (try with_reducible apply At.mk)))
      have q28 : Quiet h21.next h21 (h24.put (h23.next + 7) (.cells [.int .i64 0, .int .i64 0] 32)) := Quiet.put' (by (exact byQuiet)) (by omega) (by omega)
      have q27 : Quiet h21.next h21 (h25.put (h24.next + 7) (.cells [.int .i64 0, .int .i64 0] 32)) := Quiet.put' (by (exact byQuiet)) (by omega) (by omega)
      refine hK (0 + 1) _ _ ⟨rfl, rfl, rfl, rfl, int_of rfl (by omega), trivial⟩ ⟨by (exact byQuiet), by omega⟩ (by omega)
  · obtain rfl : s = 2 := by omega
    (focus ((try with_reducible apply wpC.to); (repeat' ((conv => whnf); first | refine byEv ?_ | ((apply Fork.mk) <;> (intro _; try (exfalso; omega; done))) | ((apply q_call); (focus exact byNext); (focus exact byLo); (focus (first | exact kChartY2 | exact kChartY1)); first | ((apply q_allB) <;> (intro z_b _ _ _; first | exact Bool.noConfusion z_b | replace z_b := of_decide_eq_true z_b | replace z_b := of_decide_eq_false z_b | skip) <;> (first | contradiction | (revert z_b; intros))) | ((apply q_alli) <;> (intro _ _ _ _; try contradiction)) | ((apply q_allv); intro _ _ _)) | fail)); all_goals (conv => whnf); all_goals (try with_reducible apply At.mk)))
    (refine byFin ?_)
    rfl
end AE.Try
