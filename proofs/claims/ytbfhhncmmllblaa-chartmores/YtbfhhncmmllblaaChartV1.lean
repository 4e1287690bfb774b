/- Walks of the laws of charts: values. -/
import Derived.Test.YtbfhhncmmllblaaChartY
import Derived.Test.YtbfhhncmmllblaaChartRf
import Derived.Test.YtbfhhncmmllblaaAEthree
set_option linter.unusedVariables false
set_option linter.unusedSimpArgs false
set_option linter.unusedSectionVars false
namespace AE.Try
open Go AE Go.Proofs
set_option maxRecDepth 100000
set_option linter.unusedVariables false

theorem PartOf.one {P : Program} {e : TypeId} {cs : List Value} {off : Nat} {v : Value} (h1 : isAggT P e = some false) (h2 : cs[off]? = some v) : PartOf P e false cs off [v] := ⟨h1, by rw [if_neg (by simp)]; exact ⟨v, h2, rfl⟩⟩
theorem PartOf.agg {P : Program} {e : TypeId} {s : Nat} {cs x : List Value} {off : Nat} (h1 : isAggT P e = some true) (h2 : sizeT P e = some s) (h3 : cut cs off s = some x) : PartOf P e true cs off x := ⟨h1, by rw [if_pos rfl]; exact ⟨s, h2, h3⟩⟩
theorem fr_eqc (x y : Fr) : EqC Try.prog 2 32 true x.cells y.cells (x.n == y.n && (x.d == y.d && true)) := by
  refine EqC.struct (fs := ?fs) ?ht ?hs ?h
  case ht => exact Try.underlying32
  case hs => kernel_rfl
  refine EqFs.cons (agg := false) (x := [.int .i64 x.n]) (y := [.int .i64 y.n]) (by decide) (PartOf.one rfl rfl) (PartOf.one rfl rfl) (EqC.int rfl) ?_
  exact EqFs.cons (agg := false) (x := [.int .i64 x.d]) (y := [.int .i64 y.d]) (by decide) (PartOf.one rfl rfl) (PartOf.one rfl rfl) (EqC.int rfl) EqFs.nil
theorem span_eqc (a b c d : Fr) : EqC Try.prog 3 37 true (a.cells ++ b.cells) (c.cells ++ d.cells) ((a.n == c.n && (a.d == c.d && true)) && ((b.n == d.n && (b.d == d.d && true)) && true)) := by
  refine EqC.struct (fs := ?fs) ?ht ?hs ?h
  case ht => exact Try.underlying37
  case hs => kernel_rfl
  refine EqFs.cons (agg := true) (x := a.cells) (y := c.cells) (by decide) (PartOf.agg rfl rfl rfl) (PartOf.agg rfl rfl rfl) (fr_eqc a c) ?_
  exact EqFs.cons (agg := true) (x := b.cells) (y := d.cells) (by decide) (PartOf.agg rfl rfl rfl) (PartOf.agg rfl rfl rfl) (fr_eqc b d) EqFs.nil
theorem eql_fr (x : Fr) : pureRun Try.prog (Op.equalIn Op.maxDepth 32 (.agg ⟨x.cells⟩) (.agg ⟨x.cells⟩)) = some true := by
  have := (fr_eqc x x).run 2 Op.maxDepth (by decide)
  simpa [asVal] using this
theorem eql_span (a b : Fr) : pureRun Try.prog (Op.equalIn Op.maxDepth 37 (.agg ⟨a.cells ++ b.cells⟩) (.agg ⟨a.cells ++ b.cells⟩)) = some true := by
  have := (span_eqc a b a b).run 3 Op.maxDepth (by decide)
  simpa [asVal] using this

theorem kChartV10 {G : Prop} (g : G := by ((apply Value_w; rotate_left; (focus (apply Tbl.Ok.same; (focus assumption); (focus exact bySame); (focus exact Nat.le_refl _))); (focus (apply Pul.Ok.same; (focus assumption); (focus exact bySame); (focus exact Nat.le_refl _))); (focus exact byOm)))) : G := g
theorem kChartV11 {G : Prop} (g : G := by ((apply Value_r; rotate_left; (focus (apply Tbl.Ok.same; (focus assumption); (focus exact bySame); (focus exact Nat.le_refl _))); (focus (apply Pul.Ok.same; (focus assumption); (focus exact bySame); (focus exact Nat.le_refl _))); (focus exact byOm)))) : G := g
theorem kChartV12 {G : Prop} (g : G := by ((apply Span_w; rotate_left; (focus (apply Tbl.Ok.same; (focus assumption); (focus exact bySame); (focus exact Nat.le_refl _))); (focus exact byOm)))) : G := g
theorem kChartV13 {G : Prop} (g : G := by ((apply Span_r; rotate_left; (focus (apply Tbl.Ok.same; (focus assumption); (focus exact bySame); (focus exact Nat.le_refl _))); (focus exact byOm)))) : G := g

set_option maxHeartbeats 2000000 in
theorem values_w {h : H} {T : Tbl} {p : Pul} {a : Pt} {m : Nat} (hm : m ≤ h.next) (hT : T.Ok m h) (hp : p.Ok m h) : AW Try.prog 3 h.next h [.agg ⟨T.cells⟩, .slice p.M.b p.M.n p.M.c, .agg ⟨a.cells⟩] (fun v _ => v = .bool true) := by
  refine fun3.call rfl (Nat.le_refl _) ?_
  unfold a3 Tbl.cells Pt.cells
  (focus ((try with_reducible apply wpC.to); (repeat' ((conv => whnf); first | refine byEv ?_ | ((apply Fork.mk) <;> (intro _; try (exfalso; omega; done))) | ((apply q_call); (focus exact byNext); (focus exact byLo); (focus (first | exact kChartE0 | exact kChartV13 | exact kChartV12 | exact kChartV11 | exact kChartV10 | exact kChartRd1 | exact kChartRb0 | exact kChartY2 | exact kChartJ0 | exact kChartE0)); first | ((apply q_allB) <;> (intro z_b _ _ _; first | exact Bool.noConfusion z_b | replace z_b := of_decide_eq_true z_b | replace z_b := of_decide_eq_false z_b | skip) <;> (first | contradiction | (revert z_b; intros))) | ((apply q_alli) <;> (intro _ _ _ _; try contradiction)) | ((apply q_allv); intro _ _ _)) | fail)); all_goals (conv => whnf); all_goals (try with_reducible apply At.mk)))
  apply q_call
  focus (exact byNext)
  focus (exact byLo)
  focus exact great_w (T := T) (p := p) (m := m) (by (exact byOm)) (hT.same (by (exact bySame)) (Nat.le_refl _)) (hp.same (by (exact bySame)) (Nat.le_refl _))
  rintro _ h2 ⟨b, rfl, -⟩ q2 n2
  cases b
  · (focus ((try with_reducible apply wpC.to); (repeat' ((conv => whnf); first | refine byEv ?_ | ((apply Fork.mk) <;> (intro _; try (exfalso; omega; done))) | ((apply q_call); (focus exact byNext); (focus exact byLo); (focus (first | exact kChartE0 | exact kChartV13 | exact kChartV12 | exact kChartV11 | exact kChartV10 | exact kChartRd1 | exact kChartRb0 | exact kChartY2 | exact kChartJ0 | exact kChartE0)); first | ((apply q_allB) <;> (intro z_b _ _ _; first | exact Bool.noConfusion z_b | replace z_b := of_decide_eq_true z_b | replace z_b := of_decide_eq_false z_b | skip) <;> (first | contradiction | (revert z_b; intros))) | ((apply q_alli) <;> (intro _ _ _ _; try contradiction)) | ((apply q_allv); intro _ _ _)) | fail)); all_goals (conv => whnf); all_goals (try with_reducible apply At.mk)))
    refine OpE.pure (.bool true) (xPure_eql (A := ⟨(T.vres p a).cells⟩) (B := ⟨(T.vres p a).cells⟩) rfl rfl rfl rfl rfl (by kernel_rfl) (eql_fr _)) ?_
    (focus ((try with_reducible apply wpC.to); (repeat' ((conv => whnf); first | refine byEv ?_ | ((apply Fork.mk) <;> (intro _; try (exfalso; omega; done))) | ((apply q_call); (focus exact byNext); (focus exact byLo); (focus (first | exact kChartE0 | exact kChartV13 | exact kChartV12 | exact kChartV11 | exact kChartV10 | exact kChartRd1 | exact kChartRb0 | exact kChartY2 | exact kChartJ0 | exact kChartE0)); first | ((apply q_allB) <;> (intro z_b _ _ _; first | exact Bool.noConfusion z_b | replace z_b := of_decide_eq_true z_b | replace z_b := of_decide_eq_false z_b | skip) <;> (first | contradiction | (revert z_b; intros))) | ((apply q_alli) <;> (intro _ _ _ _; try contradiction)) | ((apply q_allv); intro _ _ _)) | fail)); all_goals (conv => whnf); all_goals (try with_reducible apply At.mk)))
    refine OpE.pure (.bool true) (xPure_eql (A := ⟨(T.span a).1.cells ++ (T.span a).2.cells⟩) (B := ⟨(T.span a).1.cells ++ (T.span a).2.cells⟩) rfl rfl rfl rfl rfl (by kernel_rfl) (eql_span _ _)) ?_
    (focus ((try with_reducible apply wpC.to); (repeat' ((conv => whnf); first | refine byEv ?_ | ((apply Fork.mk) <;> (intro _; try (exfalso; omega; done))) | ((apply q_call); (focus exact byNext); (focus exact byLo); (focus (first | exact kChartE0 | exact kChartV13 | exact kChartV12 | exact kChartV11 | exact kChartV10 | exact kChartRd1 | exact kChartRb0 | exact kChartY2 | exact kChartJ0 | exact kChartE0)); first | ((apply q_allB) <;> (intro z_b _ _ _; first | exact Bool.noConfusion z_b | replace z_b := of_decide_eq_true z_b | replace z_b := of_decide_eq_false z_b | skip) <;> (first | contradiction | (revert z_b; intros))) | ((apply q_alli) <;> (intro _ _ _ _; try contradiction)) | ((apply q_allv); intro _ _ _)) | fail)); all_goals (conv => whnf); all_goals (try with_reducible apply At.mk)))
    (refine byFin ?_)
    rfl
  · (focus ((try with_reducible apply wpC.to); (repeat' ((conv => whnf); first | refine byEv ?_ | ((apply Fork.mk) <;> (intro _; try (exfalso; omega; done))) | ((apply q_call); (focus exact byNext); (focus exact byLo); (focus (first | exact kChartE0 | exact kChartV13 | exact kChartV12 | exact kChartV11 | exact kChartV10 | exact kChartRd1 | exact kChartRb0 | exact kChartY2 | exact kChartJ0 | exact kChartE0)); first | ((apply q_allB) <;> (intro z_b _ _ _; first | exact Bool.noConfusion z_b | replace z_b := of_decide_eq_true z_b | replace z_b := of_decide_eq_false z_b | skip) <;> (first | contradiction | (revert z_b; intros))) | ((apply q_alli) <;> (intro _ _ _ _; try contradiction)) | ((apply q_allv); intro _ _ _)) | fail)); all_goals (conv => whnf); all_goals (try with_reducible apply At.mk)))
    (refine byFin ?_)
    rfl
end AE.Try
