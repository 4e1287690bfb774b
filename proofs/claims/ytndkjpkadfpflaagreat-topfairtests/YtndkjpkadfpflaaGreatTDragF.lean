/- Walks of drag and its reference: Reynolds numbers, coefficients. -/
import Derived.Test.YtndkjpkadfpflaaGreatTDragE
set_option linter.unusedVariables false
set_option linter.unusedSimpArgs false
set_option linter.unusedSectionVars false
namespace AE.Tryz
open Go AE AE.Drag Go.Proofs
set_option maxRecDepth 100000

theorem model_w {h : H} {t : T} {w : Int} (k : t.Ok) (hw : 500 ≤ w) : AW Tryz.prog 71 h.next h [.agg ⟨t.cells⟩, .int .i64 w] (fun v _ => v = .int .i64 (modelRe t w)) := by
  have p := k.prod; have := p.p1; have := p.p2
  refine fun71.call rfl (Nat.le_refl _) ?_
  unfold a71
  (focus ((try with_reducible apply wpC.to); (repeat' ((conv => whnf); first | refine byEv ?_ | fail)); all_goals ((conv => whnf); try with_reducible apply At.mk)))
  all_goals ((refine byFin ?_); rfl)
theorem ship_w {h : H} {t : T} {w : Int} (k : t.Ok) (hw : 500 ≤ w) : AW Tryz.prog 72 h.next h [.agg ⟨t.cells⟩, .int .i64 w] (fun v _ => v = .int .i64 (shipRe t w)) := by
  obtain ⟨p1, p2, p3, p4, p5, p6, p7, p8, p9⟩ := k.prod
  refine fun72.call rfl (Nat.le_refl _) ?_
  unfold a72
  (focus ((try with_reducible apply wpC.to); (repeat' ((conv => whnf); first | refine byEv ?_ | fail)); all_goals ((conv => whnf); try with_reducible apply At.mk)))
  all_goals ((refine byFin ?_); rfl)
theorem kTDragF0 {G : Prop} (g : G := by ((apply AW.arg1; (focus (apply model_w; (focus assumption); (focus omega))); (focus exact Is.rfl)))) : G := g
theorem kTDragF1 {G : Prop} (g : G := by ((apply AW.arg1; (focus (apply ship_w; (focus assumption); (focus omega))); (focus exact Is.rfl)))) : G := g
theorem numbers_w {h : H} {t : T} {tank sea : Int} (k : t.Ok) (h1 : 500 ≤ tank) (h2 : 500 ≤ sea) : AW Tryz.prog 125 h.next h [.agg ⟨t.cells⟩, .int .i64 tank, .int .i64 sea] (fun v _ => v = .tuple #[.int .i64 (modelRe t tank), .int .i64 (shipRe t sea)]) := by
  obtain ⟨p1, p2, p3, p4, p5, p6, p7, p8, p9⟩ := k.prod
  refine fun125.call rfl (Nat.le_refl _) ?_
  unfold a125
  (focus ((try with_reducible apply wpC.to); (repeat' ((conv => whnf); first | refine byEv ?_ | fail)); all_goals ((conv => whnf); try with_reducible apply At.mk)))
  all_goals ((refine byFin ?_); rfl)
theorem kTDragF2 {G : Prop} (g : G := by ((apply AW.arg1; (focus (apply numbers_w; (focus assumption); (focus omega); (focus omega))); (focus exact Is.rfl)))) : G := g
def reynL (t : T) : List Value := [.int .i64 (modelRe t t.th), .int .i64 (modelRe t t.tl), .int .i64 (shipRe t t.sh), .int .i64 (shipRe t t.sl)]
theorem reynolds_w {h : H} {t : T} (k : t.Ok) : AW Tryz.prog 75 h.next h [.agg ⟨t.cells⟩] (fun v _ => v = .agg ⟨reynL t⟩) := by
  have := k.t1; have := k.t2; have := k.e1; have := k.e2
  refine fun75.call rfl (Nat.le_refl _) ?_
  unfold a75
  (focus ((try with_reducible apply wpC.to); (repeat' ((conv => whnf); first | refine byEv ?_ | ((apply q_call); (focus exact byNext); (focus exact byLo); (focus (first | exact kTDragF1 | exact kTDragF0 | exact kTDragD0)); first | ((apply q_allB) <;> (intro z_b _ _ _; first | exact Bool.noConfusion z_b | replace z_b := of_decide_eq_true z_b | replace z_b := of_decide_eq_false z_b | skip) <;> ((try simp only [AllOk, Bd.ok, and_true] at z_b); first | contradiction | (revert z_b; intros))) | ((apply q_alli) <;> intro _ _ _ _ <;> try contradiction) | (apply q_allv; intro _ _ _)) | fail)); all_goals ((conv => whnf); try with_reducible apply At.mk)))
  all_goals ((refine byFin ?_); rfl)
theorem kTDragF3 {G : Prop} (g : G := by ((apply AW.arg1; (focus (apply reynolds_w; (focus assumption))); (focus exact Is.rfl)))) : G := g
/-- Reynolds' answer: the ends of both ranges, the error. -/
noncomputable def reynR (t : T) : Int × Int × Int × Int × Int := if testErr t = 0 then (modelRe t t.th, modelRe t t.tl, shipRe t t.sh, shipRe t t.sl, 0) else (0, 0, 0, 0, testErr t)
noncomputable def reynV (t : T) : Value := .tuple #[.agg ⟨[.int .i64 (reynR t).1, .int .i64 (reynR t).2.1]⟩, .agg ⟨[.int .i64 (reynR t).2.2.1, .int .i64 (reynR t).2.2.2.1]⟩, .int .i64 (reynR t).2.2.2.2]
theorem refReynolds_api {h : H} {t : T} (kn : Known t) : AW Tryz.prog 63 h.next h [.agg ⟨t.cells⟩] (fun v _ => v = reynV t) := by
  refine fun63.call rfl (Nat.le_refl _) ?_
  unfold a63 reynV reynR
  by_cases he : testErr t = 0
  · have k := testErr_ok.1 he
    have := k.t1; have := k.t2; have := k.e1; have := k.e2
    rw [if_pos he]
    (focus ((try with_reducible apply wpC.to); (repeat' ((conv => whnf); first | refine byEv ?_ | (apply Fork.mk <;> (intro _; try (exfalso; omega))) | ((apply q_call); (focus exact byNext); (focus exact byLo); (focus (first | exact kTDragF2 | exact kTDragE1 | exact kTDragD0)); first | ((apply q_allB) <;> (intro z_b _ _ _; first | exact Bool.noConfusion z_b | replace z_b := of_decide_eq_true z_b | replace z_b := of_decide_eq_false z_b | skip) <;> ((try simp only [AllOk, Bd.ok, and_true] at z_b); first | contradiction | (revert z_b; intros))) | ((apply q_alli) <;> intro _ _ _ _ <;> try contradiction) | (apply q_allv; intro _ _ _)) | fail)); all_goals ((conv => whnf); try with_reducible apply At.mk)))
    all_goals ((refine byFin ?_); rfl)
  · rw [if_neg he]
    (focus ((try with_reducible apply wpC.to); (repeat' ((conv => whnf); first | refine byEv ?_ | (apply Fork.mk <;> (intro _; try (exfalso; omega))) | ((apply q_call); (focus exact byNext); (focus exact byLo); (focus (first | exact kTDragF2 | exact kTDragE1 | exact kTDragD0)); first | ((apply q_allB) <;> (intro z_b _ _ _; first | exact Bool.noConfusion z_b | replace z_b := of_decide_eq_true z_b | replace z_b := of_decide_eq_false z_b | skip) <;> ((try simp only [AllOk, Bd.ok, and_true] at z_b); first | contradiction | (revert z_b; intros))) | ((apply q_alli) <;> intro _ _ _ _ <;> try contradiction) | (apply q_allv; intro _ _ _)) | fail)); all_goals ((conv => whnf); try with_reducible apply At.mk)))
    all_goals ((refine byFin ?_); rfl)

theorem kTDragF4 {G : Prop} (g : G := by ((apply AW.arg1; (focus (apply refMeasured_w; (focus assumption); (focus omega); (focus omega))); (focus exact Is.rfl)))) : G := g
theorem kTDragF5 {G : Prop} (g : G := by ((apply AW.arg12; (focus (apply isTrue_w; (focus assumption); (focus assumption))); (focus exact Is.rfl); (focus exact Is.rfl)))) : G := g
theorem coef1_w {h : H} {L : Line} {x : X} {m rx rf : Nat} {re : Int} (hm : m ≤ h.next) (hL : L.Ok m h) (v : Valid L) (hb : x.Bd) (hin : inside L re) (hx : h.get rx = some (.cells x.cells 77)) (hf : h.get rf = some (.cells [.func (.func 58) ⟨[.agg ⟨L.cells⟩]⟩ ⟨[]⟩] 108)) :
    AW Tryz.prog 131 h.next h [.int .i64 re, .pointer (some ⟨rx, 0, none⟩), .pointer (some ⟨rf, 0, none⟩)] (fun w _ => w = .int .i64 ((1000 + x.form) * fric L re / 1000)) := by
  have f := fric_bd v hin
  obtain ⟨b1, b2, b3, b4, b5, b6, b7, b8, b9, b10⟩ := hb
  have f1 : (1000 + x.form) * fric L re ≤ 2000 * 100000 := Int.mul_le_mul (by omega) f.2 f.1 (by omega)
  have f0 : 0 ≤ (1000 + x.form) * fric L re := Int.mul_nonneg (by omega) f.1
  unfold X.cells at hx
  refine fun131.call rfl (Nat.le_refl _) ?_
  unfold a131
  (focus ((try with_reducible apply wpC.to); (repeat' ((conv => whnf); first | refine byEv ?_ | ((apply q_call); (focus exact byNext); (focus exact byLo); (focus (first | exact kTDragF5 | exact kTDragF4 | exact kTDragD0 | exact kTDragC7)); first | ((apply q_allB) <;> (intro z_b _ _ _; first | exact Bool.noConfusion z_b | replace z_b := of_decide_eq_true z_b | replace z_b := of_decide_eq_false z_b | skip) <;> ((try simp only [AllOk, Bd.ok, and_true] at z_b); first | contradiction | (revert z_b; intros))) | ((apply q_alli) <;> intro _ _ _ _ <;> try contradiction) | (apply q_allv; intro _ _ _)) | fail)); all_goals ((conv => whnf); try with_reducible apply At.mk)))
  all_goals ((refine byFin ?_); rfl)
end AE.Tryz
