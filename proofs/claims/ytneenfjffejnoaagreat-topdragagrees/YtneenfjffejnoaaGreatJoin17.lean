/- Walks and plain laws: DragSpec2, TDragE, TDragF, TDragG. -/
import Derived.Test.YtneenfjffejnoaaGreatJoin16
import Derived.Test.YtneenfjffejnoaaGreatJoin19
set_option linter.unusedVariables false
set_option linter.unusedSimpArgs false
set_option linter.unusedSectionVars false

/- What drag computes, in plain words: tests, truths, coefficients. -/
namespace AE.Drag
open Go AE

structure T where
 speed : Int
 long : Int
 wet : Int
 alpha : Int
 fl : Int
 fh : Int
 tl : Int
 th : Int
 sl : Int
 sh : Int
 ml : Int
 mh : Int
 bl : Int
 bh : Int
 rl : Int
 rh : Int
def T.cells (t : T) : List Value := [.int .i64 t.speed, .int .i64 t.long, .int .i64 t.wet, .int .i64 t.alpha, .int .i64 t.fl, .int .i64 t.fh, .int .i64 t.tl, .int .i64 t.th, .int .i64 t.sl, .int .i64 t.sh, .int .i64 t.ml, .int .i64 t.mh, .int .i64 t.bl, .int .i64 t.bh, .int .i64 t.rl, .int .i64 t.rh]
structure X where
 force : Int
 tank : Int
 sea : Int
 form : Int
 block : Int
 rough : Int
def X.cells (x : X) : List Value := [.int .i64 x.force, .int .i64 x.tank, .int .i64 x.sea, .int .i64 x.form, .int .i64 x.block, .int .i64 x.rough]
inductive Known {α : Type} (a : α) : Prop
 | mk

structure T.Ok (t : T) : Prop where
 s1 : 1 ≤ t.speed
 s2 : t.speed ≤ 10000
 l1 : 1 ≤ t.long
 l2 : t.long ≤ 10000
 w1 : 1 ≤ t.wet
 w2 : t.wet ≤ 1000000
 a1 : 1 ≤ t.alpha
 a2 : t.alpha ≤ 10
 f1 : 0 ≤ t.fl
 f2 : t.fl ≤ t.fh
 f3 : t.fh ≤ 100000000
 t1 : 500 ≤ t.tl
 t2 : t.tl ≤ t.th
 t3 : t.th ≤ 3000
 e1 : 500 ≤ t.sl
 e2 : t.sl ≤ t.sh
 e3 : t.sh ≤ 3000
 m1 : 0 ≤ t.ml
 m2 : t.ml ≤ t.mh
 m3 : t.mh ≤ 1000
 b1 : 0 ≤ t.bl
 b2 : t.bl ≤ t.bh
 b3 : t.bh ≤ 200
 r1 : 0 ≤ t.rl
 r2 : t.rl ≤ t.rh
 r3 : t.rh ≤ 2000
open Classical in
noncomputable def testErr (t : T) : Int := if t.Ok then 0 else 2
theorem testErr_ok {t : T} : testErr t = 0 ↔ t.Ok := by
 unfold testErr; split <;> simp_all
theorem testErr_0 {t : T} (h : t.Ok) : testErr t = 0 := testErr_ok.2 h
theorem testErr_2 {t : T} (h : ¬ t.Ok) : testErr t = 2 := by unfold testErr; rw [if_neg h]

structure IsTrue (t : T) (x : X) : Prop where
 f1 : t.fl ≤ x.force
 f2 : x.force ≤ t.fh
 t1 : t.tl ≤ x.tank
 t2 : x.tank ≤ t.th
 e1 : t.sl ≤ x.sea
 e2 : x.sea ≤ t.sh
 m1 : t.ml ≤ x.form
 m2 : x.form ≤ t.mh
 b1 : t.bl ≤ x.block
 b2 : x.block ≤ t.bh
 r1 : t.rl ≤ x.rough
 r2 : x.rough ≤ t.rh

noncomputable instance (t : T) (x : X) : Decidable (IsTrue t x) := Classical.propDecidable _
def modelRe (t : T) (w : Int) : Int := t.speed * t.long / w
def shipRe (t : T) (w : Int) : Int := t.speed * t.long * t.alpha * t.alpha * t.alpha / w
def measured (t : T) (f : Int) : Int := min 1000000000 (20000000000 * f / (t.wet * t.speed * t.speed))
def coefOf (t : T) (x : X) (f g : Int) : Int := measured t x.force * (1000 - x.block) / 1000 - (1000 + x.form) * f / 1000 + (1000 + x.form) * g / 1000 + x.rough
def coef (t : T) (L : Line) (x : X) : Int := coefOf t x (fric L (modelRe t x.tank)) (fric L (shipRe t x.sea))

structure T.Prod (t : T) : Prop where
 p1 : 0 ≤ t.speed * t.long
 p2 : t.speed * t.long ≤ 100000000
 p3 : 0 ≤ t.speed * t.long * t.alpha
 p4 : t.speed * t.long * t.alpha ≤ 1000000000
 p5 : 0 ≤ t.speed * t.long * t.alpha * t.alpha
 p6 : t.speed * t.long * t.alpha * t.alpha ≤ 10000000000
 p7 : 0 ≤ t.speed * t.long * t.alpha * t.alpha * t.alpha
 p8 : t.speed * t.long * t.alpha * t.alpha * t.alpha ≤ 100000000000
 q1 : 1 ≤ t.wet * t.speed
 q2 : t.wet * t.speed ≤ 10000000000
 q3 : 1 ≤ t.wet * t.speed * t.speed
 q4 : t.wet * t.speed * t.speed ≤ 100000000000000
theorem T.Ok.prod {t : T} (k : t.Ok) : t.Prod := by
 obtain ⟨s1, s2, l1, l2, w1, w2, a1, a2, -⟩ := k
 have p1 : 0 ≤ t.speed * t.long := Int.mul_nonneg byO byO
 have p2 : t.speed * t.long ≤ 10000 * 10000 := Int.mul_le_mul s2 l2 byO byO
 have p3 : 0 ≤ t.speed * t.long * t.alpha := Int.mul_nonneg byO byO
 have p4 : t.speed * t.long * t.alpha ≤ 100000000 * 10 := Int.mul_le_mul byO a2 byO byO
 have p5 : 0 ≤ t.speed * t.long * t.alpha * t.alpha := Int.mul_nonneg byO byO
 have p6 : t.speed * t.long * t.alpha * t.alpha ≤ 1000000000 * 10 := Int.mul_le_mul byO a2 byO byO
 have p7 : 0 ≤ t.speed * t.long * t.alpha * t.alpha * t.alpha := Int.mul_nonneg byO byO
 have p8 : t.speed * t.long * t.alpha * t.alpha * t.alpha ≤ 10000000000 * 10 := Int.mul_le_mul byO a2 byO byO
 have q1 : 1 * 1 ≤ t.wet * t.speed := Int.mul_le_mul w1 s1 byO byO
 have q2 : t.wet * t.speed ≤ 1000000 * 10000 := Int.mul_le_mul w2 s2 byO byO
 have q3 : 1 * 1 ≤ t.wet * t.speed * t.speed := Int.mul_le_mul byO s1 byO byO
 have q4 : t.wet * t.speed * t.speed ≤ 10000000000 * 10000 := Int.mul_le_mul byO s2 byO byO
 exact ⟨p1, by omega, p3, by omega, p5, by omega, p7, by omega, by omega, by omega, by omega, by omega⟩
theorem measured_bd {t : T} (k : t.Ok) {f : Int} (h0 : 0 ≤ f) : 0 ≤ measured t f ∧ measured t f ≤ 1000000000 := by
 have := k.prod.q3
 have : 0 ≤ 20000000000 * f / (t.wet * t.speed * t.speed) := Int.ediv_nonneg byO byO
 unfold measured
 omega


structure X.Bd (x : X) : Prop where
 f1 : 0 ≤ x.force
 f2 : x.force ≤ 100000000
 t1 : 500 ≤ x.tank
 e1 : 500 ≤ x.sea
 m1 : 0 ≤ x.form
 m2 : x.form ≤ 1000
 b1 : 0 ≤ x.block
 b2 : x.block ≤ 200
 r1 : 0 ≤ x.rough
 r2 : x.rough ≤ 2000
theorem IsTrue.bd {t : T} {x : X} (k : t.Ok) (h : IsTrue t x) : x.Bd := by
 obtain ⟨s1, s2, l1, l2, w1, w2, a1, a2, f1, f2, f3, t1, t2, t3, e1, e2, e3, m1, m2, m3, b1, b2, b3, r1, r2, r3⟩ := k
 obtain ⟨x1, x2, x3, x4, x5, x6, x7, x8, x9, x10, x11, x12⟩ := h
 constructor <;> omega
structure Parts (t : T) (x : X) (f g : Int) : Prop where
 m0 : 0 ≤ 20000000000 * x.force / (t.wet * t.speed * t.speed)
 m1 : 0 ≤ measured t x.force
 m2 : measured t x.force ≤ 1000000000
 c0 : 0 ≤ measured t x.force * (1000 - x.block)
 c1 : measured t x.force * (1000 - x.block) ≤ 1000000000000
 f0 : 0 ≤ (1000 + x.form) * f
 f1 : (1000 + x.form) * f ≤ 200000000
 g0 : 0 ≤ (1000 + x.form) * g
 g1 : (1000 + x.form) * g ≤ 200000000
theorem parts_of {t : T} (k : t.Ok) {x : X} (b : x.Bd) {f g : Int} (hf : 0 ≤ f ∧ f ≤ 100000) (hg : 0 ≤ g ∧ g ≤ 100000) : Parts t x f g := by
 obtain ⟨b1, b2, b3, b4, b5, b6, b7, b8, b9, b10⟩ := b
 have q3 := k.prod.q3
 have m := measured_bd k b1
 have c1 : measured t x.force * (1000 - x.block) ≤ 1000000000 * 1000 := Int.mul_le_mul m.2 byO byO byO
 have f1 : (1000 + x.form) * f ≤ 2000 * 100000 := Int.mul_le_mul byO hf.2 hf.1 byO
 have g1 : (1000 + x.form) * g ≤ 2000 * 100000 := Int.mul_le_mul byO hg.2 hg.1 byO
 exact ⟨Int.ediv_nonneg byO byO, m.1, m.2, Int.mul_nonneg m.1 byO, by omega, Int.mul_nonneg byO hf.1, by omega, Int.mul_nonneg byO hg.1, by omega⟩
theorem coefOf_bd {t : T} (k : t.Ok) {x : X} (b : x.Bd) {f g : Int} (hf : 0 ≤ f ∧ f ≤ 100000) (hg : 0 ≤ g ∧ g ≤ 100000) : -200000 ≤ coefOf t x f g ∧ coefOf t x f g ≤ 1000202000 := by
 obtain ⟨m0, m1, m2, c0, c1, f0, f1, g0, g1⟩ := parts_of k b hf hg
 obtain ⟨b1, b2, b3, b4, b5, b6, b7, b8, b9, b10⟩ := b
 unfold coefOf
 omega
def both (t : T) (L : Line) (x : X) : Prop := inside L (modelRe t x.tank) ∧ inside L (shipRe t x.sea)
instance (t : T) (L : Line) (x : X) : Decidable (both t L x) := by unfold both; infer_instance
end AE.Drag

/- Walks of drag and its reference: tests. -/
namespace AE.Tryz
open Go AE AE.Drag Go.Proofs
set_option maxRecDepth 100000

set_option maxHeartbeats 1000000 in
theorem checkTest_w {h : H} {t : T} (_ : Known t) : AW Tryz.prog 123 h.next h [.agg ⟨t.cells⟩] (fun w _ => w = .int .i64 (testErr t)) := by
 refine fun123.call rfl (Nat.le_refl _) ?_
 unfold a123
 (focus ((try with_reducible apply wpC.to); (repeat' ((conv => whnf); first | refine byEv ?_ | ((apply q_call); (focus exact byNext); (focus exact byLo); (focus (first | exact kTDragD0 | exact kTDragC6 | exact kTDragB0 | exact kTDragA2)); first | ((apply q_allB) <;> (intro z_b _ _ _; first | exact Bool.noConfusion z_b | replace z_b := of_decide_eq_true z_b | replace z_b := of_decide_eq_false z_b | skip) <;> ((try simp only [AllOk, Bd.ok, and_true] at z_b); first | contradiction | (revert z_b; intros))) | ((apply q_alli) <;> intro _ _ _ _ <;> try contradiction) | (apply q_allv; intro _ _ _)) | (apply q_call; (focus exact byNext); (focus omega); (focus exact bounds_w); rintro _ z_h1 ⟨z_r, z_e, z_hr1, z_hr2, z_hg⟩ z_q z_hn; subst z_e; (try simp only [put_next, bump_next] at z_hr1); revert z_hn z_q z_hg z_hr2 z_hr1 z_r z_h1; intros) | fail)); all_goals ((conv => whnf); try with_reducible apply At.mk)))
 ·(refine byFin ?_)
  refine int_of rfl (testErr_0 ⟨?_, ?_, ?_, ?_, ?_, ?_, ?_, ?_, ?_, ?_, ?_, ?_, ?_, ?_, ?_, ?_, ?_, ?_, ?_, ?_, ?_, ?_, ?_, ?_, ?_, ?_⟩).symm <;> omega
 ·(refine byFin ?_)
  refine int_of rfl (testErr_2 fun k => ?_).symm
  have := k.s1; have := k.s2; have := k.l1; have := k.l2; have := k.w1; have := k.w2; have := k.a1; have := k.a2; have := k.f1; have := k.f2; have := k.f3; have := k.t1; have := k.t2; have := k.t3
  have := k.e1; have := k.e2; have := k.e3; have := k.m1; have := k.m2; have := k.m3; have := k.b1; have := k.b2; have := k.b3; have := k.r1; have := k.r2; have := k.r3
  omega
theorem kTDragE0 {G : Prop} (g : G := by ((apply AW.arg1; (focus (apply checkTest_w; (focus assumption))); (focus exact Is.rfl)))) : G := g
set_option maxHeartbeats 1000000 in
theorem refCheckTest_w {h : H} {t : T} (_ : Known t) : AW Tryz.prog 21 h.next h [.agg ⟨t.cells⟩] (fun w _ => w = .int .i64 (testErr t)) := by
 refine fun21.call rfl (Nat.le_refl _) ?_
 unfold a21
 (focus ((try with_reducible apply wpC.to); (repeat' ((conv => whnf); first | refine byEv ?_ | ((apply q_call); (focus exact byNext); (focus exact byLo); (focus (first | exact kTDragD0 | exact kTDragC6 | exact kTDragA1 | exact kTDragA0)); first | ((apply q_allB) <;> (intro z_b _ _ _; first | exact Bool.noConfusion z_b | replace z_b := of_decide_eq_true z_b | replace z_b := of_decide_eq_false z_b | skip) <;> ((try simp only [AllOk, Bd.ok, and_true] at z_b); first | contradiction | (revert z_b; intros))) | ((apply q_alli) <;> intro _ _ _ _ <;> try contradiction) | (apply q_allv; intro _ _ _)) | fail)); all_goals ((conv => whnf); try with_reducible apply At.mk)))
 all_goals (refine byFin ?_)
 all_goals first
  | (refine int_of rfl (testErr_2 fun k => ?_).symm
     have := k.s1; have := k.s2; have := k.l1; have := k.l2; have := k.w1; have := k.w2; have := k.a1; have := k.a2; have := k.f1; have := k.f2; have := k.f3; have := k.t1; have := k.t2; have := k.t3
     have := k.e1; have := k.e2; have := k.e3; have := k.m1; have := k.m2; have := k.m3; have := k.b1; have := k.b2; have := k.b3; have := k.r1; have := k.r2; have := k.r3
     omega)
  | (refine int_of rfl (testErr_0 ⟨?_, ?_, ?_, ?_, ?_, ?_, ?_, ?_, ?_, ?_, ?_, ?_, ?_, ?_, ?_, ?_, ?_, ?_, ?_, ?_, ?_, ?_, ?_, ?_, ?_, ?_⟩).symm <;> omega)
theorem kTDragE1 {G : Prop} (g : G := by ((apply AW.arg1; (focus (apply refCheckTest_w; (focus assumption))); (focus exact Is.rfl)))) : G := g
end AE.Tryz

/- Walks of drag and its reference: Reynolds numbers, coefficients. -/
namespace AE.Tryz
open Go AE AE.Drag Go.Proofs
set_option maxRecDepth 100000

theorem model_w {h : H} {t : T} {w : Int} (k : t.Ok) (hw : 500 ≤ w) : AW Tryz.prog 218 h.next h [.agg ⟨t.cells⟩, .int .i64 w] (fun v _ => v = .int .i64 (modelRe t w)) := by
 have p := k.prod; have := p.p1; have := p.p2
 refine fun218.call rfl (Nat.le_refl _) ?_
 unfold a218
 (focus ((try with_reducible apply wpC.to); (repeat' ((conv => whnf); first | refine byEv ?_ | fail)); all_goals ((conv => whnf); try with_reducible apply At.mk)))
 all_goals ((refine byFin ?_); rfl)
theorem ship_w {h : H} {t : T} {w : Int} (k : t.Ok) (hw : 500 ≤ w) : AW Tryz.prog 219 h.next h [.agg ⟨t.cells⟩, .int .i64 w] (fun v _ => v = .int .i64 (shipRe t w)) := by
 obtain ⟨p1, p2, p3, p4, p5, p6, p7, p8, p9⟩ := k.prod
 refine fun219.call rfl (Nat.le_refl _) ?_
 unfold a219
 (focus ((try with_reducible apply wpC.to); (repeat' ((conv => whnf); first | refine byEv ?_ | fail)); all_goals ((conv => whnf); try with_reducible apply At.mk)))
 all_goals ((refine byFin ?_); rfl)
theorem kTDragF0 {G : Prop} (g : G := by ((apply AW.arg1; (focus (apply model_w; (focus assumption); (focus omega))); (focus exact Is.rfl)))) : G := g
theorem kTDragF1 {G : Prop} (g : G := by ((apply AW.arg1; (focus (apply ship_w; (focus assumption); (focus omega))); (focus exact Is.rfl)))) : G := g
theorem kTDragF2 {G : Prop} (g : G := by ((apply AW.arg1; (focus (apply numbers_w; (focus assumption); (focus omega); (focus omega))); (focus exact Is.rfl)))) : G := g
def reynL (t : T) : List Value := [.int .i64 (modelRe t t.th), .int .i64 (modelRe t t.tl), .int .i64 (shipRe t t.sh), .int .i64 (shipRe t t.sl)]
theorem reynolds_w {h : H} {t : T} (k : t.Ok) : AW Tryz.prog 214 h.next h [.agg ⟨t.cells⟩] (fun v _ => v = .agg ⟨reynL t⟩) := by
 have := k.t1; have := k.t2; have := k.e1; have := k.e2
 refine fun214.call rfl (Nat.le_refl _) ?_
 unfold a214
 (focus ((try with_reducible apply wpC.to); (repeat' ((conv => whnf); first | refine byEv ?_ | ((apply q_call); (focus exact byNext); (focus exact byLo); (focus (first | exact kTDragF2 | exact kTDragF1 | exact kTDragF0 | exact kTDragD0 | exact kTDragC6)); first | ((apply q_allB) <;> (intro z_b _ _ _; first | exact Bool.noConfusion z_b | replace z_b := of_decide_eq_true z_b | replace z_b := of_decide_eq_false z_b | skip) <;> ((try simp only [AllOk, Bd.ok, and_true] at z_b); first | contradiction | (revert z_b; intros))) | ((apply q_alli) <;> intro _ _ _ _ <;> try contradiction) | (apply q_allv; intro _ _ _)) | fail)); all_goals ((conv => whnf); try with_reducible apply At.mk)))
 all_goals ((refine byFin ?_); rfl)
theorem kTDragF3 {G : Prop} (g : G := by ((apply AW.arg1; (focus (apply reynolds_w; (focus assumption))); (focus exact Is.rfl)))) : G := g
theorem kTDragF4 {G : Prop} (g : G := by ((apply AW.arg1; (focus (apply refMeasured_w; (focus assumption); (focus omega); (focus omega))); (focus exact Is.rfl)))) : G := g
theorem kTDragF5 {G : Prop} (g : G := by ((apply AW.arg12; (focus (apply isTrue_w; (focus assumption); (focus assumption))); (focus exact Is.rfl); (focus exact Is.rfl)))) : G := g
theorem coef1_w {h : H} {L : Line} {x : X} {m rx rf : Nat} {re : Int} (hm : m ≤ h.next) (hL : L.Ok m h) (v : Valid L) (hb : x.Bd) (hin : inside L re) (hx : h.get rx = some (.cells x.cells 139)) (hf : h.get rf = some (.cells [.func (.func 216) ⟨[.agg ⟨L.cells⟩]⟩ ⟨[]⟩] 215)) :
 AW Tryz.prog 217 h.next h [.int .i64 re, .pointer (some ⟨rx, 0, none⟩), .pointer (some ⟨rf, 0, none⟩)] (fun w _ => w = .int .i64 ((1000 + x.form) * fric L re / 1000)) := by
 have f := fric_bd v hin
 obtain ⟨b1, b2, b3, b4, b5, b6, b7, b8, b9, b10⟩ := hb
 have f1 : (1000 + x.form) * fric L re ≤ 2000 * 100000 := Int.mul_le_mul byO f.2 f.1 byO
 have f0 : 0 ≤ (1000 + x.form) * fric L re := Int.mul_nonneg byO f.1
 unfold X.cells at hx
 refine fun217.call rfl (Nat.le_refl _) ?_
 unfold a217
 (focus ((try with_reducible apply wpC.to); (repeat' ((conv => whnf); first | refine byEv ?_ | ((apply q_call); (focus exact byNext); (focus exact byLo); (focus (first | exact kTDragF5 | exact kTDragF4 | exact kTDragF2 | exact kTDragD0 | exact kTDragC7 | exact kTDragC6)); first | ((apply q_allB) <;> (intro z_b _ _ _; first | exact Bool.noConfusion z_b | replace z_b := of_decide_eq_true z_b | replace z_b := of_decide_eq_false z_b | skip) <;> ((try simp only [AllOk, Bd.ok, and_true] at z_b); first | contradiction | (revert z_b; intros))) | ((apply q_alli) <;> intro _ _ _ _ <;> try contradiction) | (apply q_allv; intro _ _ _)) | fail)); all_goals ((conv => whnf); try with_reducible apply At.mk)))
 all_goals ((refine byFin ?_); rfl)
end AE.Tryz

/- Walks of drag and its reference: the coefficient of a ship. -/
namespace AE.Tryz
open Go AE AE.Drag Go.Proofs
set_option maxRecDepth 100000
theorem kTDragG0 {G : Prop} (g : G := by ((apply coef1_w; rotate_left; (focus (apply Line.Ok.same; (focus assumption); (focus exact bySame); (focus exact Nat.le_refl _))); (focus assumption); (focus assumption); (focus assumption); (focus exact byGet); (focus exact byGet); (focus exact byOm)))) : G := g
set_option maxHeartbeats 1000000 in
theorem coef_w {h : H} {t : T} {L : Line} {x : X} {m : Nat} (hm : m ≤ h.next) (k : t.Ok) (hL : L.Ok m h) (v : Valid L) (hb : x.Bd) (i1 : inside L (modelRe t x.tank)) (i2 : inside L (shipRe t x.sea)) :
 AW Tryz.prog 128 h.next h [.agg ⟨t.cells⟩, .agg ⟨L.cells⟩, .agg ⟨x.cells⟩] (fun w _ => w = .int .i64 (coef t L x)) := by
 obtain ⟨p1, p2, p3, p4, p5, p6, p7, p8, q1, q2, q3, q4⟩ := k.prod
 have hb' := hb
 obtain ⟨b1, b2, b3, b4, b5, b6, b7, b8, b9, b10⟩ := hb'
 obtain ⟨m0, m1, m2, c0, c1, f0, f1, g0, g1⟩ := parts_of k hb (fric_bd v i1) (fric_bd v i2)
 unfold measured at m1 m2 c0 c1
 refine fun128.call rfl (Nat.le_refl _) ?_
 unfold a128
 (focus ((try with_reducible apply wpC.to); (repeat' ((conv => whnf); first | refine byEv ?_ | ((apply q_call); (focus exact byNext); (focus exact byLo); (focus (first | exact kTDragG0 | exact kTDragF5 | exact kTDragF4 | exact kTDragF2 | exact kTDragF1 | exact kTDragF0 | exact kTDragD0 | exact kTDragC7 | exact kTDragC6)); first | ((apply q_allB) <;> (intro z_b _ _ _; first | exact Bool.noConfusion z_b | replace z_b := of_decide_eq_true z_b | replace z_b := of_decide_eq_false z_b | skip) <;> ((try simp only [AllOk, Bd.ok, and_true] at z_b); first | contradiction | (revert z_b; intros))) | ((apply q_alli) <;> intro _ _ _ _ <;> try contradiction) | (apply q_allv; intro _ _ _)) | fail)); all_goals ((conv => whnf); try with_reducible apply At.mk)))
 all_goals ((refine byFin ?_); rfl)
theorem kTDragG1 {G : Prop} (g : G := by ((apply AW.arg123; (focus (apply coef_w; rotate_left; (focus assumption); (focus (apply Line.Ok.same; (focus assumption); (focus exact bySame); (focus exact Nat.le_refl _))); (focus assumption); (focus assumption); (focus assumption); (focus assumption); (focus exact byOm))); (focus exact Is.rfl); (focus exact Is.rfl); (focus exact Is.rfl)))) : G := g
theorem kTDragG2 {G : Prop} (g : G := by ((apply AW.arg123; (focus (apply refShip_w; rotate_left; (focus assumption); (focus (apply Line.Ok.same; (focus assumption); (focus exact bySame); (focus exact Nat.le_refl _))); (focus assumption); (focus assumption); (focus exact byOm))); (focus exact Is.rfl); (focus exact Is.rfl); (focus exact Is.rfl)))) : G := g
end AE.Tryz
