/- Walks and plain laws: SpanZu, SpanYeither. -/
import Derived.Test.YtkkndecbijgolaaSpanYruns
set_option linter.unusedVariables false
set_option linter.unusedSimpArgs false
set_option linter.unusedSectionVars false

/- Walks of the laws of spans: what is known of least values. -/
namespace AE.Try
open Go AE Go.Proofs AE.Sp
set_option maxRecDepth 100000
set_option linter.unusedVariables false

theorem kSpanZu0 {G G' : Prop} (g : G') (t : G' → G := by ((apply q_call); (focus exact byNext); (focus exact byLo); (focus ((apply works_l))))) : G := t g
theorem kSpanZu2 {G G' : Prop} (g : G') (t : G' → G := by ((apply q_call); (focus exact byNext); (focus exact byLo); (focus ((apply fine_l; rotate_left; (focus (apply Runs.Ok.same; (focus assumption); (focus exact bySame); (focus exact Nat.le_refl _))); (focus exact byOm)))))) : G := t g

/-- What is known of a least value that there is. -/
structure LvOk (L : Runs) (p q N D : Int) : Prop where
  k : Lst L p q N D
  e : L.lval p q = fr N D
  d : 0 < D ∧ D ≤ 800
  n : -160000000 ≤ N ∧ N ≤ 160000000
theorem LvOk.rng {L : Runs} {p q N D : Int} (k : LvOk L p q N D) : (0 < (L.lval p q).d ∧ (L.lval p q).d ≤ 800) ∧ -160000000 ≤ (L.lval p q).n ∧ (L.lval p q).n ≤ 160000000 := by
  rw [k.e]
  exact fr_rng k.d k.n
theorem fit_cl {L : Runs} {t : Tru} (hf : L.fitErr t = 0) : L.Cl := by
  obtain ⟨e1, tv, hf⟩ := Runs.fit_0 hf
  exact (cl_iff (L.err_0 e1).2).2 ⟨t, by have := tv.d; omega, hf⟩
end AE.Try

/- Walks of the laws of spans: SpanEither. -/
namespace AE.Try
open Go AE Go.Proofs AE.Sp
set_option maxRecDepth 100000
set_option linter.unusedVariables false

theorem num_np {n d : Int} (hd : 0 < d) (h : n ≤ 0) : (fr n d).n ≤ 0 := by
  obtain ⟨-, g, hg, e, -⟩ := fr_of (n := n) hd
  exact np_of_mul hg (by rw [Int.mul_comm]; omega)
open Classical in
set_option maxHeartbeats 16000000 in
theorem either_law {h : H} {L : Runs} {G : PSs} {t : Tru} {m : Nat} {gm : Int} (hm : m ≤ h.next) (hL : L.Ok m h) (hG : G.Ok m h) : AW Try.prog 7 h.next h [.slice L.b L.n L.c, .agg ⟨t.cells⟩, .agg ⟨[.slice G.b G.n G.c, .int .i64 gm]⟩] (fun v _ => v = .bool true) := by
  have ll := hL.l
  have gl := hG.l
  refine fun7.call rfl (Nat.le_refl _) ?_
  unfold a7 Tru.cells
  by_cases e2 : L.err2 0 0 ≠ 0
  · (focus ((try with_reducible apply wpC.to); (repeat' ((conv => whnf); first | refine byEv ?_ | ((apply Fork.mk) <;> (intro _; try (exfalso; omega; done))) | ((first | refine kSpanZu2 ?_ | refine kSpanZu0 ?_ | refine kSpanC2 ?_ | refine kSpanC0 ?_); first | ((first | apply q_allD | apply q_alli | apply q_allB) <;> (intro _ _ _ _; try contradiction)) | ((apply q_allv); intro _ _ _)) | refine xSpanC0 ?_ | refine xSpanB1 ?_ | refine xSpanB0 ?_ | fail)); all_goals (conv => whnf); all_goals (try with_reducible apply At.mk)))
    (refine byFin ?_)
    rfl
  have e2 : L.err2 0 0 = 0 := by omega
  obtain ⟨e1, fac⟩ := Runs.err2_0 e2
  obtain ⟨ln, lv⟩ := L.err_0 e1
  by_cases gn : 30 < G.n
  · (focus ((try with_reducible apply wpC.to); (repeat' ((conv => whnf); first | refine byEv ?_ | ((apply Fork.mk) <;> (intro _; try (exfalso; omega; done))) | ((first | refine kSpanZu2 ?_ | refine kSpanZu0 ?_ | refine kSpanC2 ?_ | refine kSpanC0 ?_); first | ((first | apply q_allD | apply q_alli | apply q_allB) <;> (intro _ _ _ _; try contradiction)) | ((apply q_allv); intro _ _ _)) | refine xSpanC0 ?_ | refine xSpanB1 ?_ | refine xSpanB0 ?_ | fail)); all_goals (conv => whnf); all_goals (try with_reducible apply At.mk)))
    (refine byFin ?_)
    rfl
  have hG' : ∀ h2, Same m h h2 → G.Ok m h2 := fun h2 s => hG.same s (Nat.le_refl _)
  by_cases cl : L.Cl
  · have el : L.lerr 0 0 = 0 := Runs.lerr_ok e2 cl (.inl ⟨rfl, rfl⟩)
    have ed : L.derr = 5 := by unfold Runs.derr; rw [if_neg (by omega), if_pos cl]
    (focus ((try with_reducible apply wpC.to); (repeat' ((conv => whnf); first | refine byEv ?_ | ((apply Fork.mk) <;> (intro _; try (exfalso; omega; done))) | ((first | refine kSpanZu2 ?_ | refine kSpanZu0 ?_ | refine kSpanC2 ?_ | refine kSpanC0 ?_); first | ((first | apply q_allD | apply q_alli | apply q_allB) <;> (intro _ _ _ _; try contradiction)) | ((apply q_allv); intro _ _ _)) | refine xSpanC0 ?_ | refine xSpanB1 ?_ | refine xSpanB0 ?_ | fail)); all_goals (conv => whnf); all_goals (try with_reducible apply At.mk)))
    apply q_call
    focus (exact byNext)
    focus (exact byLo)
    focus exact truth_w (L := L) (m := m) byOm (hL.same bySame (Nat.le_refl _))
    rintro _ h49 ⟨x, rfl, -, x1⟩ q49 n49
    have f0 := (x1 el).f
    rw [el]
    unfold Tru.cells
    (focus ((try with_reducible apply wpC.to); (repeat' ((conv => whnf); first | refine byEv ?_ | ((apply Fork.mk) <;> (intro _; try (exfalso; omega; done))) | ((first | refine kSpanZu2 ?_ | refine kSpanZu0 ?_ | refine kSpanC2 ?_ | refine kSpanC0 ?_); first | ((first | apply q_allD | apply q_alli | apply q_allB) <;> (intro _ _ _ _; try contradiction)) | ((apply q_allv); intro _ _ _)) | refine xSpanC0 ?_ | refine xSpanB1 ?_ | refine xSpanB0 ?_ | fail)); all_goals (conv => whnf); all_goals (try with_reducible apply At.mk)))
    apply q_call
    focus (exact byNext)
    focus (exact byLo)
    focus exact doubtP_w (L := L) (m := m) byOm (hL.same bySame (Nat.le_refl _))
    rintro _ h50 ⟨P, tm, rfl, pok, ⟨pc, pb⟩, p1, -⟩ q50 n50
    rw [ed]
    (focus ((try with_reducible apply wpC.to); (repeat' ((conv => whnf); first | refine byEv ?_ | ((apply Fork.mk) <;> (intro _; try (exfalso; omega; done))) | ((first | refine kSpanZu2 ?_ | refine kSpanZu0 ?_ | refine kSpanC2 ?_ | refine kSpanC0 ?_); first | ((first | apply q_allD | apply q_alli | apply q_allB) <;> (intro _ _ _ _; try contradiction)) | ((apply q_allv); intro _ _ _)) | refine xSpanC0 ?_ | refine xSpanB1 ?_ | refine xSpanB0 ?_ | fail)); all_goals (conv => whnf); all_goals (try with_reducible apply At.mk)))
    by_cases hc : L.cerr 0 0 G gm = 0
    · have rt := Runs.cerr_0.1 hc
      have np : (L.cval 0 0 G gm).n ≤ 0 := by
        obtain ⟨-, tv, hf⟩ := Runs.fit_0 f0
        have hd := tv.d
        have := rt.le hf
        rw [rt.val]
        refine num_np (by have := rt.t; omega) (np_of_mul (a := x.d) (by omega) ?_)
        rw [Int.mul_comm]
        omega
      apply q_callv
      focus (exact byNext)
      focus (exact byLo)
      focus exact checkProof_w (L := L) (P := G) (m := m) (p := 0) (q := 0) (tm := gm) byOm (hL.same bySame (Nat.le_refl _)) (hG' _ bySame)
      intro h51 q51 n51
      rw [hc]
      unfold Fr.cells
      (focus ((try with_reducible apply wpC.to); (repeat' ((conv => whnf); first | refine byEv ?_ | ((apply Fork.mk) <;> (intro _; try (exfalso; omega; done))) | ((first | refine kSpanZu2 ?_ | refine kSpanZu0 ?_ | refine kSpanC2 ?_ | refine kSpanC0 ?_); first | ((first | apply q_allD | apply q_alli | apply q_allB) <;> (intro _ _ _ _; try contradiction)) | ((apply q_allv); intro _ _ _)) | refine xSpanC0 ?_ | refine xSpanB1 ?_ | refine xSpanB0 ?_ | fail)); all_goals (conv => whnf); all_goals (try with_reducible apply At.mk)))
      (refine byFin ?_)
      rfl
    · apply q_callv
      focus (exact byNext)
      focus (exact byLo)
      focus exact checkProof_w (L := L) (P := G) (m := m) (p := 0) (q := 0) (tm := gm) byOm (hL.same bySame (Nat.le_refl _)) (hG' _ bySame)
      intro h52 q52 n52
      unfold Fr.cells
      (focus ((try with_reducible apply wpC.to); (repeat' ((conv => whnf); first | refine byEv ?_ | ((apply Fork.mk) <;> (intro _; try (exfalso; omega; done))) | ((first | refine kSpanZu2 ?_ | refine kSpanZu0 ?_ | refine kSpanC2 ?_ | refine kSpanC0 ?_); first | ((first | apply q_allD | apply q_alli | apply q_allB) <;> (intro _ _ _ _; try contradiction)) | ((apply q_allv); intro _ _ _)) | refine xSpanC0 ?_ | refine xSpanB1 ?_ | refine xSpanB0 ?_ | fail)); all_goals (conv => whnf); all_goals (try with_reducible apply At.mk)))
      (refine byFin ?_)
      rfl
  · have el : L.lerr 0 0 = 20 := Runs.lerr_20 e2 cl
    have ed : L.derr = 0 := by unfold Runs.derr; rw [if_neg (by omega), if_neg cl]
    have nf : L.fitErr t ≠ 0 := fun k => cl (fit_cl k)
    (focus ((try with_reducible apply wpC.to); (repeat' ((conv => whnf); first | refine byEv ?_ | ((apply Fork.mk) <;> (intro _; try (exfalso; omega; done))) | ((first | refine kSpanZu2 ?_ | refine kSpanZu0 ?_ | refine kSpanC2 ?_ | refine kSpanC0 ?_); first | ((first | apply q_allD | apply q_alli | apply q_allB) <;> (intro _ _ _ _; try contradiction)) | ((apply q_allv); intro _ _ _)) | refine xSpanC0 ?_ | refine xSpanB1 ?_ | refine xSpanB0 ?_ | fail)); all_goals (conv => whnf); all_goals (try with_reducible apply At.mk)))
    apply q_call
    focus (exact byNext)
    focus (exact byLo)
    focus exact truth_w (L := L) (m := m) byOm (hL.same bySame (Nat.le_refl _))
    rintro _ h53 ⟨x, rfl, x1, -⟩ q53 n53
    obtain rfl := x1 (by rw [el]; decide)
    rw [el]
    unfold Tru.cells
    (focus ((try with_reducible apply wpC.to); (repeat' ((conv => whnf); first | refine byEv ?_ | ((apply Fork.mk) <;> (intro _; try (exfalso; omega; done))) | ((first | refine kSpanZu2 ?_ | refine kSpanZu0 ?_ | refine kSpanC2 ?_ | refine kSpanC0 ?_); first | ((first | apply q_allD | apply q_alli | apply q_allB) <;> (intro _ _ _ _; try contradiction)) | ((apply q_allv); intro _ _ _)) | refine xSpanC0 ?_ | refine xSpanB1 ?_ | refine xSpanB0 ?_ | fail)); all_goals (conv => whnf); all_goals (try with_reducible apply At.mk)))
    apply q_call
    focus (exact byNext)
    focus (exact byLo)
    focus exact doubtP_w (L := L) (m := m) byOm (hL.same bySame (Nat.le_refl _))
    rintro _ h54 ⟨P, tm, rfl, pok, ⟨pc, pb⟩, -, p2⟩ q54 n54
    simp only [put_next, bump_next] at pb
    obtain ⟨W, pr, ⟨wu, wv⟩, wp, rfl⟩ := p2 ed
    obtain ⟨rt, rw'⟩ := right_of e2 pr (tm := 1) (by omega) (by omega) (by decide)
    have ec := Runs.cerr_0.2 rt
    have ev : L.cval 0 0 P 1 = ⟨W.w, 1⟩ := by rw [rt.val, rw']; exact fr_one _
    have wn : 0 < (⟨W.w, 1⟩ : Fr).n := wp
    rw [ed]
    (focus ((try with_reducible apply wpC.to); (repeat' ((conv => whnf); first | refine byEv ?_ | ((apply Fork.mk) <;> (intro _; try (exfalso; omega; done))) | ((first | refine kSpanZu2 ?_ | refine kSpanZu0 ?_ | refine kSpanC2 ?_ | refine kSpanC0 ?_); first | ((first | apply q_allD | apply q_alli | apply q_allB) <;> (intro _ _ _ _; try contradiction)) | ((apply q_allv); intro _ _ _)) | refine xSpanC0 ?_ | refine xSpanB1 ?_ | refine xSpanB0 ?_ | fail)); all_goals (conv => whnf); all_goals (try with_reducible apply At.mk)))
    apply q_callv
    focus (exact byNext)
    focus (exact byLo)
    focus exact checkProof_w (L := L) (P := P) (m := h54.next) byOm (hL.same bySame byOm) (pok.keep fun r h1 h2 => get_of fun y hy => by have := pb h2; have := pok.r h2; (exact byGet))
    intro h55 q55 n55
    rw [ec, ev]
    unfold Fr.cells
    (focus ((try with_reducible apply wpC.to); (repeat' ((conv => whnf); first | refine byEv ?_ | ((apply Fork.mk) <;> (intro _; try (exfalso; omega; done))) | ((first | refine kSpanZu2 ?_ | refine kSpanZu0 ?_ | refine kSpanC2 ?_ | refine kSpanC0 ?_); first | ((first | apply q_allD | apply q_alli | apply q_allB) <;> (intro _ _ _ _; try contradiction)) | ((apply q_allv); intro _ _ _)) | refine xSpanC0 ?_ | refine xSpanB1 ?_ | refine xSpanB0 ?_ | fail)); all_goals (conv => whnf); all_goals (try with_reducible apply At.mk)))
    apply q_callv
    focus (exact byNext)
    focus (exact byLo)
    focus exact checkProof_r (L := L) (P := P) (m := h54.next) byOm (hL.same bySame byOm) (pok.keep fun r h1 h2 => get_of fun y hy => by have := pb h2; have := pok.r h2; (exact byGet))
    intro h56 q56 n56
    rw [ec, ev]
    unfold Fr.cells
    (focus ((try with_reducible apply wpC.to); (repeat' ((conv => whnf); first | refine byEv ?_ | ((apply Fork.mk) <;> (intro _; try (exfalso; omega; done))) | ((first | refine kSpanZu2 ?_ | refine kSpanZu0 ?_ | refine kSpanC2 ?_ | refine kSpanC0 ?_); first | ((first | apply q_allD | apply q_alli | apply q_allB) <;> (intro _ _ _ _; try contradiction)) | ((apply q_allv); intro _ _ _)) | refine xSpanC0 ?_ | refine xSpanB1 ?_ | refine xSpanB0 ?_ | fail)); all_goals (conv => whnf); all_goals (try with_reducible apply At.mk)))
    refine OpE.pure (.bool true) (xPure_eql (A := ⟨(⟨W.w, 1⟩ : Fr).cells⟩) (B := ⟨(⟨W.w, 1⟩ : Fr).cells⟩) rfl rfl rfl rfl rfl (by kernel_rfl) (same_fr _)) ?_
    (focus ((try with_reducible apply wpC.to); (repeat' ((conv => whnf); first | refine byEv ?_ | ((apply Fork.mk) <;> (intro _; try (exfalso; omega; done))) | ((first | refine kSpanZu2 ?_ | refine kSpanZu0 ?_ | refine kSpanC2 ?_ | refine kSpanC0 ?_); first | ((first | apply q_allD | apply q_alli | apply q_allB) <;> (intro _ _ _ _; try contradiction)) | ((apply q_allv); intro _ _ _)) | refine xSpanC0 ?_ | refine xSpanB1 ?_ | refine xSpanB0 ?_ | fail)); all_goals (conv => whnf); all_goals (try with_reducible apply At.mk)))
    (refine byFin ?_)
    rfl
end AE.Try
