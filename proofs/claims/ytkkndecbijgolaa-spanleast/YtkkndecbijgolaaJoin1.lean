/- Walks and plain laws: SpanZu, SpanYleast. -/
import Derived.Test.YtkkndecbijgolaaSpanYruns
set_option linter.unusedVariables false
set_option linter.unusedSimpArgs false
set_option linter.unusedSectionVars false

/- Walks of the laws of spans: what is known of least values. -/
namespace AE.Try
open Go AE Go.Proofs AE.Sp
set_option maxRecDepth 100000
set_option linter.unusedVariables false

theorem kSpanZu0 {G G' : Prop} (g : G') (t : G' → G := by ((apply q_call); (focus exact byNext); (focus exact byLo); (focus ((apply works_l))))) : G := t g
/-- What is known of a least value that there is. -/
structure LvOk (L : Runs) (p q N D : Int) : Prop where
  k : Lst L p q N D
  e : L.lval p q = fr N D
  d : 0 < D ∧ D ≤ 800
  n : -160000000 ≤ N ∧ N ≤ 160000000
theorem LvOk.rng {L : Runs} {p q N D : Int} (k : LvOk L p q N D) : (0 < (L.lval p q).d ∧ (L.lval p q).d ≤ 800) ∧ -160000000 ≤ (L.lval p q).n ∧ (L.lval p q).n ≤ 160000000 := by
  rw [k.e]
  exact fr_rng k.d k.n
theorem LvOk.LB {L : Runs} {p q N D : Int} (k : LvOk L p q N D) : LB (L.lval p q) := by
  have := k.rng
  exact ⟨by omega, by omega⟩
end AE.Try

/- Walks of the laws of spans: SpanLeast. -/
namespace AE.Try
open Go AE Go.Proofs AE.Sp
set_option maxRecDepth 100000
set_option linter.unusedVariables false

open Classical in
set_option maxHeartbeats 8000000 in
theorem least_law {h : H} {L : Runs} {m : Nat} {p q : Int} (hm : m ≤ h.next) (hL : L.Ok m h) : AW Try.prog 4 h.next h [.slice L.b L.n L.c, .int .i64 p, .int .i64 q] (fun v _ => v = .bool true) := by
  have ll := hL.l
  refine fun4.call rfl (Nat.le_refl _) ?_
  unfold a4
  (focus ((try with_reducible apply wpC.to); (repeat' ((conv => whnf); first | refine byEv ?_ | ((apply Fork.mk) <;> (intro _; try (exfalso; omega; done))) | ((first | refine kSpanZu0 ?_ | refine kSpanC2 ?_); first | ((first | apply q_allD | apply q_alli | apply q_allB) <;> (intro _ _ _ _; try contradiction)) | ((apply q_allv); intro _ _ _)) | refine xSpanC0 ?_ | refine xSpanB1 ?_ | refine xSpanB0 ?_ | fail)); all_goals (conv => whnf); all_goals (try with_reducible apply At.mk)))
  · (refine byFin ?_)
    rfl
  by_cases he : L.lerr p q ≠ 0
  · have ev := Runs.lval_err he
    apply q_callv
    focus (exact byNext)
    focus (exact byLo)
    focus exact least_r (L := L) (m := m) (p := p) (q := q) byOm (hL.same bySame (Nat.le_refl _))
    intro h11 q11 n11
    rw [ev]
    unfold Fr.cells
    (focus ((try with_reducible apply wpC.to); (repeat' ((conv => whnf); first | refine byEv ?_ | ((apply Fork.mk) <;> (intro _; try (exfalso; omega; done))) | ((first | refine kSpanZu0 ?_ | refine kSpanC2 ?_); first | ((first | apply q_allD | apply q_alli | apply q_allB) <;> (intro _ _ _ _; try contradiction)) | ((apply q_allv); intro _ _ _)) | refine xSpanC0 ?_ | refine xSpanB1 ?_ | refine xSpanB0 ?_ | fail)); all_goals (conv => whnf); all_goals (try with_reducible apply At.mk)))
    apply q_callv
    focus (exact byNext)
    focus (exact byLo)
    focus exact least_w (L := L) (m := m) (p := p) (q := q) byOm (hL.same bySame (Nat.le_refl _))
    intro h12 q12 n12
    rw [ev]
    unfold Fr.cells
    (focus ((try with_reducible apply wpC.to); (repeat' ((conv => whnf); first | refine byEv ?_ | ((apply Fork.mk) <;> (intro _; try (exfalso; omega; done))) | ((first | refine kSpanZu0 ?_ | refine kSpanC2 ?_); first | ((first | apply q_allD | apply q_alli | apply q_allB) <;> (intro _ _ _ _; try contradiction)) | ((apply q_allv); intro _ _ _)) | refine xSpanC0 ?_ | refine xSpanB1 ?_ | refine xSpanB0 ?_ | fail)); all_goals (conv => whnf); all_goals (try with_reducible apply At.mk)))
    apply q_call
    focus (exact byNext)
    focus (exact byLo)
    focus exact attain_w (L := L) (m := m) (p := p) (q := q) byOm (hL.same bySame (Nat.le_refl _))
    rintro _ h13 ⟨t, rfl, x1, -⟩ q13 n13
    obtain rfl := x1 he
    unfold Tru.cells
    (focus ((try with_reducible apply wpC.to); (repeat' ((conv => whnf); first | refine byEv ?_ | ((apply Fork.mk) <;> (intro _; try (exfalso; omega; done))) | ((first | refine kSpanZu0 ?_ | refine kSpanC2 ?_); first | ((first | apply q_allD | apply q_alli | apply q_allB) <;> (intro _ _ _ _; try contradiction)) | ((apply q_allv); intro _ _ _)) | refine xSpanC0 ?_ | refine xSpanB1 ?_ | refine xSpanB0 ?_ | fail)); all_goals (conv => whnf); all_goals (try with_reducible apply At.mk)))
    apply q_call
    focus (exact byNext)
    focus (exact byLo)
    focus exact prove_w (L := L) (m := m) (p := p) (q := q) byOm (hL.same bySame (Nat.le_refl _))
    rintro _ h14 ⟨P, tm, rfl, pok, ⟨pc, pb⟩, p1, -⟩ q14 n14
    obtain ⟨pn, rfl⟩ := p1 he
    (focus ((try with_reducible apply wpC.to); (repeat' ((conv => whnf); first | refine byEv ?_ | ((apply Fork.mk) <;> (intro _; try (exfalso; omega; done))) | ((first | refine kSpanZu0 ?_ | refine kSpanC2 ?_); first | ((first | apply q_allD | apply q_alli | apply q_allB) <;> (intro _ _ _ _; try contradiction)) | ((apply q_allv); intro _ _ _)) | refine xSpanC0 ?_ | refine xSpanB1 ?_ | refine xSpanB0 ?_ | fail)); all_goals (conv => whnf); all_goals (try with_reducible apply At.mk)))
    refine OpE.pure (.bool false) (xPure_neq (A := ⟨(⟨0, 0⟩ : Fr).cells⟩) (B := ⟨(⟨0, 0⟩ : Fr).cells⟩) rfl rfl rfl rfl rfl (by kernel_rfl) (same_fr _)) ?_
    (focus ((try with_reducible apply wpC.to); (repeat' ((conv => whnf); first | refine byEv ?_ | ((apply Fork.mk) <;> (intro _; try (exfalso; omega; done))) | ((first | refine kSpanZu0 ?_ | refine kSpanC2 ?_); first | ((first | apply q_allD | apply q_alli | apply q_allB) <;> (intro _ _ _ _; try contradiction)) | ((apply q_allv); intro _ _ _)) | refine xSpanC0 ?_ | refine xSpanB1 ?_ | refine xSpanB0 ?_ | fail)); all_goals (conv => whnf); all_goals (try with_reducible apply At.mk)))
    refine OpE.pure (.bool true) (xPure_eql (A := ⟨(⟨0, 0, 0⟩ : Tru).cells⟩) (B := ⟨(⟨0, 0, 0⟩ : Tru).cells⟩) rfl rfl rfl rfl rfl (by kernel_rfl) (same_tru _)) ?_
    (focus ((try with_reducible apply wpC.to); (repeat' ((conv => whnf); first | refine byEv ?_ | ((apply Fork.mk) <;> (intro _; try (exfalso; omega; done))) | ((first | refine kSpanZu0 ?_ | refine kSpanC2 ?_); first | ((first | apply q_allD | apply q_alli | apply q_allB) <;> (intro _ _ _ _; try contradiction)) | ((apply q_allv); intro _ _ _)) | refine xSpanC0 ?_ | refine xSpanB1 ?_ | refine xSpanB0 ?_ | fail)); all_goals (conv => whnf); all_goals (try with_reducible apply At.mk)))
    (refine byFin ?_)
    rfl
  have he : L.lerr p q = 0 := by omega
  obtain ⟨e2, -, -⟩ := Runs.lerr_0 he
  obtain ⟨-, fac⟩ := Runs.err2_0 e2
  apply q_callv
  focus (exact byNext)
  focus (exact byLo)
  focus exact least_r (L := L) (m := m) (p := p) (q := q) byOm (hL.same bySame (Nat.le_refl _))
  intro h15 q15 n15
  rw [he]
  unfold Fr.cells
  (focus ((try with_reducible apply wpC.to); (repeat' ((conv => whnf); first | refine byEv ?_ | ((apply Fork.mk) <;> (intro _; try (exfalso; omega; done))) | ((first | refine kSpanZu0 ?_ | refine kSpanC2 ?_); first | ((first | apply q_allD | apply q_alli | apply q_allB) <;> (intro _ _ _ _; try contradiction)) | ((apply q_allv); intro _ _ _)) | refine xSpanC0 ?_ | refine xSpanB1 ?_ | refine xSpanB0 ?_ | fail)); all_goals (conv => whnf); all_goals (try with_reducible apply At.mk)))
  apply q_callv
  focus (exact byNext)
  focus (exact byLo)
  focus exact least_w (L := L) (m := m) (p := p) (q := q) byOm (hL.same bySame (Nat.le_refl _))
  intro h16 q16 n16
  rw [he]
  unfold Fr.cells
  (focus ((try with_reducible apply wpC.to); (repeat' ((conv => whnf); first | refine byEv ?_ | ((apply Fork.mk) <;> (intro _; try (exfalso; omega; done))) | ((first | refine kSpanZu0 ?_ | refine kSpanC2 ?_); first | ((first | apply q_allD | apply q_alli | apply q_allB) <;> (intro _ _ _ _; try contradiction)) | ((apply q_allv); intro _ _ _)) | refine xSpanC0 ?_ | refine xSpanB1 ?_ | refine xSpanB0 ?_ | fail)); all_goals (conv => whnf); all_goals (try with_reducible apply At.mk)))
  apply q_call
  focus (exact byNext)
  focus (exact byLo)
  focus exact attain_w (L := L) (m := m) (p := p) (q := q) byOm (hL.same bySame (Nat.le_refl _))
  rintro _ h17 ⟨t, rfl, -, x1⟩ q17 n17
  have at' := x1 he
  have tv := (Runs.fit_0 at'.f).2.1
  have f0 := at'.f
  rw [he]
  unfold Tru.cells
  (focus ((try with_reducible apply wpC.to); (repeat' ((conv => whnf); first | refine byEv ?_ | ((apply Fork.mk) <;> (intro _; try (exfalso; omega; done))) | ((first | refine kSpanZu0 ?_ | refine kSpanC2 ?_); first | ((first | apply q_allD | apply q_alli | apply q_allB) <;> (intro _ _ _ _; try contradiction)) | ((apply q_allv); intro _ _ _)) | refine xSpanC0 ?_ | refine xSpanB1 ?_ | refine xSpanB0 ?_ | fail)); all_goals (conv => whnf); all_goals (try with_reducible apply At.mk)))
  apply q_call
  focus (exact byNext)
  focus (exact byLo)
  focus exact prove_w (L := L) (m := m) (p := p) (q := q) byOm (hL.same bySame (Nat.le_refl _))
  rintro _ h18 ⟨P, tm, rfl, pok, ⟨pc, pb⟩, -, p1⟩ q18 n18
  simp only [put_next, bump_next] at pb
  obtain ⟨W, pr, ⟨wu, wv⟩, ht, wl⟩ := p1 he
  obtain ⟨rt, rw'⟩ := right_of e2 pr wu wv ht
  have ec := Runs.cerr_0.2 rt
  have ev : L.cval p q P tm = L.lval p q := by rw [rt.val, rw', wl]
  rw [he]
  (focus ((try with_reducible apply wpC.to); (repeat' ((conv => whnf); first | refine byEv ?_ | ((apply Fork.mk) <;> (intro _; try (exfalso; omega; done))) | ((first | refine kSpanZu0 ?_ | refine kSpanC2 ?_); first | ((first | apply q_allD | apply q_alli | apply q_allB) <;> (intro _ _ _ _; try contradiction)) | ((apply q_allv); intro _ _ _)) | refine xSpanC0 ?_ | refine xSpanB1 ?_ | refine xSpanB0 ?_ | fail)); all_goals (conv => whnf); all_goals (try with_reducible apply At.mk)))
  refine OpE.pure (.bool false) (xPure_neq (A := ⟨(L.lval p q).cells⟩) (B := ⟨(L.lval p q).cells⟩) rfl rfl rfl rfl rfl (by kernel_rfl) (same_fr _)) ?_
  (focus ((try with_reducible apply wpC.to); (repeat' ((conv => whnf); first | refine byEv ?_ | ((apply Fork.mk) <;> (intro _; try (exfalso; omega; done))) | ((first | refine kSpanZu0 ?_ | refine kSpanC2 ?_); first | ((first | apply q_allD | apply q_alli | apply q_allB) <;> (intro _ _ _ _; try contradiction)) | ((apply q_allv); intro _ _ _)) | refine xSpanC0 ?_ | refine xSpanB1 ?_ | refine xSpanB0 ?_ | fail)); all_goals (conv => whnf); all_goals (try with_reducible apply At.mk)))
  apply q_callv
  focus (exact byNext)
  focus (exact byLo)
  focus exact checkProof_r (L := L) (P := P) (m := h18.next) byOm (hL.same bySame byOm) (pok.keep fun r h1 h2 => get_of fun y hy => by have := pb h2; have := pok.r h2; (exact byGet))
  intro h19 q19 n19
  rw [ec, ev]
  unfold Fr.cells
  (focus ((try with_reducible apply wpC.to); (repeat' ((conv => whnf); first | refine byEv ?_ | ((apply Fork.mk) <;> (intro _; try (exfalso; omega; done))) | ((first | refine kSpanZu0 ?_ | refine kSpanC2 ?_); first | ((first | apply q_allD | apply q_alli | apply q_allB) <;> (intro _ _ _ _; try contradiction)) | ((apply q_allv); intro _ _ _)) | refine xSpanC0 ?_ | refine xSpanB1 ?_ | refine xSpanB0 ?_ | fail)); all_goals (conv => whnf); all_goals (try with_reducible apply At.mk)))
  apply q_callv
  focus (exact byNext)
  focus (exact byLo)
  focus exact value_r (p := p) (q := q) (t := t) fac tv
  intro h20 q20 n20
  rw [show vfr p q t = L.lval p q by unfold vfr; exact at'.v]
  unfold Fr.cells
  (focus ((try with_reducible apply wpC.to); (repeat' ((conv => whnf); first | refine byEv ?_ | ((apply Fork.mk) <;> (intro _; try (exfalso; omega; done))) | ((first | refine kSpanZu0 ?_ | refine kSpanC2 ?_); first | ((first | apply q_allD | apply q_alli | apply q_allB) <;> (intro _ _ _ _; try contradiction)) | ((apply q_allv); intro _ _ _)) | refine xSpanC0 ?_ | refine xSpanB1 ?_ | refine xSpanB0 ?_ | fail)); all_goals (conv => whnf); all_goals (try with_reducible apply At.mk)))
  refine OpE.pure (.bool true) (xPure_eql (A := ⟨(L.lval p q).cells⟩) (B := ⟨(L.lval p q).cells⟩) rfl rfl rfl rfl rfl (by kernel_rfl) (same_fr _)) ?_
  (focus ((try with_reducible apply wpC.to); (repeat' ((conv => whnf); first | refine byEv ?_ | ((apply Fork.mk) <;> (intro _; try (exfalso; omega; done))) | ((first | refine kSpanZu0 ?_ | refine kSpanC2 ?_); first | ((first | apply q_allD | apply q_alli | apply q_allB) <;> (intro _ _ _ _; try contradiction)) | ((apply q_allv); intro _ _ _)) | refine xSpanC0 ?_ | refine xSpanB1 ?_ | refine xSpanB0 ?_ | fail)); all_goals (conv => whnf); all_goals (try with_reducible apply At.mk)))
  refine OpE.pure (.bool true) (xPure_eql (A := ⟨(L.lval p q).cells⟩) (B := ⟨(L.lval p q).cells⟩) rfl rfl rfl rfl rfl (by kernel_rfl) (same_fr _)) ?_
  (focus ((try with_reducible apply wpC.to); (repeat' ((conv => whnf); first | refine byEv ?_ | ((apply Fork.mk) <;> (intro _; try (exfalso; omega; done))) | ((first | refine kSpanZu0 ?_ | refine kSpanC2 ?_); first | ((first | apply q_allD | apply q_alli | apply q_allB) <;> (intro _ _ _ _; try contradiction)) | ((apply q_allv); intro _ _ _)) | refine xSpanC0 ?_ | refine xSpanB1 ?_ | refine xSpanB0 ?_ | fail)); all_goals (conv => whnf); all_goals (try with_reducible apply At.mk)))
  (refine byFin ?_)
  rfl
end AE.Try
