/- Walks of the laws of spans: SpanHeld. -/
import Derived.Test.YtkkndecbijgolaaJoin1
set_option linter.unusedVariables false
set_option linter.unusedSimpArgs false
set_option linter.unusedSectionVars false
namespace AE.Try
open Go AE Go.Proofs AE.Sp
set_option maxRecDepth 100000
set_option linter.unusedVariables false

open Classical in
set_option maxHeartbeats 16000000 in
theorem held_law {h : H} {L : Runs} {P : PSs} {t : Tru} {m : Nat} {p q tm : Int} (hm : m ≤ h.next) (hL : L.Ok m h) (hP : P.Ok m h) : AW Try.prog 6 h.next h [.slice L.b L.n L.c, .int .i64 p, .int .i64 q, .agg ⟨t.cells⟩, .agg ⟨[.slice P.b P.n P.c, .int .i64 tm]⟩] (fun v _ => v = .bool true) := by
  have ll := hL.l
  have pl := hP.l
  refine fun6.call rfl (Nat.le_refl _) ?_
  unfold a6 Tru.cells
  by_cases e2 : L.err2 p q ≠ 0
  · (focus ((try with_reducible apply wpC.to); (repeat' ((conv => whnf); first | refine byEv ?_ | ((apply Fork.mk) <;> (intro _; try (exfalso; omega; done))) | ((first | refine kSpanZu2 ?_ | refine kSpanZu0 ?_ | refine kSpanC2 ?_ | refine kSpanC0 ?_); first | ((first | apply q_allD | apply q_alli | apply q_allB) <;> (intro _ _ _ _; try contradiction)) | ((apply q_allv); intro _ _ _)) | refine xSpanC0 ?_ | refine xSpanB1 ?_ | refine xSpanB0 ?_ | fail)); all_goals (conv => whnf); all_goals (try with_reducible apply At.mk)))
    (refine byFin ?_)
    rfl
  have e2 : L.err2 p q = 0 := by omega
  obtain ⟨-, fac⟩ := Runs.err2_0 e2
  by_cases pn : 30 < P.n
  · (focus ((try with_reducible apply wpC.to); (repeat' ((conv => whnf); first | refine byEv ?_ | ((apply Fork.mk) <;> (intro _; try (exfalso; omega; done))) | ((first | refine kSpanZu2 ?_ | refine kSpanZu0 ?_ | refine kSpanC2 ?_ | refine kSpanC0 ?_); first | ((first | apply q_allD | apply q_alli | apply q_allB) <;> (intro _ _ _ _; try contradiction)) | ((apply q_allv); intro _ _ _)) | refine xSpanC0 ?_ | refine xSpanB1 ?_ | refine xSpanB0 ?_ | fail)); all_goals (conv => whnf); all_goals (try with_reducible apply At.mk)))
    (refine byFin ?_)
    rfl
  have hP' : ∀ h2, Same m h h2 → P.Ok m h2 := fun h2 s => hP.same s (Nat.le_refl _)
  by_cases hf : L.fitErr t = 0
  · have tv := (Runs.fit_0 hf).2.1
    have cl := fit_cl hf
    by_cases hc : L.cerr p q P tm = 0
    · have rt := Runs.cerr_0.1 hc
      obtain ⟨-, lv⟩ := L.err_0 (Runs.err2_0 e2).1
      have bd := (bnd_iff lv).1 rt.bnd
      rcases lerr_is e2 with ⟨c, el⟩ | ⟨c, b, el⟩ | ⟨c, b, el⟩
      · exact absurd cl c
      · exact absurd bd b
      · obtain ⟨N, D, lk⟩ := lv_ok el
        (focus ((try with_reducible apply wpC.to); (repeat' ((conv => whnf); first | refine byEv ?_ | ((apply Fork.mk) <;> (intro _; try (exfalso; omega; done))) | ((first | refine kSpanZu2 ?_ | refine kSpanZu0 ?_ | refine kSpanC2 ?_ | refine kSpanC0 ?_); first | ((first | apply q_allD | apply q_alli | apply q_allB) <;> (intro _ _ _ _; try contradiction)) | ((apply q_allv); intro _ _ _)) | refine xSpanC0 ?_ | refine xSpanB1 ?_ | refine xSpanB0 ?_ | fail)); all_goals (conv => whnf); all_goals (try with_reducible apply At.mk)))
        apply q_callv
        focus (exact byNext)
        focus (exact byLo)
        focus exact least_w (L := L) (m := m) (p := p) (q := q) byOm (hL.same bySame (Nat.le_refl _))
        intro h21 q21 n21
        rw [el]
        unfold Fr.cells
        (focus ((try with_reducible apply wpC.to); (repeat' ((conv => whnf); first | refine byEv ?_ | ((apply Fork.mk) <;> (intro _; try (exfalso; omega; done))) | ((first | refine kSpanZu2 ?_ | refine kSpanZu0 ?_ | refine kSpanC2 ?_ | refine kSpanC0 ?_); first | ((first | apply q_allD | apply q_alli | apply q_allB) <;> (intro _ _ _ _; try contradiction)) | ((apply q_allv); intro _ _ _)) | refine xSpanC0 ?_ | refine xSpanB1 ?_ | refine xSpanB0 ?_ | fail)); all_goals (conv => whnf); all_goals (try with_reducible apply At.mk)))
        apply q_callv
        focus (exact byNext)
        focus (exact byLo)
        focus exact checkProof_w (L := L) (P := P) (m := m) (p := p) (q := q) (tm := tm) byOm (hL.same bySame (Nat.le_refl _)) (hP' _ bySame)
        intro h22 q22 n22
        rw [hc]
        unfold Fr.cells
        (focus ((try with_reducible apply wpC.to); (repeat' ((conv => whnf); first | refine byEv ?_ | ((apply Fork.mk) <;> (intro _; try (exfalso; omega; done))) | ((first | refine kSpanZu2 ?_ | refine kSpanZu0 ?_ | refine kSpanC2 ?_ | refine kSpanC0 ?_); first | ((first | apply q_allD | apply q_alli | apply q_allB) <;> (intro _ _ _ _; try contradiction)) | ((apply q_allv); intro _ _ _)) | refine xSpanC0 ?_ | refine xSpanB1 ?_ | refine xSpanB0 ?_ | fail)); all_goals (conv => whnf); all_goals (try with_reducible apply At.mk)))
        apply q_callv
        focus (exact byNext)
        focus (exact byLo)
        focus exact value_r (p := p) (q := q) (t := t) fac tv
        intro h23 q23 n23
        unfold Fr.cells
        (focus ((try with_reducible apply wpC.to); (repeat' ((conv => whnf); first | refine byEv ?_ | ((apply Fork.mk) <;> (intro _; try (exfalso; omega; done))) | ((first | refine kSpanZu2 ?_ | refine kSpanZu0 ?_ | refine kSpanC2 ?_ | refine kSpanC0 ?_); first | ((first | apply q_allD | apply q_alli | apply q_allB) <;> (intro _ _ _ _; try contradiction)) | ((apply q_allv); intro _ _ _)) | refine xSpanC0 ?_ | refine xSpanB1 ?_ | refine xSpanB0 ?_ | fail)); all_goals (conv => whnf); all_goals (try with_reducible apply At.mk)))
        apply q_callB
        focus (exact byNext)
        focus (exact byLo)
        focus exact less_r (vfr_LB fac tv) rt.LB
        · intro hb; exact absurd (of_decide_eq_true hb) (rt.no_less hf)
        intro hb24 h24 q24 n24
        (focus ((try with_reducible apply wpC.to); (repeat' ((conv => whnf); first | refine byEv ?_ | ((apply Fork.mk) <;> (intro _; try (exfalso; omega; done))) | ((first | refine kSpanZu2 ?_ | refine kSpanZu0 ?_ | refine kSpanC2 ?_ | refine kSpanC0 ?_); first | ((first | apply q_allD | apply q_alli | apply q_allB) <;> (intro _ _ _ _; try contradiction)) | ((apply q_allv); intro _ _ _)) | refine xSpanC0 ?_ | refine xSpanB1 ?_ | refine xSpanB0 ?_ | fail)); all_goals (conv => whnf); all_goals (try with_reducible apply At.mk)))
        apply q_callv
        focus (exact byNext)
        focus (exact byLo)
        focus exact proved_l (L := L) (m := m) (p := p) (q := q) byOm (hL.same bySame (Nat.le_refl _)) el
        intro h25 q25 n25
        unfold Fr.cells
        (focus ((try with_reducible apply wpC.to); (repeat' ((conv => whnf); first | refine byEv ?_ | ((apply Fork.mk) <;> (intro _; try (exfalso; omega; done))) | ((first | refine kSpanZu2 ?_ | refine kSpanZu0 ?_ | refine kSpanC2 ?_ | refine kSpanC0 ?_); first | ((first | apply q_allD | apply q_alli | apply q_allB) <;> (intro _ _ _ _; try contradiction)) | ((apply q_allv); intro _ _ _)) | refine xSpanC0 ?_ | refine xSpanB1 ?_ | refine xSpanB0 ?_ | fail)); all_goals (conv => whnf); all_goals (try with_reducible apply At.mk)))
        apply q_callv
        focus (exact byNext)
        focus (exact byLo)
        focus exact value_r (p := p) (q := q) (t := t) fac tv
        intro h26 q26 n26
        unfold Fr.cells
        (focus ((try with_reducible apply wpC.to); (repeat' ((conv => whnf); first | refine byEv ?_ | ((apply Fork.mk) <;> (intro _; try (exfalso; omega; done))) | ((first | refine kSpanZu2 ?_ | refine kSpanZu0 ?_ | refine kSpanC2 ?_ | refine kSpanC0 ?_); first | ((first | apply q_allD | apply q_alli | apply q_allB) <;> (intro _ _ _ _; try contradiction)) | ((apply q_allv); intro _ _ _)) | refine xSpanC0 ?_ | refine xSpanB1 ?_ | refine xSpanB0 ?_ | fail)); all_goals (conv => whnf); all_goals (try with_reducible apply At.mk)))
        apply q_callB
        focus (exact byNext)
        focus (exact byLo)
        focus exact less_r (vfr_LB fac tv) lk.LB
        · intro hb; exact absurd (of_decide_eq_true hb) (lk.no_less hf)
        intro hb27 h27 q27 n27
        (focus ((try with_reducible apply wpC.to); (repeat' ((conv => whnf); first | refine byEv ?_ | ((apply Fork.mk) <;> (intro _; try (exfalso; omega; done))) | ((first | refine kSpanZu2 ?_ | refine kSpanZu0 ?_ | refine kSpanC2 ?_ | refine kSpanC0 ?_); first | ((first | apply q_allD | apply q_alli | apply q_allB) <;> (intro _ _ _ _; try contradiction)) | ((apply q_allv); intro _ _ _)) | refine xSpanC0 ?_ | refine xSpanB1 ?_ | refine xSpanB0 ?_ | fail)); all_goals (conv => whnf); all_goals (try with_reducible apply At.mk)))
        apply q_callB
        focus (exact byNext)
        focus (exact byLo)
        focus exact less_r lk.LB rt.LB
        · intro hb; exact absurd (of_decide_eq_true hb) (lk.no_more rt)
        intro hb28 h28 q28 n28
        (focus ((try with_reducible apply wpC.to); (repeat' ((conv => whnf); first | refine byEv ?_ | ((apply Fork.mk) <;> (intro _; try (exfalso; omega; done))) | ((first | refine kSpanZu2 ?_ | refine kSpanZu0 ?_ | refine kSpanC2 ?_ | refine kSpanC0 ?_); first | ((first | apply q_allD | apply q_alli | apply q_allB) <;> (intro _ _ _ _; try contradiction)) | ((apply q_allv); intro _ _ _)) | refine xSpanC0 ?_ | refine xSpanB1 ?_ | refine xSpanB0 ?_ | fail)); all_goals (conv => whnf); all_goals (try with_reducible apply At.mk)))
        (refine byFin ?_)
        rfl
    · rcases lerr_is e2 with ⟨c, el⟩ | ⟨c, b, el⟩ | ⟨c, b, el⟩
      · exact absurd cl c
      · (focus ((try with_reducible apply wpC.to); (repeat' ((conv => whnf); first | refine byEv ?_ | ((apply Fork.mk) <;> (intro _; try (exfalso; omega; done))) | ((first | refine kSpanZu2 ?_ | refine kSpanZu0 ?_ | refine kSpanC2 ?_ | refine kSpanC0 ?_); first | ((first | apply q_allD | apply q_alli | apply q_allB) <;> (intro _ _ _ _; try contradiction)) | ((apply q_allv); intro _ _ _)) | refine xSpanC0 ?_ | refine xSpanB1 ?_ | refine xSpanB0 ?_ | fail)); all_goals (conv => whnf); all_goals (try with_reducible apply At.mk)))
        apply q_callv
        focus (exact byNext)
        focus (exact byLo)
        focus exact least_w (L := L) (m := m) (p := p) (q := q) byOm (hL.same bySame (Nat.le_refl _))
        intro h29 q29 n29
        rw [el]
        unfold Fr.cells
        (focus ((try with_reducible apply wpC.to); (repeat' ((conv => whnf); first | refine byEv ?_ | ((apply Fork.mk) <;> (intro _; try (exfalso; omega; done))) | ((first | refine kSpanZu2 ?_ | refine kSpanZu0 ?_ | refine kSpanC2 ?_ | refine kSpanC0 ?_); first | ((first | apply q_allD | apply q_alli | apply q_allB) <;> (intro _ _ _ _; try contradiction)) | ((apply q_allv); intro _ _ _)) | refine xSpanC0 ?_ | refine xSpanB1 ?_ | refine xSpanB0 ?_ | fail)); all_goals (conv => whnf); all_goals (try with_reducible apply At.mk)))
        apply q_callv
        focus (exact byNext)
        focus (exact byLo)
        focus exact checkProof_w (L := L) (P := P) (m := m) (p := p) (q := q) (tm := tm) byOm (hL.same bySame (Nat.le_refl _)) (hP' _ bySame)
        intro h30 q30 n30
        unfold Fr.cells
        (focus ((try with_reducible apply wpC.to); (repeat' ((conv => whnf); first | refine byEv ?_ | ((apply Fork.mk) <;> (intro _; try (exfalso; omega; done))) | ((first | refine kSpanZu2 ?_ | refine kSpanZu0 ?_ | refine kSpanC2 ?_ | refine kSpanC0 ?_); first | ((first | apply q_allD | apply q_alli | apply q_allB) <;> (intro _ _ _ _; try contradiction)) | ((apply q_allv); intro _ _ _)) | refine xSpanC0 ?_ | refine xSpanB1 ?_ | refine xSpanB0 ?_ | fail)); all_goals (conv => whnf); all_goals (try with_reducible apply At.mk)))
        (refine byFin ?_)
        rfl
      · obtain ⟨N, D, lk⟩ := lv_ok el
        (focus ((try with_reducible apply wpC.to); (repeat' ((conv => whnf); first | refine byEv ?_ | ((apply Fork.mk) <;> (intro _; try (exfalso; omega; done))) | ((first | refine kSpanZu2 ?_ | refine kSpanZu0 ?_ | refine kSpanC2 ?_ | refine kSpanC0 ?_); first | ((first | apply q_allD | apply q_alli | apply q_allB) <;> (intro _ _ _ _; try contradiction)) | ((apply q_allv); intro _ _ _)) | refine xSpanC0 ?_ | refine xSpanB1 ?_ | refine xSpanB0 ?_ | fail)); all_goals (conv => whnf); all_goals (try with_reducible apply At.mk)))
        apply q_callv
        focus (exact byNext)
        focus (exact byLo)
        focus exact least_w (L := L) (m := m) (p := p) (q := q) byOm (hL.same bySame (Nat.le_refl _))
        intro h31 q31 n31
        rw [el]
        unfold Fr.cells
        (focus ((try with_reducible apply wpC.to); (repeat' ((conv => whnf); first | refine byEv ?_ | ((apply Fork.mk) <;> (intro _; try (exfalso; omega; done))) | ((first | refine kSpanZu2 ?_ | refine kSpanZu0 ?_ | refine kSpanC2 ?_ | refine kSpanC0 ?_); first | ((first | apply q_allD | apply q_alli | apply q_allB) <;> (intro _ _ _ _; try contradiction)) | ((apply q_allv); intro _ _ _)) | refine xSpanC0 ?_ | refine xSpanB1 ?_ | refine xSpanB0 ?_ | fail)); all_goals (conv => whnf); all_goals (try with_reducible apply At.mk)))
        apply q_callv
        focus (exact byNext)
        focus (exact byLo)
        focus exact checkProof_w (L := L) (P := P) (m := m) (p := p) (q := q) (tm := tm) byOm (hL.same bySame (Nat.le_refl _)) (hP' _ bySame)
        intro h32 q32 n32
        unfold Fr.cells
        (focus ((try with_reducible apply wpC.to); (repeat' ((conv => whnf); first | refine byEv ?_ | ((apply Fork.mk) <;> (intro _; try (exfalso; omega; done))) | ((first | refine kSpanZu2 ?_ | refine kSpanZu0 ?_ | refine kSpanC2 ?_ | refine kSpanC0 ?_); first | ((first | apply q_allD | apply q_alli | apply q_allB) <;> (intro _ _ _ _; try contradiction)) | ((apply q_allv); intro _ _ _)) | refine xSpanC0 ?_ | refine xSpanB1 ?_ | refine xSpanB0 ?_ | fail)); all_goals (conv => whnf); all_goals (try with_reducible apply At.mk)))
        apply q_callv
        focus (exact byNext)
        focus (exact byLo)
        focus exact proved_l (L := L) (m := m) (p := p) (q := q) byOm (hL.same bySame (Nat.le_refl _)) el
        intro h33 q33 n33
        unfold Fr.cells
        (focus ((try with_reducible apply wpC.to); (repeat' ((conv => whnf); first | refine byEv ?_ | ((apply Fork.mk) <;> (intro _; try (exfalso; omega; done))) | ((first | refine kSpanZu2 ?_ | refine kSpanZu0 ?_ | refine kSpanC2 ?_ | refine kSpanC0 ?_); first | ((first | apply q_allD | apply q_alli | apply q_allB) <;> (intro _ _ _ _; try contradiction)) | ((apply q_allv); intro _ _ _)) | refine xSpanC0 ?_ | refine xSpanB1 ?_ | refine xSpanB0 ?_ | fail)); all_goals (conv => whnf); all_goals (try with_reducible apply At.mk)))
        apply q_callv
        focus (exact byNext)
        focus (exact byLo)
        focus exact value_r (p := p) (q := q) (t := t) fac tv
        intro h34 q34 n34
        unfold Fr.cells
        (focus ((try with_reducible apply wpC.to); (repeat' ((conv => whnf); first | refine byEv ?_ | ((apply Fork.mk) <;> (intro _; try (exfalso; omega; done))) | ((first | refine kSpanZu2 ?_ | refine kSpanZu0 ?_ | refine kSpanC2 ?_ | refine kSpanC0 ?_); first | ((first | apply q_allD | apply q_alli | apply q_allB) <;> (intro _ _ _ _; try contradiction)) | ((apply q_allv); intro _ _ _)) | refine xSpanC0 ?_ | refine xSpanB1 ?_ | refine xSpanB0 ?_ | fail)); all_goals (conv => whnf); all_goals (try with_reducible apply At.mk)))
        apply q_callB
        focus (exact byNext)
        focus (exact byLo)
        focus exact less_r (vfr_LB fac tv) lk.LB
        · intro hb; exact absurd (of_decide_eq_true hb) (lk.no_less hf)
        intro hb35 h35 q35 n35
        (focus ((try with_reducible apply wpC.to); (repeat' ((conv => whnf); first | refine byEv ?_ | ((apply Fork.mk) <;> (intro _; try (exfalso; omega; done))) | ((first | refine kSpanZu2 ?_ | refine kSpanZu0 ?_ | refine kSpanC2 ?_ | refine kSpanC0 ?_); first | ((first | apply q_allD | apply q_alli | apply q_allB) <;> (intro _ _ _ _; try contradiction)) | ((apply q_allv); intro _ _ _)) | refine xSpanC0 ?_ | refine xSpanB1 ?_ | refine xSpanB0 ?_ | fail)); all_goals (conv => whnf); all_goals (try with_reducible apply At.mk)))
        (refine byFin ?_)
        rfl
  · by_cases hc : L.cerr p q P tm = 0
    · have rt := Runs.cerr_0.1 hc
      obtain ⟨-, lv⟩ := L.err_0 (Runs.err2_0 e2).1
      have bd := (bnd_iff lv).1 rt.bnd
      rcases lerr_is e2 with ⟨c, el⟩ | ⟨c, b, el⟩ | ⟨c, b, el⟩
      · (focus ((try with_reducible apply wpC.to); (repeat' ((conv => whnf); first | refine byEv ?_ | ((apply Fork.mk) <;> (intro _; try (exfalso; omega; done))) | ((first | refine kSpanZu2 ?_ | refine kSpanZu0 ?_ | refine kSpanC2 ?_ | refine kSpanC0 ?_); first | ((first | apply q_allD | apply q_alli | apply q_allB) <;> (intro _ _ _ _; try contradiction)) | ((apply q_allv); intro _ _ _)) | refine xSpanC0 ?_ | refine xSpanB1 ?_ | refine xSpanB0 ?_ | fail)); all_goals (conv => whnf); all_goals (try with_reducible apply At.mk)))
        apply q_callv
        focus (exact byNext)
        focus (exact byLo)
        focus exact least_w (L := L) (m := m) (p := p) (q := q) byOm (hL.same bySame (Nat.le_refl _))
        intro h36 q36 n36
        rw [el]
        unfold Fr.cells
        (focus ((try with_reducible apply wpC.to); (repeat' ((conv => whnf); first | refine byEv ?_ | ((apply Fork.mk) <;> (intro _; try (exfalso; omega; done))) | ((first | refine kSpanZu2 ?_ | refine kSpanZu0 ?_ | refine kSpanC2 ?_ | refine kSpanC0 ?_); first | ((first | apply q_allD | apply q_alli | apply q_allB) <;> (intro _ _ _ _; try contradiction)) | ((apply q_allv); intro _ _ _)) | refine xSpanC0 ?_ | refine xSpanB1 ?_ | refine xSpanB0 ?_ | fail)); all_goals (conv => whnf); all_goals (try with_reducible apply At.mk)))
        apply q_callv
        focus (exact byNext)
        focus (exact byLo)
        focus exact checkProof_w (L := L) (P := P) (m := m) (p := p) (q := q) (tm := tm) byOm (hL.same bySame (Nat.le_refl _)) (hP' _ bySame)
        intro h37 q37 n37
        rw [hc]
        unfold Fr.cells
        (focus ((try with_reducible apply wpC.to); (repeat' ((conv => whnf); first | refine byEv ?_ | ((apply Fork.mk) <;> (intro _; try (exfalso; omega; done))) | ((first | refine kSpanZu2 ?_ | refine kSpanZu0 ?_ | refine kSpanC2 ?_ | refine kSpanC0 ?_); first | ((first | apply q_allD | apply q_alli | apply q_allB) <;> (intro _ _ _ _; try contradiction)) | ((apply q_allv); intro _ _ _)) | refine xSpanC0 ?_ | refine xSpanB1 ?_ | refine xSpanB0 ?_ | fail)); all_goals (conv => whnf); all_goals (try with_reducible apply At.mk)))
        (refine byFin ?_)
        rfl
      · exact absurd bd b
      · obtain ⟨N, D, lk⟩ := lv_ok el
        (focus ((try with_reducible apply wpC.to); (repeat' ((conv => whnf); first | refine byEv ?_ | ((apply Fork.mk) <;> (intro _; try (exfalso; omega; done))) | ((first | refine kSpanZu2 ?_ | refine kSpanZu0 ?_ | refine kSpanC2 ?_ | refine kSpanC0 ?_); first | ((first | apply q_allD | apply q_alli | apply q_allB) <;> (intro _ _ _ _; try contradiction)) | ((apply q_allv); intro _ _ _)) | refine xSpanC0 ?_ | refine xSpanB1 ?_ | refine xSpanB0 ?_ | fail)); all_goals (conv => whnf); all_goals (try with_reducible apply At.mk)))
        apply q_callv
        focus (exact byNext)
        focus (exact byLo)
        focus exact least_w (L := L) (m := m) (p := p) (q := q) byOm (hL.same bySame (Nat.le_refl _))
        intro h38 q38 n38
        rw [el]
        unfold Fr.cells
        (focus ((try with_reducible apply wpC.to); (repeat' ((conv => whnf); first | refine byEv ?_ | ((apply Fork.mk) <;> (intro _; try (exfalso; omega; done))) | ((first | refine kSpanZu2 ?_ | refine kSpanZu0 ?_ | refine kSpanC2 ?_ | refine kSpanC0 ?_); first | ((first | apply q_allD | apply q_alli | apply q_allB) <;> (intro _ _ _ _; try contradiction)) | ((apply q_allv); intro _ _ _)) | refine xSpanC0 ?_ | refine xSpanB1 ?_ | refine xSpanB0 ?_ | fail)); all_goals (conv => whnf); all_goals (try with_reducible apply At.mk)))
        apply q_callv
        focus (exact byNext)
        focus (exact byLo)
        focus exact checkProof_w (L := L) (P := P) (m := m) (p := p) (q := q) (tm := tm) byOm (hL.same bySame (Nat.le_refl _)) (hP' _ bySame)
        intro h39 q39 n39
        rw [hc]
        unfold Fr.cells
        (focus ((try with_reducible apply wpC.to); (repeat' ((conv => whnf); first | refine byEv ?_ | ((apply Fork.mk) <;> (intro _; try (exfalso; omega; done))) | ((first | refine kSpanZu2 ?_ | refine kSpanZu0 ?_ | refine kSpanC2 ?_ | refine kSpanC0 ?_); first | ((first | apply q_allD | apply q_alli | apply q_allB) <;> (intro _ _ _ _; try contradiction)) | ((apply q_allv); intro _ _ _)) | refine xSpanC0 ?_ | refine xSpanB1 ?_ | refine xSpanB0 ?_ | fail)); all_goals (conv => whnf); all_goals (try with_reducible apply At.mk)))
        apply q_callv
        focus (exact byNext)
        focus (exact byLo)
        focus exact proved_l (L := L) (m := m) (p := p) (q := q) byOm (hL.same bySame (Nat.le_refl _)) el
        intro h40 q40 n40
        unfold Fr.cells
        (focus ((try with_reducible apply wpC.to); (repeat' ((conv => whnf); first | refine byEv ?_ | ((apply Fork.mk) <;> (intro _; try (exfalso; omega; done))) | ((first | refine kSpanZu2 ?_ | refine kSpanZu0 ?_ | refine kSpanC2 ?_ | refine kSpanC0 ?_); first | ((first | apply q_allD | apply q_alli | apply q_allB) <;> (intro _ _ _ _; try contradiction)) | ((apply q_allv); intro _ _ _)) | refine xSpanC0 ?_ | refine xSpanB1 ?_ | refine xSpanB0 ?_ | fail)); all_goals (conv => whnf); all_goals (try with_reducible apply At.mk)))
        apply q_callB
        focus (exact byNext)
        focus (exact byLo)
        focus exact less_r lk.LB rt.LB
        · intro hb; exact absurd (of_decide_eq_true hb) (lk.no_more rt)
        intro hb41 h41 q41 n41
        (focus ((try with_reducible apply wpC.to); (repeat' ((conv => whnf); first | refine byEv ?_ | ((apply Fork.mk) <;> (intro _; try (exfalso; omega; done))) | ((first | refine kSpanZu2 ?_ | refine kSpanZu0 ?_ | refine kSpanC2 ?_ | refine kSpanC0 ?_); first | ((first | apply q_allD | apply q_alli | apply q_allB) <;> (intro _ _ _ _; try contradiction)) | ((apply q_allv); intro _ _ _)) | refine xSpanC0 ?_ | refine xSpanB1 ?_ | refine xSpanB0 ?_ | fail)); all_goals (conv => whnf); all_goals (try with_reducible apply At.mk)))
        (refine byFin ?_)
        rfl
    · rcases lerr_is e2 with ⟨c, el⟩ | ⟨c, b, el⟩ | ⟨c, b, el⟩
      · (focus ((try with_reducible apply wpC.to); (repeat' ((conv => whnf); first | refine byEv ?_ | ((apply Fork.mk) <;> (intro _; try (exfalso; omega; done))) | ((first | refine kSpanZu2 ?_ | refine kSpanZu0 ?_ | refine kSpanC2 ?_ | refine kSpanC0 ?_); first | ((first | apply q_allD | apply q_alli | apply q_allB) <;> (intro _ _ _ _; try contradiction)) | ((apply q_allv); intro _ _ _)) | refine xSpanC0 ?_ | refine xSpanB1 ?_ | refine xSpanB0 ?_ | fail)); all_goals (conv => whnf); all_goals (try with_reducible apply At.mk)))
        apply q_callv
        focus (exact byNext)
        focus (exact byLo)
        focus exact least_w (L := L) (m := m) (p := p) (q := q) byOm (hL.same bySame (Nat.le_refl _))
        intro h42 q42 n42
        rw [el]
        unfold Fr.cells
        (focus ((try with_reducible apply wpC.to); (repeat' ((conv => whnf); first | refine byEv ?_ | ((apply Fork.mk) <;> (intro _; try (exfalso; omega; done))) | ((first | refine kSpanZu2 ?_ | refine kSpanZu0 ?_ | refine kSpanC2 ?_ | refine kSpanC0 ?_); first | ((first | apply q_allD | apply q_alli | apply q_allB) <;> (intro _ _ _ _; try contradiction)) | ((apply q_allv); intro _ _ _)) | refine xSpanC0 ?_ | refine xSpanB1 ?_ | refine xSpanB0 ?_ | fail)); all_goals (conv => whnf); all_goals (try with_reducible apply At.mk)))
        apply q_callv
        focus (exact byNext)
        focus (exact byLo)
        focus exact checkProof_w (L := L) (P := P) (m := m) (p := p) (q := q) (tm := tm) byOm (hL.same bySame (Nat.le_refl _)) (hP' _ bySame)
        intro h43 q43 n43
        unfold Fr.cells
        (focus ((try with_reducible apply wpC.to); (repeat' ((conv => whnf); first | refine byEv ?_ | ((apply Fork.mk) <;> (intro _; try (exfalso; omega; done))) | ((first | refine kSpanZu2 ?_ | refine kSpanZu0 ?_ | refine kSpanC2 ?_ | refine kSpanC0 ?_); first | ((first | apply q_allD | apply q_alli | apply q_allB) <;> (intro _ _ _ _; try contradiction)) | ((apply q_allv); intro _ _ _)) | refine xSpanC0 ?_ | refine xSpanB1 ?_ | refine xSpanB0 ?_ | fail)); all_goals (conv => whnf); all_goals (try with_reducible apply At.mk)))
        (refine byFin ?_)
        rfl
      · (focus ((try with_reducible apply wpC.to); (repeat' ((conv => whnf); first | refine byEv ?_ | ((apply Fork.mk) <;> (intro _; try (exfalso; omega; done))) | ((first | refine kSpanZu2 ?_ | refine kSpanZu0 ?_ | refine kSpanC2 ?_ | refine kSpanC0 ?_); first | ((first | apply q_allD | apply q_alli | apply q_allB) <;> (intro _ _ _ _; try contradiction)) | ((apply q_allv); intro _ _ _)) | refine xSpanC0 ?_ | refine xSpanB1 ?_ | refine xSpanB0 ?_ | fail)); all_goals (conv => whnf); all_goals (try with_reducible apply At.mk)))
        apply q_callv
        focus (exact byNext)
        focus (exact byLo)
        focus exact least_w (L := L) (m := m) (p := p) (q := q) byOm (hL.same bySame (Nat.le_refl _))
        intro h44 q44 n44
        rw [el]
        unfold Fr.cells
        (focus ((try with_reducible apply wpC.to); (repeat' ((conv => whnf); first | refine byEv ?_ | ((apply Fork.mk) <;> (intro _; try (exfalso; omega; done))) | ((first | refine kSpanZu2 ?_ | refine kSpanZu0 ?_ | refine kSpanC2 ?_ | refine kSpanC0 ?_); first | ((first | apply q_allD | apply q_alli | apply q_allB) <;> (intro _ _ _ _; try contradiction)) | ((apply q_allv); intro _ _ _)) | refine xSpanC0 ?_ | refine xSpanB1 ?_ | refine xSpanB0 ?_ | fail)); all_goals (conv => whnf); all_goals (try with_reducible apply At.mk)))
        apply q_callv
        focus (exact byNext)
        focus (exact byLo)
        focus exact checkProof_w (L := L) (P := P) (m := m) (p := p) (q := q) (tm := tm) byOm (hL.same bySame (Nat.le_refl _)) (hP' _ bySame)
        intro h45 q45 n45
        unfold Fr.cells
        (focus ((try with_reducible apply wpC.to); (repeat' ((conv => whnf); first | refine byEv ?_ | ((apply Fork.mk) <;> (intro _; try (exfalso; omega; done))) | ((first | refine kSpanZu2 ?_ | refine kSpanZu0 ?_ | refine kSpanC2 ?_ | refine kSpanC0 ?_); first | ((first | apply q_allD | apply q_alli | apply q_allB) <;> (intro _ _ _ _; try contradiction)) | ((apply q_allv); intro _ _ _)) | refine xSpanC0 ?_ | refine xSpanB1 ?_ | refine xSpanB0 ?_ | fail)); all_goals (conv => whnf); all_goals (try with_reducible apply At.mk)))
        (refine byFin ?_)
        rfl
      · obtain ⟨N, D, lk⟩ := lv_ok el
        (focus ((try with_reducible apply wpC.to); (repeat' ((conv => whnf); first | refine byEv ?_ | ((apply Fork.mk) <;> (intro _; try (exfalso; omega; done))) | ((first | refine kSpanZu2 ?_ | refine kSpanZu0 ?_ | refine kSpanC2 ?_ | refine kSpanC0 ?_); first | ((first | apply q_allD | apply q_alli | apply q_allB) <;> (intro _ _ _ _; try contradiction)) | ((apply q_allv); intro _ _ _)) | refine xSpanC0 ?_ | refine xSpanB1 ?_ | refine xSpanB0 ?_ | fail)); all_goals (conv => whnf); all_goals (try with_reducible apply At.mk)))
        apply q_callv
        focus (exact byNext)
        focus (exact byLo)
        focus exact least_w (L := L) (m := m) (p := p) (q := q) byOm (hL.same bySame (Nat.le_refl _))
        intro h46 q46 n46
        rw [el]
        unfold Fr.cells
        (focus ((try with_reducible apply wpC.to); (repeat' ((conv => whnf); first | refine byEv ?_ | ((apply Fork.mk) <;> (intro _; try (exfalso; omega; done))) | ((first | refine kSpanZu2 ?_ | refine kSpanZu0 ?_ | refine kSpanC2 ?_ | refine kSpanC0 ?_); first | ((first | apply q_allD | apply q_alli | apply q_allB) <;> (intro _ _ _ _; try contradiction)) | ((apply q_allv); intro _ _ _)) | refine xSpanC0 ?_ | refine xSpanB1 ?_ | refine xSpanB0 ?_ | fail)); all_goals (conv => whnf); all_goals (try with_reducible apply At.mk)))
        apply q_callv
        focus (exact byNext)
        focus (exact byLo)
        focus exact checkProof_w (L := L) (P := P) (m := m) (p := p) (q := q) (tm := tm) byOm (hL.same bySame (Nat.le_refl _)) (hP' _ bySame)
        intro h47 q47 n47
        unfold Fr.cells
        (focus ((try with_reducible apply wpC.to); (repeat' ((conv => whnf); first | refine byEv ?_ | ((apply Fork.mk) <;> (intro _; try (exfalso; omega; done))) | ((first | refine kSpanZu2 ?_ | refine kSpanZu0 ?_ | refine kSpanC2 ?_ | refine kSpanC0 ?_); first | ((first | apply q_allD | apply q_alli | apply q_allB) <;> (intro _ _ _ _; try contradiction)) | ((apply q_allv); intro _ _ _)) | refine xSpanC0 ?_ | refine xSpanB1 ?_ | refine xSpanB0 ?_ | fail)); all_goals (conv => whnf); all_goals (try with_reducible apply At.mk)))
        apply q_callv
        focus (exact byNext)
        focus (exact byLo)
        focus exact proved_l (L := L) (m := m) (p := p) (q := q) byOm (hL.same bySame (Nat.le_refl _)) el
        intro h48 q48 n48
        unfold Fr.cells
        (focus ((try with_reducible apply wpC.to); (repeat' ((conv => whnf); first | refine byEv ?_ | ((apply Fork.mk) <;> (intro _; try (exfalso; omega; done))) | ((first | refine kSpanZu2 ?_ | refine kSpanZu0 ?_ | refine kSpanC2 ?_ | refine kSpanC0 ?_); first | ((first | apply q_allD | apply q_alli | apply q_allB) <;> (intro _ _ _ _; try contradiction)) | ((apply q_allv); intro _ _ _)) | refine xSpanC0 ?_ | refine xSpanB1 ?_ | refine xSpanB0 ?_ | fail)); all_goals (conv => whnf); all_goals (try with_reducible apply At.mk)))
        (refine byFin ?_)
        rfl
end AE.Try
