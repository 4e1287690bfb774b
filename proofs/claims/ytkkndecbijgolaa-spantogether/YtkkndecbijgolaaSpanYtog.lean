/- Walks of the laws of spans: SpanTogether. -/
import Derived.Test.YtkkndecbijgolaaJoin1
set_option linter.unusedVariables false
set_option linter.unusedSimpArgs false
set_option linter.unusedSectionVars false
namespace AE.Try
open Go AE Go.Proofs AE.Sp
set_option maxRecDepth 100000
set_option linter.unusedVariables false

theorem bnd_add {L : Runs} (lv : L.Val) {a b c d : Int} (h1 : BndR L a b) (h2 : BndR L c d) : BndR L (a + c) (b + d) := by
  by_cases hx : ∃ i j, i < L.n ∧ j < i ∧ crp (L.f i) (L.f j) ≠ 0
  · exact .inr (.inl hx)
  have par : ∀ i j, i < L.n → j < i → crp (L.f i) (L.f j) = 0 := fun i j hi hj => Classical.byContradiction fun h => hx ⟨i, j, hi, hj, h⟩
  have h1' := h1
  rcases h1 with ⟨rfl, rfl⟩ | h | ⟨i, hi, e1⟩
  · rw [Int.zero_add, Int.zero_add]; exact h2
  · exact absurd h hx
  · rcases h2 with ⟨rfl, rfl⟩ | h | ⟨j, hj, e2⟩
    · rw [Int.add_zero, Int.add_zero]; exact h1'
    · exact absurd h hx
    · refine .inr (.inr ⟨i, hi, ?_⟩)
      have c0 := crp_all par hi hj
      unfold crp at c0
      have nz := (lv j hj).nz
      have key : (L.f i).p * d - (L.f i).q * c = 0 := by
        rcases nz with h | h
        · refine zero_of_mul h ?_
          have x1 : (L.f j).p * ((L.f i).p * d - (L.f i).q * c) = (L.f i).p * ((L.f j).p * d) - (L.f i).q * (L.f j).p * c := by rw [Int.mul_sub]; congr 1 <;> ac_rfl
          rw [x1, e2]
          have x2 : (L.f i).p * ((L.f j).q * c) = (L.f i).p * (L.f j).q * c := by ac_rfl
          rw [x2, ← Int.sub_mul, c0, Int.zero_mul]
        · refine zero_of_mul h ?_
          have x1 : (L.f j).q * ((L.f i).p * d - (L.f i).q * c) = (L.f i).p * (L.f j).q * d - (L.f i).q * ((L.f j).q * c) := by rw [Int.mul_sub]; congr 1 <;> ac_rfl
          rw [x1, ← e2]
          have x2 : (L.f i).q * ((L.f j).p * d) = (L.f i).q * (L.f j).p * d := by ac_rfl
          rw [x2, ← Int.sub_mul, c0, Int.zero_mul]
      rw [Int.mul_add, Int.mul_add]
      omega
theorem bnd_mul {L : Runs} (n : Int) {a b : Int} (h : BndR L a b) : BndR L (n * a) (n * b) := by
  rcases h with ⟨rfl, rfl⟩ | h | ⟨i, hi, e⟩
  · exact .inl ⟨Int.mul_zero n, Int.mul_zero n⟩
  · exact .inr (.inl h)
  · refine .inr (.inr ⟨i, hi, ?_⟩)
    have x1 : (L.f i).p * (n * b) = n * ((L.f i).p * b) := by ac_rfl
    have x2 : (L.f i).q * (n * a) = n * ((L.f i).q * a) := by ac_rfl
    rw [x1, x2, e]
theorem opp_le {L : Runs} {p q N D N' D' : Int} (k : LvOk L p q N D) (k' : LvOk L (-p) (-q) N' D') : (L.lval p q).n * (L.lval (-p) (-q)).d ≤ -(L.lval (-p) (-q)).n * (L.lval p q).d := by
  obtain ⟨t, h1, h2, h3⟩ := k.k.at'
  have h4 := k'.k.le t h1 h3
  have e2 : -p * t.a + -q * t.b = -(p * t.a + q * t.b) := by rw [Int.neg_mul, Int.neg_mul]; omega
  rw [e2] at h4
  have hd := k.d
  have le : N * D' ≤ -N' * D := by
    refine le_of_mul h3 ?_
    have m := Int.mul_le_mul_of_nonneg_right h4 (show 0 ≤ D by omega)
    have e3 : N' * t.d * D = N' * D * t.d := by ac_rfl
    have e4 : -(p * t.a + q * t.b) * D' * D = -((p * t.a + q * t.b) * D) * D' := by rw [← Int.neg_mul]; ac_rfl
    have e5 : -(N * t.d) * D' = -(N * D' * t.d) := by rw [Int.neg_mul]; congr 1; ac_rfl
    rw [e3, e4, h2, e5] at m
    rw [Int.neg_mul, Int.neg_mul]
    omega
  rw [k.e, k'.e]
  have f2 : FrOf ⟨-(fr N' D').n, (fr N' D').d⟩ (-N') D' := by
    obtain ⟨a1, g, a2, a3, a4⟩ := fr_of (n := N') k'.d.1
    refine ⟨a1, g, a2, ?_, a4⟩
    dsimp only
    rw [Int.neg_mul]; omega
  exact (fr_of (n := N) k.d.1).le f2 le
theorem sum_le {L : Runs} {a b c d N1 D1 N2 D2 N3 D3 : Int} (k1 : LvOk L a b N1 D1) (k2 : LvOk L c d N2 D2) (k3 : LvOk L (a + c) (b + d) N3 D3) :
    ((L.lval a b).n * (L.lval c d).d + (L.lval c d).n * (L.lval a b).d) * (L.lval (a + c) (b + d)).d ≤ (L.lval (a + c) (b + d)).n * (L.lval a b).d * (L.lval c d).d := by
  obtain ⟨t, h1, h2, h3⟩ := k3.k.at'
  have l1 := k1.k.le t h1 h3
  have l2 := k2.k.le t h1 h3
  have d1 := k1.d.1
  have d2 := k2.d.1
  have d3 := k3.d.1
  have key : (N1 * D2 + N2 * D1) * D3 ≤ N3 * D1 * D2 := by
    refine le_of_mul h3 ?_
    have m1 := Int.mul_le_mul_of_nonneg_right l1 (show 0 ≤ D2 * D3 from Int.mul_nonneg (by omega) (by omega))
    have m2 := Int.mul_le_mul_of_nonneg_right l2 (show 0 ≤ D1 * D3 from Int.mul_nonneg (by omega) (by omega))
    have e1 : (N1 * D2 + N2 * D1) * D3 * t.d = N1 * t.d * (D2 * D3) + N2 * t.d * (D1 * D3) := by grind
    have e2 : N3 * D1 * D2 * t.d = N3 * t.d * (D1 * D2) := by ac_rfl
    have e3 : ((a + c) * t.a + (b + d) * t.b) * D3 * (D1 * D2) = (a * t.a + b * t.b) * D1 * (D2 * D3) + (c * t.a + d * t.b) * D2 * (D1 * D3) := by grind
    rw [e1, e2, ← h2, e3]
    omega
  rw [k1.e, k2.e, k3.e]
  obtain ⟨-, g1, p1, n1, q1⟩ := fr_of (n := N1) d1
  obtain ⟨-, g2, p2, n2, q2⟩ := fr_of (n := N2) d2
  obtain ⟨-, g3, p3, n3, q3⟩ := fr_of (n := N3) d3
  generalize fr N1 D1 = x at *
  generalize fr N2 D2 = y at *
  generalize fr N3 D3 = z at *
  subst n1 q1 n2 q2 n3 q3
  refine Int.le_of_mul_le_mul_right (a := g1 * g2 * g3) ?_ (Int.mul_pos (Int.mul_pos p1 p2) p3)
  have e1 : (x.n * y.d + y.n * x.d) * z.d * (g1 * g2 * g3) = (x.n * g1 * (y.d * g2) + y.n * g2 * (x.d * g1)) * (z.d * g3) := by grind
  have e2 : z.n * x.d * y.d * (g1 * g2 * g3) = z.n * g3 * (x.d * g1) * (y.d * g2) := by ac_rfl
  rw [e1, e2]
  exact key
theorem mul_val {L : Runs} {a b N D n : Int} (hn : 0 ≤ n) (k : LvOk L a b N D) (he : L.lerr (n * a) (n * b) = 0) : L.lval (n * a) (n * b) = fr (n * (L.lval a b).n) (L.lval a b).d := by
  have hd := k.d.1
  have l : Lst L (n * a) (n * b) (n * N) D := by
    obtain ⟨t, h1, h2, h3⟩ := k.k.at'
    have ee : ∀ t : Tru, (n * a * t.a + n * b * t.b) * D = n * ((a * t.a + b * t.b) * D) := fun t => by grind
    refine ⟨hd, ⟨t, h1, ?_, h3⟩, fun s hs hsd => ?_⟩
    · rw [ee, h2]; ac_rfl
    · rw [ee]
      have := Int.mul_le_mul_of_nonneg_left (k.k.le s hs hsd) hn
      have x : n * N * s.d = n * (N * s.d) := by ac_rfl
      omega
  rw [l.val he]
  have f := fr_of (n := N) hd
  rw [k.e]
  refine fr_eq hd f.d0 ?_
  have c := f.cross
  have x1 : n * N * (fr N D).d = n * (N * (fr N D).d) := by ac_rfl
  have x2 : n * (fr N D).n * D = n * ((fr N D).n * D) := by ac_rfl
  rw [x1, x2, c]
open Classical in
set_option maxHeartbeats 16000000 in
theorem tog_law {h : H} {L : Runs} {m : Nat} {a b c d z : Int} (hm : m ≤ h.next) (hL : L.Ok m h) (hz : 0 ≤ z ∧ z < 256) : AW Try.prog 9 h.next h [.slice L.b L.n L.c, .agg ⟨[.int .i64 a, .int .i64 b]⟩, .agg ⟨[.int .i64 c, .int .i64 d]⟩, .int .u8 z] (fun v _ => v = .bool true) := by
  have ll := hL.l
  refine fun9.call rfl (Nat.le_refl _) ?_
  unfold a9
  by_cases e1 : L.err2 a b ≠ 0
  · (focus ((try with_reducible apply wpC.to); (repeat' ((conv => whnf); first | refine byEv ?_ | ((apply Fork.mk) <;> (intro _; try (exfalso; omega; done))) | ((first | refine kSpanZu2 ?_ | refine kSpanZu1 ?_ | refine kSpanZu0 ?_); first | ((first | apply q_allD | apply q_alli | apply q_allB) <;> (intro _ _ _ _; try contradiction)) | ((apply q_allv); intro _ _ _)) | refine xSpanC0 ?_ | refine xSpanB1 ?_ | refine xSpanB0 ?_ | fail)); all_goals (conv => whnf); all_goals (try with_reducible apply At.mk)))
    (refine byFin ?_)
    rfl
  have e1 : L.err2 a b = 0 := by omega
  by_cases e2 : L.err2 c d ≠ 0
  · (focus ((try with_reducible apply wpC.to); (repeat' ((conv => whnf); first | refine byEv ?_ | ((apply Fork.mk) <;> (intro _; try (exfalso; omega; done))) | ((first | refine kSpanZu2 ?_ | refine kSpanZu1 ?_ | refine kSpanZu0 ?_); first | ((first | apply q_allD | apply q_alli | apply q_allB) <;> (intro _ _ _ _; try contradiction)) | ((apply q_allv); intro _ _ _)) | refine xSpanC0 ?_ | refine xSpanB1 ?_ | refine xSpanB0 ?_ | fail)); all_goals (conv => whnf); all_goals (try with_reducible apply At.mk)))
    (refine byFin ?_)
    rfl
  have e2 : L.err2 c d = 0 := by omega
  obtain ⟨e0, f1⟩ := Runs.err2_0 e1
  obtain ⟨-, f2⟩ := Runs.err2_0 e2
  obtain ⟨ln, lv⟩ := L.err_0 e0
  obtain ⟨⟨f11, f12⟩, f13, f14⟩ := id f1
  obtain ⟨⟨f21, f22⟩, f23, f24⟩ := id f2
  have e3 : L.err2 (-a) (-b) = 0 := Runs.err2_of e0 (fac_neg f1)
  have nn : 0 ≤ z % 21 ∧ z % 21 < 21 := by omega
  have mna := mul_bnd (a := z % 21) (A := 21) (b := a) (B := 20) (by omega) (by omega) (by omega) (by omega)
  have mnb := mul_bnd (a := z % 21) (A := 21) (b := b) (B := 20) (by omega) (by omega) (by omega) (by omega)
  rcases lerr_is e1 with ⟨cl, l1⟩ | ⟨cl, nb, l1⟩ | ⟨cl, bd, l1⟩
  · have l2 := Runs.lerr_20 e2 cl
    have l3 := Runs.lerr_20 e3 cl
    (focus ((try with_reducible apply wpC.to); (repeat' ((conv => whnf); first | refine byEv ?_ | ((apply Fork.mk) <;> (intro _; try (exfalso; omega; done))) | ((first | refine kSpanZu2 ?_ | refine kSpanZu1 ?_ | refine kSpanZu0 ?_); first | ((first | apply q_allD | apply q_alli | apply q_allB) <;> (intro _ _ _ _; try contradiction)) | ((apply q_allv); intro _ _ _)) | refine xSpanC0 ?_ | refine xSpanB1 ?_ | refine xSpanB0 ?_ | fail)); all_goals (conv => whnf); all_goals (try with_reducible apply At.mk)))
    apply q_callv
    focus (exact byNext)
    focus (exact byLo)
    focus exact least_w (L := L) (m := m) (p := a) (q := b) byOm (hL.same bySame (Nat.le_refl _))
    intro h14 q14 n14
    rw [l1]
    unfold Fr.cells
    (focus ((try with_reducible apply wpC.to); (repeat' ((conv => whnf); first | refine byEv ?_ | ((apply Fork.mk) <;> (intro _; try (exfalso; omega; done))) | ((first | refine kSpanZu2 ?_ | refine kSpanZu1 ?_ | refine kSpanZu0 ?_); first | ((first | apply q_allD | apply q_alli | apply q_allB) <;> (intro _ _ _ _; try contradiction)) | ((apply q_allv); intro _ _ _)) | refine xSpanC0 ?_ | refine xSpanB1 ?_ | refine xSpanB0 ?_ | fail)); all_goals (conv => whnf); all_goals (try with_reducible apply At.mk)))
    apply q_callv
    focus (exact byNext)
    focus (exact byLo)
    focus exact least_w (L := L) (m := m) (p := c) (q := d) byOm (hL.same bySame (Nat.le_refl _))
    intro h15 q15 n15
    rw [l2]
    unfold Fr.cells
    (focus ((try with_reducible apply wpC.to); (repeat' ((conv => whnf); first | refine byEv ?_ | ((apply Fork.mk) <;> (intro _; try (exfalso; omega; done))) | ((first | refine kSpanZu2 ?_ | refine kSpanZu1 ?_ | refine kSpanZu0 ?_); first | ((first | apply q_allD | apply q_alli | apply q_allB) <;> (intro _ _ _ _; try contradiction)) | ((apply q_allv); intro _ _ _)) | refine xSpanC0 ?_ | refine xSpanB1 ?_ | refine xSpanB0 ?_ | fail)); all_goals (conv => whnf); all_goals (try with_reducible apply At.mk)))
    apply q_callv
    focus (exact byNext)
    focus (exact byLo)
    focus exact least_w (L := L) (m := m) (p := (-a)) (q := (-b)) byOm (hL.same bySame (Nat.le_refl _))
    intro h16 q16 n16
    rw [l3]
    unfold Fr.cells
    (focus ((try with_reducible apply wpC.to); (repeat' ((conv => whnf); first | refine byEv ?_ | ((apply Fork.mk) <;> (intro _; try (exfalso; omega; done))) | ((first | refine kSpanZu2 ?_ | refine kSpanZu1 ?_ | refine kSpanZu0 ?_); first | ((first | apply q_allD | apply q_alli | apply q_allB) <;> (intro _ _ _ _; try contradiction)) | ((apply q_allv); intro _ _ _)) | refine xSpanC0 ?_ | refine xSpanB1 ?_ | refine xSpanB0 ?_ | fail)); all_goals (conv => whnf); all_goals (try with_reducible apply At.mk)))
    all_goals ((refine byFin ?_); rfl)
  · have l3 : L.lerr (-a) (-b) = 5 := Runs.lerr_5 e3 cl fun k => nb (by have := bnd_negI lv k; rw [Int.neg_neg, Int.neg_neg] at this; exact this)
    rcases lerr_is e2 with ⟨cl2, l2⟩ | ⟨cl2, nb2, l2⟩ | ⟨cl2, bd2, l2⟩
    · exact absurd cl cl2
    · (focus ((try with_reducible apply wpC.to); (repeat' ((conv => whnf); first | refine byEv ?_ | ((apply Fork.mk) <;> (intro _; try (exfalso; omega; done))) | ((first | refine kSpanZu2 ?_ | refine kSpanZu1 ?_ | refine kSpanZu0 ?_); first | ((first | apply q_allD | apply q_alli | apply q_allB) <;> (intro _ _ _ _; try contradiction)) | ((apply q_allv); intro _ _ _)) | refine xSpanC0 ?_ | refine xSpanB1 ?_ | refine xSpanB0 ?_ | fail)); all_goals (conv => whnf); all_goals (try with_reducible apply At.mk)))
      apply q_callv
      focus (exact byNext)
      focus (exact byLo)
      focus exact least_w (L := L) (m := m) (p := a) (q := b) byOm (hL.same bySame (Nat.le_refl _))
      intro h17 q17 n17
      rw [l1]
      unfold Fr.cells
      (focus ((try with_reducible apply wpC.to); (repeat' ((conv => whnf); first | refine byEv ?_ | ((apply Fork.mk) <;> (intro _; try (exfalso; omega; done))) | ((first | refine kSpanZu2 ?_ | refine kSpanZu1 ?_ | refine kSpanZu0 ?_); first | ((first | apply q_allD | apply q_alli | apply q_allB) <;> (intro _ _ _ _; try contradiction)) | ((apply q_allv); intro _ _ _)) | refine xSpanC0 ?_ | refine xSpanB1 ?_ | refine xSpanB0 ?_ | fail)); all_goals (conv => whnf); all_goals (try with_reducible apply At.mk)))
      apply q_callv
      focus (exact byNext)
      focus (exact byLo)
      focus exact least_w (L := L) (m := m) (p := c) (q := d) byOm (hL.same bySame (Nat.le_refl _))
      intro h18 q18 n18
      rw [l2]
      unfold Fr.cells
      (focus ((try with_reducible apply wpC.to); (repeat' ((conv => whnf); first | refine byEv ?_ | ((apply Fork.mk) <;> (intro _; try (exfalso; omega; done))) | ((first | refine kSpanZu2 ?_ | refine kSpanZu1 ?_ | refine kSpanZu0 ?_); first | ((first | apply q_allD | apply q_alli | apply q_allB) <;> (intro _ _ _ _; try contradiction)) | ((apply q_allv); intro _ _ _)) | refine xSpanC0 ?_ | refine xSpanB1 ?_ | refine xSpanB0 ?_ | fail)); all_goals (conv => whnf); all_goals (try with_reducible apply At.mk)))
      apply q_callv
      focus (exact byNext)
      focus (exact byLo)
      focus exact least_w (L := L) (m := m) (p := (-a)) (q := (-b)) byOm (hL.same bySame (Nat.le_refl _))
      intro h19 q19 n19
      rw [l3]
      unfold Fr.cells
      (focus ((try with_reducible apply wpC.to); (repeat' ((conv => whnf); first | refine byEv ?_ | ((apply Fork.mk) <;> (intro _; try (exfalso; omega; done))) | ((first | refine kSpanZu2 ?_ | refine kSpanZu1 ?_ | refine kSpanZu0 ?_); first | ((first | apply q_allD | apply q_alli | apply q_allB) <;> (intro _ _ _ _; try contradiction)) | ((apply q_allv); intro _ _ _)) | refine xSpanC0 ?_ | refine xSpanB1 ?_ | refine xSpanB0 ?_ | fail)); all_goals (conv => whnf); all_goals (try with_reducible apply At.mk)))
      all_goals ((refine byFin ?_); rfl)
    · (focus ((try with_reducible apply wpC.to); (repeat' ((conv => whnf); first | refine byEv ?_ | ((apply Fork.mk) <;> (intro _; try (exfalso; omega; done))) | ((first | refine kSpanZu2 ?_ | refine kSpanZu1 ?_ | refine kSpanZu0 ?_); first | ((first | apply q_allD | apply q_alli | apply q_allB) <;> (intro _ _ _ _; try contradiction)) | ((apply q_allv); intro _ _ _)) | refine xSpanC0 ?_ | refine xSpanB1 ?_ | refine xSpanB0 ?_ | fail)); all_goals (conv => whnf); all_goals (try with_reducible apply At.mk)))
      apply q_callv
      focus (exact byNext)
      focus (exact byLo)
      focus exact least_w (L := L) (m := m) (p := a) (q := b) byOm (hL.same bySame (Nat.le_refl _))
      intro h20 q20 n20
      rw [l1]
      unfold Fr.cells
      (focus ((try with_reducible apply wpC.to); (repeat' ((conv => whnf); first | refine byEv ?_ | ((apply Fork.mk) <;> (intro _; try (exfalso; omega; done))) | ((first | refine kSpanZu2 ?_ | refine kSpanZu1 ?_ | refine kSpanZu0 ?_); first | ((first | apply q_allD | apply q_alli | apply q_allB) <;> (intro _ _ _ _; try contradiction)) | ((apply q_allv); intro _ _ _)) | refine xSpanC0 ?_ | refine xSpanB1 ?_ | refine xSpanB0 ?_ | fail)); all_goals (conv => whnf); all_goals (try with_reducible apply At.mk)))
      apply q_callv
      focus (exact byNext)
      focus (exact byLo)
      focus exact least_w (L := L) (m := m) (p := c) (q := d) byOm (hL.same bySame (Nat.le_refl _))
      intro h21 q21 n21
      rw [l2]
      unfold Fr.cells
      (focus ((try with_reducible apply wpC.to); (repeat' ((conv => whnf); first | refine byEv ?_ | ((apply Fork.mk) <;> (intro _; try (exfalso; omega; done))) | ((first | refine kSpanZu2 ?_ | refine kSpanZu1 ?_ | refine kSpanZu0 ?_); first | ((first | apply q_allD | apply q_alli | apply q_allB) <;> (intro _ _ _ _; try contradiction)) | ((apply q_allv); intro _ _ _)) | refine xSpanC0 ?_ | refine xSpanB1 ?_ | refine xSpanB0 ?_ | fail)); all_goals (conv => whnf); all_goals (try with_reducible apply At.mk)))
      apply q_callv
      focus (exact byNext)
      focus (exact byLo)
      focus exact least_w (L := L) (m := m) (p := (-a)) (q := (-b)) byOm (hL.same bySame (Nat.le_refl _))
      intro h22 q22 n22
      rw [l3]
      unfold Fr.cells
      (focus ((try with_reducible apply wpC.to); (repeat' ((conv => whnf); first | refine byEv ?_ | ((apply Fork.mk) <;> (intro _; try (exfalso; omega; done))) | ((first | refine kSpanZu2 ?_ | refine kSpanZu1 ?_ | refine kSpanZu0 ?_); first | ((first | apply q_allD | apply q_alli | apply q_allB) <;> (intro _ _ _ _; try contradiction)) | ((apply q_allv); intro _ _ _)) | refine xSpanC0 ?_ | refine xSpanB1 ?_ | refine xSpanB0 ?_ | fail)); all_goals (conv => whnf); all_goals (try with_reducible apply At.mk)))
      all_goals ((refine byFin ?_); rfl)
  · have l3 : L.lerr (-a) (-b) = 0 := Runs.lerr_ok e3 cl (bnd_negI lv bd)
    obtain ⟨N1, D1, k1⟩ := lv_ok l1
    obtain ⟨N3, D3, k3⟩ := lv_ok l3
    have r1 := k1.rng
    have r3 := k3.rng
    have op := opp_le k1 k3
    have m1 := mul_bnd (a := (L.lval a b).n) (A := 160000000) (b := (L.lval (-a) (-b)).d) (B := 800) (by omega) (by omega) (by omega) (by omega)
    have m3 := mul_bnd (a := -(L.lval (-a) (-b)).n) (A := 160000000) (b := (L.lval a b).d) (B := 800) (by omega) (by omega) (by omega) (by omega)
    have mm := mul_bnd (a := z % 21) (A := 21) (b := (L.lval a b).n) (B := 160000000) (by omega) (by omega) (by omega) (by omega)
    have four : Fac (z % 21 * a) (z % 21 * b) → L.lerr (z % 21 * a) (z % 21 * b) = 0 ∧ L.lval (z % 21 * a) (z % 21 * b) = fr (z % 21 * (L.lval a b).n) (L.lval a b).d := fun f => by
      have e := Runs.lerr_ok (Runs.err2_of e0 f) cl ((bnd_iff lv).1 (bnd_mul (z % 21) ((bnd_iff lv).2 bd)))
      exact ⟨e, mul_val nn.1 k1 e⟩
    rcases lerr_is e2 with ⟨cl2, l2⟩ | ⟨cl2, nb2, l2⟩ | ⟨cl2, bd2, l2⟩
    · exact absurd cl cl2
    · (focus ((try with_reducible apply wpC.to); (repeat' ((conv => whnf); first | refine byEv ?_ | ((apply Fork.mk) <;> (intro _; try (exfalso; omega; done))) | ((first | refine kSpanZu2 ?_ | refine kSpanZu1 ?_ | refine kSpanZu0 ?_); first | ((first | apply q_allD | apply q_alli | apply q_allB) <;> (intro _ _ _ _; try contradiction)) | ((apply q_allv); intro _ _ _)) | refine xSpanC0 ?_ | refine xSpanB1 ?_ | refine xSpanB0 ?_ | fail)); all_goals (conv => whnf); all_goals (try with_reducible apply At.mk)))
      apply q_callv
      focus (exact byNext)
      focus (exact byLo)
      focus exact least_w (L := L) (m := m) (p := a) (q := b) byOm (hL.same bySame (Nat.le_refl _))
      intro h24 q24 n24
      rw [l1]
      unfold Fr.cells
      (focus ((try with_reducible apply wpC.to); (repeat' ((conv => whnf); first | refine byEv ?_ | ((apply Fork.mk) <;> (intro _; try (exfalso; omega; done))) | ((first | refine kSpanZu2 ?_ | refine kSpanZu1 ?_ | refine kSpanZu0 ?_); first | ((first | apply q_allD | apply q_alli | apply q_allB) <;> (intro _ _ _ _; try contradiction)) | ((apply q_allv); intro _ _ _)) | refine xSpanC0 ?_ | refine xSpanB1 ?_ | refine xSpanB0 ?_ | fail)); all_goals (conv => whnf); all_goals (try with_reducible apply At.mk)))
      apply q_callv
      focus (exact byNext)
      focus (exact byLo)
      focus exact least_w (L := L) (m := m) (p := c) (q := d) byOm (hL.same bySame (Nat.le_refl _))
      intro h25 q25 n25
      rw [l2]
      unfold Fr.cells
      (focus ((try with_reducible apply wpC.to); (repeat' ((conv => whnf); first | refine byEv ?_ | ((apply Fork.mk) <;> (intro _; try (exfalso; omega; done))) | ((first | refine kSpanZu2 ?_ | refine kSpanZu1 ?_ | refine kSpanZu0 ?_); first | ((first | apply q_allD | apply q_alli | apply q_allB) <;> (intro _ _ _ _; try contradiction)) | ((apply q_allv); intro _ _ _)) | refine xSpanC0 ?_ | refine xSpanB1 ?_ | refine xSpanB0 ?_ | fail)); all_goals (conv => whnf); all_goals (try with_reducible apply At.mk)))
      apply q_callv
      focus (exact byNext)
      focus (exact byLo)
      focus exact least_w (L := L) (m := m) (p := (-a)) (q := (-b)) byOm (hL.same bySame (Nat.le_refl _))
      intro h26 q26 n26
      rw [l3]
      unfold Fr.cells
      (focus ((try with_reducible apply wpC.to); (repeat' ((conv => whnf); first | refine byEv ?_ | ((apply Fork.mk) <;> (intro _; try (exfalso; omega; done))) | ((first | refine kSpanZu2 ?_ | refine kSpanZu1 ?_ | refine kSpanZu0 ?_); first | ((first | apply q_allD | apply q_alli | apply q_allB) <;> (intro _ _ _ _; try contradiction)) | ((apply q_allv); intro _ _ _)) | refine xSpanC0 ?_ | refine xSpanB1 ?_ | refine xSpanB0 ?_ | fail)); all_goals (conv => whnf); all_goals (try with_reducible apply At.mk)))
      apply q_callB
      focus (exact byNext)
      focus (exact byLo)
      focus exact proper_l
      rotate_left
      · intro hb; exact absurd k1.proper (of_decide_eq_false hb)
      intro hb27 h27 q27 n27
      (focus ((try with_reducible apply wpC.to); (repeat' ((conv => whnf); first | refine byEv ?_ | ((apply Fork.mk) <;> (intro _; try (exfalso; omega; done))) | ((first | refine kSpanZu2 ?_ | refine kSpanZu1 ?_ | refine kSpanZu0 ?_); first | ((first | apply q_allD | apply q_alli | apply q_allB) <;> (intro _ _ _ _; try contradiction)) | ((apply q_allv); intro _ _ _)) | refine xSpanC0 ?_ | refine xSpanB1 ?_ | refine xSpanB0 ?_ | fail)); all_goals (conv => whnf); all_goals (try with_reducible apply At.mk)))
      apply q_callB
      focus (exact byNext)
      focus (exact byLo)
      focus exact proper_l
      rotate_left
      · intro hb; exact absurd k3.proper (of_decide_eq_false hb)
      intro hb28 h28 q28 n28
      (focus ((try with_reducible apply wpC.to); (repeat' ((conv => whnf); first | refine byEv ?_ | ((apply Fork.mk) <;> (intro _; try (exfalso; omega; done))) | ((first | refine kSpanZu2 ?_ | refine kSpanZu1 ?_ | refine kSpanZu0 ?_); first | ((first | apply q_allD | apply q_alli | apply q_allB) <;> (intro _ _ _ _; try contradiction)) | ((apply q_allv); intro _ _ _)) | refine xSpanC0 ?_ | refine xSpanB1 ?_ | refine xSpanB0 ?_ | fail)); all_goals (conv => whnf); all_goals (try with_reducible apply At.mk)))
      all_goals first
        | ((refine byFin ?_); rfl)
        | (obtain ⟨l4, v4⟩ := four ⟨by assumption, by assumption⟩
           apply q_callv
           focus (exact byNext)
           focus (exact byLo)
           focus exact least_w (L := L) (m := m) (p := z % 21 * a) (q := z % 21 * b) byOm (hL.same bySame (Nat.le_refl _))
           intro h91 q91 n91
           rw [l4, v4]
           unfold Fr.cells
           (focus ((try with_reducible apply wpC.to); (repeat' ((conv => whnf); first | refine byEv ?_ | ((apply Fork.mk) <;> (intro _; try (exfalso; omega; done))) | ((first | refine kSpanZu2 ?_ | refine kSpanZu1 ?_ | refine kSpanZu0 ?_); first | ((first | apply q_allD | apply q_alli | apply q_allB) <;> (intro _ _ _ _; try contradiction)) | ((apply q_allv); intro _ _ _)) | refine xSpanC0 ?_ | refine xSpanB1 ?_ | refine xSpanB0 ?_ | fail)); all_goals (conv => whnf); all_goals (try with_reducible apply At.mk)))
           apply q_callv
           focus (exact byNext)
           focus (exact byLo)
           focus exact reduced_r (by omega) (by omega)
           intro h92 q92 n92
           unfold Fr.cells
           (focus ((try with_reducible apply wpC.to); (repeat' ((conv => whnf); first | refine byEv ?_ | ((apply Fork.mk) <;> (intro _; try (exfalso; omega; done))) | ((first | refine kSpanZu2 ?_ | refine kSpanZu1 ?_ | refine kSpanZu0 ?_); first | ((first | apply q_allD | apply q_alli | apply q_allB) <;> (intro _ _ _ _; try contradiction)) | ((apply q_allv); intro _ _ _)) | refine xSpanC0 ?_ | refine xSpanB1 ?_ | refine xSpanB0 ?_ | fail)); all_goals (conv => whnf); all_goals (try with_reducible apply At.mk)))
           refine OpE.pure (.bool true) (xPure_eql (A := ⟨(fr (z % 21 * (L.lval a b).n) (L.lval a b).d).cells⟩) (B := ⟨(fr (z % 21 * (L.lval a b).n) (L.lval a b).d).cells⟩) rfl rfl rfl rfl rfl (by kernel_rfl) (same_fr _)) ?_
           (focus ((try with_reducible apply wpC.to); (repeat' ((conv => whnf); first | refine byEv ?_ | ((apply Fork.mk) <;> (intro _; try (exfalso; omega; done))) | ((first | refine kSpanZu2 ?_ | refine kSpanZu1 ?_ | refine kSpanZu0 ?_); first | ((first | apply q_allD | apply q_alli | apply q_allB) <;> (intro _ _ _ _; try contradiction)) | ((apply q_allv); intro _ _ _)) | refine xSpanC0 ?_ | refine xSpanB1 ?_ | refine xSpanB0 ?_ | fail)); all_goals (conv => whnf); all_goals (try with_reducible apply At.mk)))
           (refine byFin ?_)
           rfl)
    · obtain ⟨N2, D2, k2⟩ := lv_ok l2
      have r2 := k2.rng
      have m7 := mul_bnd (a := (L.lval a b).n) (A := 160000000) (b := (L.lval c d).d) (B := 800) (by omega) (by omega) (by omega) (by omega)
      have m8 := mul_bnd (a := (L.lval c d).n) (A := 160000000) (b := (L.lval a b).d) (B := 800) (by omega) (by omega) (by omega) (by omega)
      have five : Fac (a + c) (b + d) → L.lerr (a + c) (b + d) = 0 ∧ ∃ N D, LvOk L (a + c) (b + d) N D := fun f => by
        have e := Runs.lerr_ok (Runs.err2_of e0 f) cl ((bnd_iff lv).1 (bnd_add lv ((bnd_iff lv).2 bd) ((bnd_iff lv).2 bd2)))
        exact ⟨e, lv_ok e⟩
      (focus ((try with_reducible apply wpC.to); (repeat' ((conv => whnf); first | refine byEv ?_ | ((apply Fork.mk) <;> (intro _; try (exfalso; omega; done))) | ((first | refine kSpanZu2 ?_ | refine kSpanZu1 ?_ | refine kSpanZu0 ?_); first | ((first | apply q_allD | apply q_alli | apply q_allB) <;> (intro _ _ _ _; try contradiction)) | ((apply q_allv); intro _ _ _)) | refine xSpanC0 ?_ | refine xSpanB1 ?_ | refine xSpanB0 ?_ | fail)); all_goals (conv => whnf); all_goals (try with_reducible apply At.mk)))
      apply q_callv
      focus (exact byNext)
      focus (exact byLo)
      focus exact least_w (L := L) (m := m) (p := a) (q := b) byOm (hL.same bySame (Nat.le_refl _))
      intro h31 q31 n31
      rw [l1]
      unfold Fr.cells
      (focus ((try with_reducible apply wpC.to); (repeat' ((conv => whnf); first | refine byEv ?_ | ((apply Fork.mk) <;> (intro _; try (exfalso; omega; done))) | ((first | refine kSpanZu2 ?_ | refine kSpanZu1 ?_ | refine kSpanZu0 ?_); first | ((first | apply q_allD | apply q_alli | apply q_allB) <;> (intro _ _ _ _; try contradiction)) | ((apply q_allv); intro _ _ _)) | refine xSpanC0 ?_ | refine xSpanB1 ?_ | refine xSpanB0 ?_ | fail)); all_goals (conv => whnf); all_goals (try with_reducible apply At.mk)))
      apply q_callv
      focus (exact byNext)
      focus (exact byLo)
      focus exact least_w (L := L) (m := m) (p := c) (q := d) byOm (hL.same bySame (Nat.le_refl _))
      intro h32 q32 n32
      rw [l2]
      unfold Fr.cells
      (focus ((try with_reducible apply wpC.to); (repeat' ((conv => whnf); first | refine byEv ?_ | ((apply Fork.mk) <;> (intro _; try (exfalso; omega; done))) | ((first | refine kSpanZu2 ?_ | refine kSpanZu1 ?_ | refine kSpanZu0 ?_); first | ((first | apply q_allD | apply q_alli | apply q_allB) <;> (intro _ _ _ _; try contradiction)) | ((apply q_allv); intro _ _ _)) | refine xSpanC0 ?_ | refine xSpanB1 ?_ | refine xSpanB0 ?_ | fail)); all_goals (conv => whnf); all_goals (try with_reducible apply At.mk)))
      apply q_callv
      focus (exact byNext)
      focus (exact byLo)
      focus exact least_w (L := L) (m := m) (p := (-a)) (q := (-b)) byOm (hL.same bySame (Nat.le_refl _))
      intro h33 q33 n33
      rw [l3]
      unfold Fr.cells
      (focus ((try with_reducible apply wpC.to); (repeat' ((conv => whnf); first | refine byEv ?_ | ((apply Fork.mk) <;> (intro _; try (exfalso; omega; done))) | ((first | refine kSpanZu2 ?_ | refine kSpanZu1 ?_ | refine kSpanZu0 ?_); first | ((first | apply q_allD | apply q_alli | apply q_allB) <;> (intro _ _ _ _; try contradiction)) | ((apply q_allv); intro _ _ _)) | refine xSpanC0 ?_ | refine xSpanB1 ?_ | refine xSpanB0 ?_ | fail)); all_goals (conv => whnf); all_goals (try with_reducible apply At.mk)))
      apply q_callB
      focus (exact byNext)
      focus (exact byLo)
      focus exact proper_l
      rotate_left
      · intro hb; exact absurd k1.proper (of_decide_eq_false hb)
      intro hb34 h34 q34 n34
      (focus ((try with_reducible apply wpC.to); (repeat' ((conv => whnf); first | refine byEv ?_ | ((apply Fork.mk) <;> (intro _; try (exfalso; omega; done))) | ((first | refine kSpanZu2 ?_ | refine kSpanZu1 ?_ | refine kSpanZu0 ?_); first | ((first | apply q_allD | apply q_alli | apply q_allB) <;> (intro _ _ _ _; try contradiction)) | ((apply q_allv); intro _ _ _)) | refine xSpanC0 ?_ | refine xSpanB1 ?_ | refine xSpanB0 ?_ | fail)); all_goals (conv => whnf); all_goals (try with_reducible apply At.mk)))
      apply q_callB
      focus (exact byNext)
      focus (exact byLo)
      focus exact proper_l
      rotate_left
      · intro hb; exact absurd k3.proper (of_decide_eq_false hb)
      intro hb35 h35 q35 n35
      (focus ((try with_reducible apply wpC.to); (repeat' ((conv => whnf); first | refine byEv ?_ | ((apply Fork.mk) <;> (intro _; try (exfalso; omega; done))) | ((first | refine kSpanZu2 ?_ | refine kSpanZu1 ?_ | refine kSpanZu0 ?_); first | ((first | apply q_allD | apply q_alli | apply q_allB) <;> (intro _ _ _ _; try contradiction)) | ((apply q_allv); intro _ _ _)) | refine xSpanC0 ?_ | refine xSpanB1 ?_ | refine xSpanB0 ?_ | fail)); all_goals (conv => whnf); all_goals (try with_reducible apply At.mk)))
      all_goals first
        | ((refine byFin ?_); rfl)
        | (obtain ⟨l5, N5, D5, k5⟩ := five ⟨by assumption, by assumption⟩
           have r5 := k5.rng
           have sl := sum_le k1 k2 k5
           have m5 := mul_bnd (a := (L.lval (a + c) (b + d)).n) (A := 160000000) (b := (L.lval a b).d) (B := 800) (by omega) (by omega) (by omega) (by omega)
           have m6 := mul_bnd (b := (L.lval c d).d) (B := 800) m5.1 m5.2 (by omega) (by omega)
           have m9 := mul_bnd (a := (L.lval a b).n * (L.lval c d).d + (L.lval c d).n * (L.lval a b).d) (A := 256000000000) (b := (L.lval (a + c) (b + d)).d) (B := 800) (by omega) (by omega) (by omega) (by omega)
           apply q_callv
           focus (exact byNext)
           focus (exact byLo)
           focus exact least_w (L := L) (m := m) (p := a + c) (q := b + d) byOm (hL.same bySame (Nat.le_refl _))
           intro h81 q81 n81
           rw [l5]
           unfold Fr.cells
           (focus ((try with_reducible apply wpC.to); (repeat' ((conv => whnf); first | refine byEv ?_ | ((apply Fork.mk) <;> (intro _; try (exfalso; omega; done))) | ((first | refine kSpanZu2 ?_ | refine kSpanZu1 ?_ | refine kSpanZu0 ?_); first | ((first | apply q_allD | apply q_alli | apply q_allB) <;> (intro _ _ _ _; try contradiction)) | ((apply q_allv); intro _ _ _)) | refine xSpanC0 ?_ | refine xSpanB1 ?_ | refine xSpanB0 ?_ | fail)); all_goals (conv => whnf); all_goals (try with_reducible apply At.mk)))
           apply q_callB
           focus (exact byNext)
           focus (exact byLo)
           focus exact proper_l
           rotate_left
           · intro hb; exact absurd k2.proper (of_decide_eq_false hb)
           intro hb29 h29 q29 n29
           (focus ((try with_reducible apply wpC.to); (repeat' ((conv => whnf); first | refine byEv ?_ | ((apply Fork.mk) <;> (intro _; try (exfalso; omega; done))) | ((first | refine kSpanZu2 ?_ | refine kSpanZu1 ?_ | refine kSpanZu0 ?_); first | ((first | apply q_allD | apply q_alli | apply q_allB) <;> (intro _ _ _ _; try contradiction)) | ((apply q_allv); intro _ _ _)) | refine xSpanC0 ?_ | refine xSpanB1 ?_ | refine xSpanB0 ?_ | fail)); all_goals (conv => whnf); all_goals (try with_reducible apply At.mk)))
           apply q_callB
           focus (exact byNext)
           focus (exact byLo)
           focus exact proper_l
           rotate_left
           · intro hb; exact absurd k5.proper (of_decide_eq_false hb)
           intro hb30 h30 q30 n30
           (focus ((try with_reducible apply wpC.to); (repeat' ((conv => whnf); first | refine byEv ?_ | ((apply Fork.mk) <;> (intro _; try (exfalso; omega; done))) | ((first | refine kSpanZu2 ?_ | refine kSpanZu1 ?_ | refine kSpanZu0 ?_); first | ((first | apply q_allD | apply q_alli | apply q_allB) <;> (intro _ _ _ _; try contradiction)) | ((apply q_allv); intro _ _ _)) | refine xSpanC0 ?_ | refine xSpanB1 ?_ | refine xSpanB0 ?_ | fail)); all_goals (conv => whnf); all_goals (try with_reducible apply At.mk)))
           all_goals first
             | ((refine byFin ?_); rfl)
             | (obtain ⟨l4, v4⟩ := four ⟨by assumption, by assumption⟩
                apply q_callv
                focus (exact byNext)
                focus (exact byLo)
                focus exact least_w (L := L) (m := m) (p := z % 21 * a) (q := z % 21 * b) byOm (hL.same bySame (Nat.le_refl _))
                intro h91 q91 n91
                rw [l4, v4]
                unfold Fr.cells
                (focus ((try with_reducible apply wpC.to); (repeat' ((conv => whnf); first | refine byEv ?_ | ((apply Fork.mk) <;> (intro _; try (exfalso; omega; done))) | ((first | refine kSpanZu2 ?_ | refine kSpanZu1 ?_ | refine kSpanZu0 ?_); first | ((first | apply q_allD | apply q_alli | apply q_allB) <;> (intro _ _ _ _; try contradiction)) | ((apply q_allv); intro _ _ _)) | refine xSpanC0 ?_ | refine xSpanB1 ?_ | refine xSpanB0 ?_ | fail)); all_goals (conv => whnf); all_goals (try with_reducible apply At.mk)))
                apply q_callv
                focus (exact byNext)
                focus (exact byLo)
                focus exact reduced_r (by omega) (by omega)
                intro h92 q92 n92
                unfold Fr.cells
                (focus ((try with_reducible apply wpC.to); (repeat' ((conv => whnf); first | refine byEv ?_ | ((apply Fork.mk) <;> (intro _; try (exfalso; omega; done))) | ((first | refine kSpanZu2 ?_ | refine kSpanZu1 ?_ | refine kSpanZu0 ?_); first | ((first | apply q_allD | apply q_alli | apply q_allB) <;> (intro _ _ _ _; try contradiction)) | ((apply q_allv); intro _ _ _)) | refine xSpanC0 ?_ | refine xSpanB1 ?_ | refine xSpanB0 ?_ | fail)); all_goals (conv => whnf); all_goals (try with_reducible apply At.mk)))
                refine OpE.pure (.bool true) (xPure_eql (A := ⟨(fr (z % 21 * (L.lval a b).n) (L.lval a b).d).cells⟩) (B := ⟨(fr (z % 21 * (L.lval a b).n) (L.lval a b).d).cells⟩) rfl rfl rfl rfl rfl (by kernel_rfl) (same_fr _)) ?_
                (focus ((try with_reducible apply wpC.to); (repeat' ((conv => whnf); first | refine byEv ?_ | ((apply Fork.mk) <;> (intro _; try (exfalso; omega; done))) | ((first | refine kSpanZu2 ?_ | refine kSpanZu1 ?_ | refine kSpanZu0 ?_); first | ((first | apply q_allD | apply q_alli | apply q_allB) <;> (intro _ _ _ _; try contradiction)) | ((apply q_allv); intro _ _ _)) | refine xSpanC0 ?_ | refine xSpanB1 ?_ | refine xSpanB0 ?_ | fail)); all_goals (conv => whnf); all_goals (try with_reducible apply At.mk)))
                (refine byFin ?_)
                rfl))
        | (obtain ⟨l4, v4⟩ := four ⟨by assumption, by assumption⟩
           apply q_callv
           focus (exact byNext)
           focus (exact byLo)
           focus exact least_w (L := L) (m := m) (p := z % 21 * a) (q := z % 21 * b) byOm (hL.same bySame (Nat.le_refl _))
           intro h91 q91 n91
           rw [l4, v4]
           unfold Fr.cells
           (focus ((try with_reducible apply wpC.to); (repeat' ((conv => whnf); first | refine byEv ?_ | ((apply Fork.mk) <;> (intro _; try (exfalso; omega; done))) | ((first | refine kSpanZu2 ?_ | refine kSpanZu1 ?_ | refine kSpanZu0 ?_); first | ((first | apply q_allD | apply q_alli | apply q_allB) <;> (intro _ _ _ _; try contradiction)) | ((apply q_allv); intro _ _ _)) | refine xSpanC0 ?_ | refine xSpanB1 ?_ | refine xSpanB0 ?_ | fail)); all_goals (conv => whnf); all_goals (try with_reducible apply At.mk)))
           apply q_callv
           focus (exact byNext)
           focus (exact byLo)
           focus exact reduced_r (by omega) (by omega)
           intro h92 q92 n92
           unfold Fr.cells
           (focus ((try with_reducible apply wpC.to); (repeat' ((conv => whnf); first | refine byEv ?_ | ((apply Fork.mk) <;> (intro _; try (exfalso; omega; done))) | ((first | refine kSpanZu2 ?_ | refine kSpanZu1 ?_ | refine kSpanZu0 ?_); first | ((first | apply q_allD | apply q_alli | apply q_allB) <;> (intro _ _ _ _; try contradiction)) | ((apply q_allv); intro _ _ _)) | refine xSpanC0 ?_ | refine xSpanB1 ?_ | refine xSpanB0 ?_ | fail)); all_goals (conv => whnf); all_goals (try with_reducible apply At.mk)))
           refine OpE.pure (.bool true) (xPure_eql (A := ⟨(fr (z % 21 * (L.lval a b).n) (L.lval a b).d).cells⟩) (B := ⟨(fr (z % 21 * (L.lval a b).n) (L.lval a b).d).cells⟩) rfl rfl rfl rfl rfl (by kernel_rfl) (same_fr _)) ?_
           (focus ((try with_reducible apply wpC.to); (repeat' ((conv => whnf); first | refine byEv ?_ | ((apply Fork.mk) <;> (intro _; try (exfalso; omega; done))) | ((first | refine kSpanZu2 ?_ | refine kSpanZu1 ?_ | refine kSpanZu0 ?_); first | ((first | apply q_allD | apply q_alli | apply q_allB) <;> (intro _ _ _ _; try contradiction)) | ((apply q_allv); intro _ _ _)) | refine xSpanC0 ?_ | refine xSpanB1 ?_ | refine xSpanB0 ?_ | fail)); all_goals (conv => whnf); all_goals (try with_reducible apply At.mk)))
           (refine byFin ?_)
           rfl)
end AE.Try
