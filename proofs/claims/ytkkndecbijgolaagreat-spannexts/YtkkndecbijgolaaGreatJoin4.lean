/- Walks and plain laws: GSpanNa, GSpanNb. -/
import Derived.Test.YtkkndecbijgolaaGreatGSpanYm0
set_option linter.unusedVariables false
set_option linter.unusedSimpArgs false
set_option linter.unusedSectionVars false

/- Plain laws of span, for the great seat: greatest values; a span with one run more. -/
namespace AE.Tryz
open Go AE Go.Proofs AE.Sp
set_option maxRecDepth 100000
set_option linter.unusedVariables false

theorem fr_neg {n d : Int} : fr (-n) d = ⟨-(fr n d).n, (fr n d).d⟩ := by
  unfold fr
  rw [Int.neg_gcd]
  dsimp only
  rw [Int.neg_ediv_of_dvd (Int.gcd_dvd_left n d)]
theorem vfr_neg {p q : Int} {t : Tru} : vfr (-p) (-q) t = ⟨-(vfr p q t).n, (vfr p q t).d⟩ := by
  unfold vfr
  rw [← fr_neg]
  congr 1
  rw [Int.neg_mul, Int.neg_mul]; omega
theorem flt_neg {p q : Int} {t u : Tru} : flt (vfr (-p) (-q) t) (vfr (-p) (-q) u) ↔ flt (vfr p q u) (vfr p q t) := by
  rw [vfr_neg, vfr_neg]
  show -(vfr p q t).n * (vfr p q u).d < -(vfr p q u).n * (vfr p q t).d ↔ (vfr p q u).n * (vfr p q t).d < (vfr p q t).n * (vfr p q u).d
  rw [Int.neg_mul, Int.neg_mul]; omega
/-- The span of the corners is how wide two factors are. -/
theorem wide_at {L : Runs} {p q : Int} {l : List Tru} {j k : Nat} (hj : LeastAt p q l l.length j) (hk : LeastAt (-p) (-q) l l.length k) (lv : L.Val) (c : L.Cl) (b : L.Bnd p q) (fac : Fac p q) (h3 : ∀ t ∈ l, 0 < t.d ∧ t.Val ∧ L.Fits t) (h4 : ∀ t, RefC L t → L.Fits t → t ∈ l) :
    fr ((vfr p q (l.getD k ⟨0, 0, 0⟩)).n * (vfr p q (l.getD j ⟨0, 0, 0⟩)).d - (vfr p q (l.getD j ⟨0, 0, 0⟩)).n * (vfr p q (l.getD k ⟨0, 0, 0⟩)).d) ((vfr p q (l.getD k ⟨0, 0, 0⟩)).d * (vfr p q (l.getD j ⟨0, 0, 0⟩)).d) = L.wide p q := by
  obtain ⟨N, D, l1, e1⟩ := hj.low lv c b fac h3 h4
  obtain ⟨N', D', l2, e2⟩ := hk.low lv c (bnd_negI lv b) (fac_neg fac) h3 h4
  unfold Runs.wide
  rw [l1.low, l2.low, ← e1, ← e2, vfr_neg]
  dsimp only
  rw [Int.neg_neg, Int.mul_comm (vfr p q (l.getD k ⟨0, 0, 0⟩)).d]
/-- How great the least and the greatest value are, at a corner. -/
theorem at_rng {L : Runs} {p q : Int} {l : List Tru} {j : Nat} (hj : LeastAt p q l l.length j) (lv : L.Val) (c : L.Cl) (b : L.Bnd p q) (fac : Fac p q) (h3 : ∀ t ∈ l, 0 < t.d ∧ t.Val ∧ L.Fits t) (h4 : ∀ t, RefC L t → L.Fits t → t ∈ l) :
    (0 < (vfr p q (l.getD j ⟨0, 0, 0⟩)).d ∧ (vfr p q (l.getD j ⟨0, 0, 0⟩)).d ≤ 800) ∧ -160000000 ≤ (vfr p q (l.getD j ⟨0, 0, 0⟩)).n ∧ (vfr p q (l.getD j ⟨0, 0, 0⟩)).n ≤ 160000000 := by
  obtain ⟨N, D, l1, e1⟩ := hj.low lv c b fac h3 h4
  obtain ⟨N', D', l1', e, hd, hn⟩ := Lst.rng lv c b fac
  rw [e1, ← l1.low, e]
  exact fr_rng hd hn
end AE.Tryz

/- Walks of span's definitions: the span of corners; which choices are valid. -/
namespace AE.Tryz
open Go AE Go.Proofs AE.Sp
set_option maxRecDepth 100000
set_option linter.unusedVariables false

set_option maxHeartbeats 8000000 in
theorem spanOf_r {h : H} {L : Runs} {m : Nat} {p q : Int} (hm : m ≤ h.next) (hL : L.Ok m h) (ln : L.n ≤ 13) (lv : L.Val) (cl : L.Cl) (bd : L.Bnd p q) (fac : Fac p q) : AW Tryz.prog 39 h.next h [.slice L.b L.n L.c, .int .i64 p, .int .i64 q] (fun v _ => v = .agg ⟨(L.wide p q).cells⟩) := by
  refine fun39.call rfl (Nat.le_refl _) ?_
  unfold a39
  (focus ((try with_reducible apply wpC.to); (repeat' ((conv => whnf); first | refine byEv ?_ | (apply Fork.mk <;> (intro _; try (exfalso; omega))) | fail)); all_goals ((conv => whnf); try with_reducible apply At.mk)))
  apply q_call
  focus (exact byNext)
  focus (exact byLo)
  focus exact corners_r (L := L) (m := m) byOm (hL.same bySame (Nat.le_refl _)) ln lv
  rintro _ h3 ⟨l, w, r, rfl, hg, hr, a3, a4, al⟩ q3 n3
  have hp : ∀ t ∈ l, 0 < t.d := fun t ht => (a3 t ht).1
  have h0 : 0 < l.length := by
    obtain ⟨N, D, -, t, h5, h6, -⟩ := lst_of lv cl bd fac
    exact List.length_pos_of_mem (a4 t h5 h6)
  obtain ⟨va, va1, va2, va3⟩ := GG.els (f := fun i => (l.getD i ⟨0, 0, 0⟩).cells) (by have := hg; rw [cellsOf_rows Tru.cells _ ⟨0, 0, 0⟩] at this; exact this) (fun i => rfl)
  obtain rfl := va1 h0
  have va3 := va3 h0
  have hr := hr h0
  have t0 := (a3 _ (getD_mem (d := (⟨0, 0, 0⟩ : Tru)) h0)).2.1
  have va2' := va2
  unfold Tru.cells at va2'
  (focus ((try with_reducible apply wpC.to); (repeat' ((conv => whnf); first | refine byEv ?_ | (apply Fork.mk <;> (intro _; try (exfalso; omega))) | fail)); all_goals ((conv => whnf); try with_reducible apply At.mk)))
  apply q_callv
  focus (exact byNext)
  focus (exact byLo)
  focus exact value_r (t := l.getD 0 ⟨0, 0, 0⟩) fac t0
  intro h4 q4 n4
  unfold Fr.cells
  (focus ((try with_reducible apply wpC.to); (repeat' ((conv => whnf); first | refine byEv ?_ | (apply Fork.mk <;> (intro _; try (exfalso; omega))) | fail)); all_goals ((conv => whnf); try with_reducible apply At.mk)))
  apply q_callv
  focus (exact byNext)
  focus (exact byLo)
  focus exact value_r (t := l.getD 0 ⟨0, 0, 0⟩) fac t0
  intro h5 q5 n5
  unfold Fr.cells
  (focus ((try with_reducible apply wpC.to); (repeat' ((conv => whnf); first | refine byEv ?_ | (apply Fork.mk <;> (intro _; try (exfalso; omega))) | fail)); all_goals ((conv => whnf); try with_reducible apply At.mk)))
  have gx : h5.get h.next = some (.cells [.int .i64 0, .int .i64 0] 29) := by (exact byGet)
  refine wp_loop (fun s : Nat × Nat × Nat => [(1, .int .i64 p), (2, .int .i64 q), (6, .pointer (some ⟨h.next, 0, none⟩)), (7, .slice (some va) l.length 0), (8, .pointer (some ⟨h3.next + 12, 0, none⟩)), (9, .pointer (some ⟨h3.next + 13, 0, none⟩)), (10, .int .i64 s.1)])
    (fun s g => g.get (h3.next + 12) = some (.cells (vfr p q (l.getD s.2.1 ⟨0, 0, 0⟩)).cells 29) ∧ g.get (h3.next + 13) = some (.cells (vfr p q (l.getD s.2.2 ⟨0, 0, 0⟩)).cells 29) ∧ Same h3.next h3 g ∧ h3.next + 14 ≤ g.next ∧ 1 ≤ s.1 ∧ s.1 ≤ l.length ∧ LeastAt p q l s.1 s.2.1 ∧ LeastAt (-p) (-q) l s.1 s.2.2) (fun s => l.length - s.1) (1, 0, 0) ⟨rfl, rfl, rfl, rfl, rfl, rfl, rfl, trivial⟩ ⟨by unfold Fr.cells; (exact byGet), by unfold Fr.cells; (exact byGet), bySame, byOm, Nat.le_refl _, h0, ⟨h0, fun i hi => ?_⟩, h0, fun i hi => ?_⟩ ?_
  · obtain rfl : i = 0 := by dsimp only at hi; omega
    exact flt_irr _
  · obtain rfl : i = 0 := by dsimp only at hi; omega
    exact flt_irr _
  rintro ⟨s, j, k⟩ g h6 ⟨x8, x9, sm, n6, hs1, hs, la, lb⟩ K hK
  dsimp only at x8 x9 hs1 hs la lb ⊢
  have gx6 : h6.get h.next = some (.cells [.int .i64 0, .int .i64 0] 29) := by (exact byGet)
  unfold Fr.cells at x8 x9
  by_cases hsl : s < l.length
  · have va6 := va2'.same sm (fun _ => by omega)
    have ts := (a3 _ (getD_mem (d := (⟨0, 0, 0⟩ : Tru)) hsl)).2.1
    have tj := (a3 _ (getD_mem (d := (⟨0, 0, 0⟩ : Tru)) la.1)).2.1
    have tk := (a3 _ (getD_mem (d := (⟨0, 0, 0⟩ : Tru)) lb.1)).2.1
    (focus ((try with_reducible apply wpC.to); (repeat' ((conv => whnf); first | refine byEv ?_ | (apply Fork.mk <;> (intro _; try (exfalso; omega))) | fail)); all_goals ((conv => whnf); try with_reducible apply At.mk)))
    apply q_callv
    focus (exact byNext)
    focus (exact byLo)
    focus exact value_r (t := l.getD s ⟨0, 0, 0⟩) fac ts
    intro h7 q7 n7
    unfold Fr.cells
    (focus ((try with_reducible apply wpC.to); (repeat' ((conv => whnf); first | refine byEv ?_ | (apply Fork.mk <;> (intro _; try (exfalso; omega))) | fail)); all_goals ((conv => whnf); try with_reducible apply At.mk)))
    apply q_callB
    focus (exact byNext)
    focus (exact byLo)
    focus exact less_r (vfr_LB fac ts) (vfr_LB fac tj)
    · intro hb h8 q8 n8
      have hf := of_decide_eq_true hb
      (focus ((try with_reducible apply wpC.to); (repeat' ((conv => whnf); first | refine byEv ?_ | (apply Fork.mk <;> (intro _; try (exfalso; omega))) | fail)); all_goals ((conv => whnf); try with_reducible apply At.mk)))
      apply q_callB
      focus (exact byNext)
      focus (exact byLo)
      focus exact less_r (vfr_LB fac tk) (vfr_LB fac ts)
      · intro hb9 h9 q9 n9
        have hf9 := of_decide_eq_true hb9
        (focus ((try with_reducible apply wpC.to); (repeat' ((conv => whnf); first | refine byEv ?_ | (apply Fork.mk <;> (intro _; try (exfalso; omega))) | fail)); all_goals ((conv => whnf); try with_reducible apply At.mk)))
        exact hK (s + 1, s, s) _ _ ⟨rfl, rfl, rfl, rfl, rfl, rfl, int_of rfl (by dsimp only; omega), trivial⟩ ⟨by unfold Fr.cells; (exact byGet), by unfold Fr.cells; (exact byGet), bySame, byOm, by dsimp only; omega, by dsimp only; omega, la.step hp hsl hf, lb.step hp hsl (flt_neg.2 hf9)⟩ (by dsimp only; omega)
      · intro hb9 h9 q9 n9
        have hf9 := of_decide_eq_false hb9
        (focus ((try with_reducible apply wpC.to); (repeat' ((conv => whnf); first | refine byEv ?_ | (apply Fork.mk <;> (intro _; try (exfalso; omega))) | fail)); all_goals ((conv => whnf); try with_reducible apply At.mk)))
        exact hK (s + 1, s, k) _ _ ⟨rfl, rfl, rfl, rfl, rfl, rfl, int_of rfl (by dsimp only; omega), trivial⟩ ⟨by unfold Fr.cells; (exact byGet), by unfold Fr.cells; (exact byGet), bySame, byOm, by dsimp only; omega, by dsimp only; omega, la.step hp hsl hf, lb.skip (fun h => hf9 (flt_neg.1 h))⟩ (by dsimp only; omega)
    · intro hb h8 q8 n8
      have hf := of_decide_eq_false hb
      (focus ((try with_reducible apply wpC.to); (repeat' ((conv => whnf); first | refine byEv ?_ | (apply Fork.mk <;> (intro _; try (exfalso; omega))) | fail)); all_goals ((conv => whnf); try with_reducible apply At.mk)))
      apply q_callB
      focus (exact byNext)
      focus (exact byLo)
      focus exact less_r (vfr_LB fac tk) (vfr_LB fac ts)
      · intro hb9 h9 q9 n9
        have hf9 := of_decide_eq_true hb9
        (focus ((try with_reducible apply wpC.to); (repeat' ((conv => whnf); first | refine byEv ?_ | (apply Fork.mk <;> (intro _; try (exfalso; omega))) | fail)); all_goals ((conv => whnf); try with_reducible apply At.mk)))
        exact hK (s + 1, j, s) _ _ ⟨rfl, rfl, rfl, rfl, rfl, rfl, int_of rfl (by dsimp only; omega), trivial⟩ ⟨by unfold Fr.cells; (exact byGet), by unfold Fr.cells; (exact byGet), bySame, byOm, by dsimp only; omega, by dsimp only; omega, la.skip hf, lb.step hp hsl (flt_neg.2 hf9)⟩ (by dsimp only; omega)
      · intro hb9 h9 q9 n9
        have hf9 := of_decide_eq_false hb9
        (focus ((try with_reducible apply wpC.to); (repeat' ((conv => whnf); first | refine byEv ?_ | (apply Fork.mk <;> (intro _; try (exfalso; omega))) | fail)); all_goals ((conv => whnf); try with_reducible apply At.mk)))
        exact hK (s + 1, j, k) _ _ ⟨rfl, rfl, rfl, rfl, rfl, rfl, int_of rfl (by dsimp only; omega), trivial⟩ ⟨by unfold Fr.cells; (exact byGet), by unfold Fr.cells; (exact byGet), bySame, byOm, by dsimp only; omega, by dsimp only; omega, la.skip hf, lb.skip (fun h => hf9 (flt_neg.1 h))⟩ (by dsimp only; omega)
  · obtain rfl : s = l.length := by omega
    have w := wide_at la lb lv cl bd fac a3 a4
    have r1 := at_rng la lv cl bd fac a3 a4
    have r2 := at_rng lb lv cl (bnd_negI lv bd) (fac_neg fac) a3 a4
    rw [vfr_neg] at r2
    dsimp only at r2
    have m1 := mul_bnd (a := (vfr p q (l.getD k ⟨0, 0, 0⟩)).n) (A := 160000000) (b := (vfr p q (l.getD j ⟨0, 0, 0⟩)).d) (B := 800) (by omega) (by omega) (by omega) (by omega)
    have m2 := mul_bnd (a := (vfr p q (l.getD j ⟨0, 0, 0⟩)).n) (A := 160000000) (b := (vfr p q (l.getD k ⟨0, 0, 0⟩)).d) (B := 800) (by omega) (by omega) (by omega) (by omega)
    have m3 := mul_bnd (a := (vfr p q (l.getD k ⟨0, 0, 0⟩)).d) (A := 800) (b := (vfr p q (l.getD j ⟨0, 0, 0⟩)).d) (B := 800) (by omega) (by omega) (by omega) (by omega)
    have m4 := Int.mul_pos r2.1.1 r1.1.1
    rw [← w]
    (focus ((try with_reducible apply wpC.to); (repeat' ((conv => whnf); first | refine byEv ?_ | (apply Fork.mk <;> (intro _; try (exfalso; omega))) | fail)); all_goals ((conv => whnf); try with_reducible apply At.mk)))
    apply q_callv
    focus (exact byNext)
    focus (exact byLo)
    focus exact reduced_r (by omega) (by omega)
    intro h7 q7 n7
    unfold Fr.cells
    (focus ((try with_reducible apply wpC.to); (repeat' ((conv => whnf); first | refine byEv ?_ | (apply Fork.mk <;> (intro _; try (exfalso; omega))) | fail)); all_goals ((conv => whnf); try with_reducible apply At.mk)))
    (refine byFin ?_)
    rfl
end AE.Tryz
