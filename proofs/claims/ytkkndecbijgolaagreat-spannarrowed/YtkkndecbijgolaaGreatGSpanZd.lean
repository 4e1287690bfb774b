/- Walks of span's definitions: errors; the value of a truth; the least value. -/
import Derived.Test.YtkkndecbijgolaaGreatJoin3
set_option linter.unusedVariables false
set_option linter.unusedSimpArgs false
set_option linter.unusedSectionVars false
namespace AE.Tryz
open Go AE Go.Proofs AE.Sp
set_option maxRecDepth 100000
set_option linter.unusedVariables false

open Classical in
theorem error_r {h : H} {L : Runs} {m : Nat} {p q : Int} (hm : m ≤ h.next) (hL : L.Ok m h) : AW Tryz.prog 12 h.next h [.slice L.b L.n L.c, .int .i64 p, .int .i64 q] (fun v _ => v = .int .i64 (L.lerr p q)) := by
  refine fun12.call rfl (Nat.le_refl _) ?_
  unfold a12
  (focus ((try with_reducible apply wpC.to); (repeat' ((conv => whnf); first | refine byEv ?_ | (apply Fork.mk <;> (intro _; try (exfalso; omega))) | fail)); all_goals ((conv => whnf); try with_reducible apply At.mk)))
  apply q_callv
  focus (exact byNext)
  focus (exact byLo)
  focus exact asked_r (L := L) (m := m) (p := p) (q := q) byOm (hL.same bySame (Nat.le_refl _))
  intro h2 q2 n2
  by_cases he : L.err2 p q ≠ 0
  · have el : L.lerr p q = L.err2 p q := by unfold Runs.lerr; rw [if_pos he]
    rw [el]
    (focus ((try with_reducible apply wpC.to); (repeat' ((conv => whnf); first | refine byEv ?_ | (apply Fork.mk <;> (intro _; try (exfalso; omega))) | fail)); all_goals ((conv => whnf); try with_reducible apply At.mk)))
    · apply q_callv
      focus (exact byNext)
      focus (exact byLo)
      focus exact asked_r (L := L) (m := m) (p := p) (q := q) byOm (hL.same bySame (Nat.le_refl _))
      intro h3 q3 n3
      (focus ((try with_reducible apply wpC.to); (repeat' ((conv => whnf); first | refine byEv ?_ | (apply Fork.mk <;> (intro _; try (exfalso; omega))) | fail)); all_goals ((conv => whnf); try with_reducible apply At.mk)))
      (refine byFin ?_)
      rfl
  have he : L.err2 p q = 0 := by omega
  obtain ⟨e1, fac⟩ := Runs.err2_0 he
  obtain ⟨ln, lv⟩ := L.err_0 e1
  (focus ((try with_reducible apply wpC.to); (repeat' ((conv => whnf); first | refine byEv ?_ | (apply Fork.mk <;> (intro _; try (exfalso; omega))) | fail)); all_goals ((conv => whnf); try with_reducible apply At.mk)))
  apply q_callB
  focus (exact byNext)
  focus (exact byLo)
  focus exact doubted_r (L := L) (m := m) byOm (hL.same bySame (Nat.le_refl _)) (by omega) lv
  · intro hb h3 q3 n3
    have hc := of_decide_eq_true hb
    (focus ((try with_reducible apply wpC.to); (repeat' ((conv => whnf); first | refine byEv ?_ | (apply Fork.mk <;> (intro _; try (exfalso; omega))) | fail)); all_goals ((conv => whnf); try with_reducible apply At.mk)))
    (refine byFin ?_)
    unfold Runs.lerr
    rw [if_neg (by omega), if_pos hc]
  intro hb h3 q3 n3
  have hc : L.Cl := Classical.byContradiction fun k => of_decide_eq_false hb k
  (focus ((try with_reducible apply wpC.to); (repeat' ((conv => whnf); first | refine byEv ?_ | (apply Fork.mk <;> (intro _; try (exfalso; omega))) | fail)); all_goals ((conv => whnf); try with_reducible apply At.mk)))
  apply q_callB
  focus (exact byNext)
  focus (exact byLo)
  focus exact bounded_r (L := L) (m := m) byOm (hL.same bySame (Nat.le_refl _)) lv fac
  · intro hb2 h4 q4 n4
    have hd := (bnd_iff lv).1 (of_decide_eq_true hb2)
    (focus ((try with_reducible apply wpC.to); (repeat' ((conv => whnf); first | refine byEv ?_ | (apply Fork.mk <;> (intro _; try (exfalso; omega))) | fail)); all_goals ((conv => whnf); try with_reducible apply At.mk)))
    (refine byFin ?_)
    unfold Runs.lerr
    rw [if_neg (by omega), if_neg (fun k => k hc), if_neg (fun k => k hd)]
  intro hb2 h4 q4 n4
  have hd : ¬ L.Bnd p q := fun k => of_decide_eq_false hb2 ((bnd_iff lv).2 k)
  (focus ((try with_reducible apply wpC.to); (repeat' ((conv => whnf); first | refine byEv ?_ | (apply Fork.mk <;> (intro _; try (exfalso; omega))) | fail)); all_goals ((conv => whnf); try with_reducible apply At.mk)))
  (refine byFin ?_)
  unfold Runs.lerr
  rw [if_neg (by omega), if_neg (fun k => k hc), if_pos hd]

@[irreducible] def vfr (p q : Int) (t : Tru) : Fr := fr (p * t.a + q * t.b) t.d
theorem val_bnd {p q : Int} {t : Tru} (fac : Fac p q) (tv : t.Val) : -43980465111040 ≤ p * t.a + q * t.b ∧ p * t.a + q * t.b ≤ 43980465111040 := by
  have m1 := mul_bnd fac.1.1 fac.1.2 tv.a.1 tv.a.2
  have m2 := mul_bnd fac.2.1 fac.2.2 tv.b.1 tv.b.2
  omega
theorem vfr_LB {p q : Int} {t : Tru} (fac : Fac p q) (tv : t.Val) : LB (vfr p q t) := by unfold vfr; exact fr_LB (by have := tv.d; omega) (by have := val_bnd fac tv; omega)
theorem value_r {h : H} {p q : Int} {t : Tru} (fac : Fac p q) (tv : t.Val) : AW Tryz.prog 25 h.next h [.int .i64 p, .int .i64 q, .agg ⟨t.cells⟩] (fun v _ => v = .agg ⟨(vfr p q t).cells⟩) := by
  have m1 := mul_bnd fac.1.1 fac.1.2 tv.a.1 tv.a.2
  have m2 := mul_bnd fac.2.1 fac.2.2 tv.b.1 tv.b.2
  have d := tv.d
  refine fun25.call rfl (Nat.le_refl _) ?_
  unfold a25 Tru.cells
  (focus ((try with_reducible apply wpC.to); (repeat' ((conv => whnf); first | refine byEv ?_ | fail)); all_goals ((conv => whnf); try with_reducible apply At.mk)))
  apply q_callv
  focus (exact byNext)
  focus (exact byLo)
  focus exact reduced_r (by omega) (by omega)
  intro h2 q2 n2
  unfold Fr.cells vfr
  (focus ((try with_reducible apply wpC.to); (repeat' ((conv => whnf); first | refine byEv ?_ | fail)); all_goals ((conv => whnf); try with_reducible apply At.mk)))
  (refine byFin ?_)
  rfl

/-- Of the corners that were gone through this one has the least value. -/
def LeastAt (p q : Int) (l : List Tru) (s j : Nat) : Prop := j < l.length ∧ ∀ i, i < s → ¬ flt (vfr p q (l.getD i ⟨0, 0, 0⟩)) (vfr p q (l.getD j ⟨0, 0, 0⟩))
theorem flt_irr (x : Fr) : ¬ flt x x := Int.lt_irrefl _
theorem flt_trans {x y z : Fr} (hx : 0 < x.d) (hy : 0 < y.d) (hz : 0 < z.d) (h1 : flt x y) (h2 : ¬ flt z y) : flt x z := by
  have h1 : x.n * y.d < y.n * x.d := h1
  have h2 : y.n * z.d ≤ z.n * y.d := Int.not_lt.1 h2
  show x.n * z.d < z.n * x.d
  have m1 := Int.mul_lt_mul_of_pos_right h1 hz
  have m2 := Int.mul_le_mul_of_nonneg_right h2 (show 0 ≤ x.d by omega)
  refine Int.lt_of_mul_lt_mul_left (a := y.d) ?_ (by omega)
  have e1 : y.d * (x.n * z.d) = x.n * y.d * z.d := by ac_rfl
  have e2 : y.d * (z.n * x.d) = z.n * y.d * x.d := by ac_rfl
  have e3 : y.n * x.d * z.d = y.n * z.d * x.d := by ac_rfl
  omega
theorem vfr_pos {p q : Int} {t : Tru} (h : 0 < t.d) : 0 < (vfr p q t).d := by unfold vfr; exact (fr_of h).d0
theorem LeastAt.step {p q : Int} {l : List Tru} {s j : Nat} (k : LeastAt p q l s j) (hd : ∀ t ∈ l, 0 < t.d) (hs : s < l.length) (h : flt (vfr p q (l.getD s ⟨0, 0, 0⟩)) (vfr p q (l.getD j ⟨0, 0, 0⟩))) : LeastAt p q l (s + 1) s := by
  refine ⟨hs, fun i hi hf => ?_⟩
  by_cases e : i = s
  · subst e; exact flt_irr _ hf
  · refine k.2 i (by omega) (flt_trans (vfr_pos (hd _ (getD_mem (by omega)))) (vfr_pos (hd _ (getD_mem hs))) (vfr_pos (hd _ (getD_mem k.1))) hf fun k2 => ?_)
    have h : _ < _ := h
    have k2 : _ < _ := k2
    omega
theorem LeastAt.skip {p q : Int} {l : List Tru} {s j : Nat} (k : LeastAt p q l s j) (h : ¬ flt (vfr p q (l.getD s ⟨0, 0, 0⟩)) (vfr p q (l.getD j ⟨0, 0, 0⟩))) : LeastAt p q l (s + 1) j := by
  refine ⟨k.1, fun i hi hf => ?_⟩
  by_cases e : i = s
  · subst e; exact h hf
  · exact k.2 i (by omega) hf
/-- The least of the corners is the least value. -/
theorem LeastAt.low {L : Runs} {p q : Int} {l : List Tru} {j : Nat} (k : LeastAt p q l l.length j) (lv : L.Val) (c : L.Cl) (b : L.Bnd p q) (fac : Fac p q) (h3 : ∀ t ∈ l, 0 < t.d ∧ t.Val ∧ L.Fits t) (h4 : ∀ t, RefC L t → L.Fits t → t ∈ l) :
    ∃ N D, Lst L p q N D ∧ vfr p q (l.getD j ⟨0, 0, 0⟩) = fr N D := by
  obtain ⟨N, D, ls, t, h5, h6, h7, h8⟩ := lst_of lv c b fac
  obtain ⟨ix, hix, ee⟩ := List.mem_iff_getElem.1 (h4 t h5 h6)
  have eg : l.getD ix ⟨0, 0, 0⟩ = t := by rw [← List.getElem_eq_getD (h := hix) _]; exact ee
  have k2 := k.2 ix hix
  rw [eg] at k2
  obtain ⟨a1, -, a3⟩ := h3 _ (getD_mem k.1)
  have le := ls.le _ a3 a1
  refine ⟨N, D, ls, ?_⟩
  unfold vfr at k2 ⊢
  rw [flt_fr h8 a1] at k2
  generalize l.getD j ⟨0, 0, 0⟩ = u at *
  refine fr_eq a1 ls.d (Int.le_antisymm ?_ (by omega))
  have k2 : (p * u.a + q * u.b) * t.d ≤ (p * t.a + q * t.b) * u.d := Int.not_lt.1 k2
  have m := Int.mul_le_mul_of_nonneg_right k2 (show 0 ≤ D by have := ls.d; omega)
  refine le_of_mul h8 ?_
  have e1 : (p * u.a + q * u.b) * D * t.d = (p * u.a + q * u.b) * t.d * D := by ac_rfl
  have e2 : N * u.d * t.d = (p * t.a + q * t.b) * u.d * D := by
    have : N * u.d * t.d = N * t.d * u.d := by ac_rfl
    rw [this, ← h7]; ac_rfl
  omega

set_option maxHeartbeats 8000000 in
theorem least_r {h : H} {L : Runs} {m : Nat} {p q : Int} (hm : m ≤ h.next) (hL : L.Ok m h) : AW Tryz.prog 49 h.next h [.slice L.b L.n L.c, .int .i64 p, .int .i64 q] (fun v _ => v = .tuple #[.agg ⟨(L.lval p q).cells⟩, .int .i64 (L.lerr p q)]) := by
  refine fun49.call rfl (Nat.le_refl _) ?_
  unfold a49
  (focus ((try with_reducible apply wpC.to); (repeat' ((conv => whnf); first | refine byEv ?_ | (apply Fork.mk <;> (intro _; try (exfalso; omega))) | fail)); all_goals ((conv => whnf); try with_reducible apply At.mk)))
  apply q_callv
  focus (exact byNext)
  focus (exact byLo)
  focus exact error_r (L := L) (m := m) (p := p) (q := q) byOm (hL.same bySame (Nat.le_refl _))
  intro h2 q2 n2
  by_cases he : L.lerr p q ≠ 0
  · rw [Runs.lval_err he]
    (focus ((try with_reducible apply wpC.to); (repeat' ((conv => whnf); first | refine byEv ?_ | (apply Fork.mk <;> (intro _; try (exfalso; omega))) | fail)); all_goals ((conv => whnf); try with_reducible apply At.mk)))
    · apply q_callv
      focus (exact byNext)
      focus (exact byLo)
      focus exact error_r (L := L) (m := m) (p := p) (q := q) byOm (hL.same bySame (Nat.le_refl _))
      intro h3 q3 n3
      (focus ((try with_reducible apply wpC.to); (repeat' ((conv => whnf); first | refine byEv ?_ | (apply Fork.mk <;> (intro _; try (exfalso; omega))) | fail)); all_goals ((conv => whnf); try with_reducible apply At.mk)))
      (refine byFin ?_)
      rfl
  have he : L.lerr p q = 0 := by omega
  obtain ⟨e2, cl, bd⟩ := Runs.lerr_0 he
  obtain ⟨e1, fac⟩ := Runs.err2_0 e2
  obtain ⟨ln, lv⟩ := L.err_0 e1
  (focus ((try with_reducible apply wpC.to); (repeat' ((conv => whnf); first | refine byEv ?_ | (apply Fork.mk <;> (intro _; try (exfalso; omega))) | fail)); all_goals ((conv => whnf); try with_reducible apply At.mk)))
  apply q_call
  focus (exact byNext)
  focus (exact byLo)
  focus exact corners_r (L := L) (m := m) byOm (hL.same bySame (Nat.le_refl _)) (by omega) lv
  rintro _ h3 ⟨l, w, r, rfl, hg, hr, a3, a4, al⟩ q3 n3
  have hp : ∀ t ∈ l, 0 < t.d := fun t ht => (a3 t ht).1
  have h0 : 0 < l.length := by
    obtain ⟨N, D, -, t, h5, h6, -⟩ := lst_of lv cl bd fac
    exact List.length_pos_of_mem (a4 t h5 h6)
  obtain ⟨va, va1, va2, va3⟩ := GG.els (f := fun i => (l.getD i ⟨0, 0, 0⟩).cells) (by have := hg; rw [cellsOf_rows Tru.cells _ ⟨0, 0, 0⟩] at this; exact this) (fun i => rfl)
  obtain rfl := va1 h0
  have va3 := va3 h0
  have hr := hr h0
  have t0 := (a3 _ (getD_mem (d := (⟨0, 0, 0⟩ : Tru)) h0)).2.1
  have va2' := va2
  unfold Tru.cells at va2'
  (focus ((try with_reducible apply wpC.to); (repeat' ((conv => whnf); first | refine byEv ?_ | (apply Fork.mk <;> (intro _; try (exfalso; omega))) | fail)); all_goals ((conv => whnf); try with_reducible apply At.mk)))
  apply q_callv
  focus (exact byNext)
  focus (exact byLo)
  focus exact value_r (t := l.getD 0 ⟨0, 0, 0⟩) fac t0
  intro h4 q4 n4
  unfold Fr.cells
  (focus ((try with_reducible apply wpC.to); (repeat' ((conv => whnf); first | refine byEv ?_ | (apply Fork.mk <;> (intro _; try (exfalso; omega))) | fail)); all_goals ((conv => whnf); try with_reducible apply At.mk)))
  have gx : h3.get h.next = some (.cells [.int .i64 0, .int .i64 0] 29) := by (exact byGet)
  refine wp_loop (fun s : Nat × Nat => [(1, .int .i64 p), (2, .int .i64 q), (6, .pointer (some ⟨h.next, 0, none⟩)), (8, .slice (some va) l.length 0), (9, .pointer (some ⟨h3.next + 6, 0, none⟩)), (10, .int .i64 s.1)])
    (fun s g => g.get (h3.next + 6) = some (.cells (vfr p q (l.getD s.2 ⟨0, 0, 0⟩)).cells 29) ∧ Same h3.next h3 g ∧ h3.next + 7 ≤ g.next ∧ 1 ≤ s.1 ∧ s.1 ≤ l.length ∧ LeastAt p q l s.1 s.2) (fun s => l.length - s.1) (1, 0) ⟨rfl, rfl, rfl, rfl, rfl, rfl, trivial⟩ ⟨by unfold Fr.cells; (exact byGet), bySame, byOm, Nat.le_refl _, h0, ⟨h0, fun i hi => ?_⟩⟩ ?_
  · obtain rfl : i = 0 := by dsimp only at hi; omega
    exact flt_irr _
  rintro ⟨s, j⟩ g h5 ⟨x9, sm, n5, hs1, hs, la⟩ K hK
  dsimp only at x9 hs1 hs la ⊢
  have gx5 : h5.get h.next = some (.cells [.int .i64 0, .int .i64 0] 29) := by (exact byGet)
  unfold Fr.cells at x9
  by_cases hsl : s < l.length
  · have va5 := va2'.same sm (fun _ => by omega)
    have ts := (a3 _ (getD_mem (d := (⟨0, 0, 0⟩ : Tru)) hsl)).2.1
    have tj := (a3 _ (getD_mem (d := (⟨0, 0, 0⟩ : Tru)) la.1)).2.1
    (focus ((try with_reducible apply wpC.to); (repeat' ((conv => whnf); first | refine byEv ?_ | (apply Fork.mk <;> (intro _; try (exfalso; omega))) | fail)); all_goals ((conv => whnf); try with_reducible apply At.mk)))
    apply q_callv
    focus (exact byNext)
    focus (exact byLo)
    focus exact value_r (t := l.getD s ⟨0, 0, 0⟩) fac ts
    intro h6 q6 n6
    unfold Fr.cells
    (focus ((try with_reducible apply wpC.to); (repeat' ((conv => whnf); first | refine byEv ?_ | (apply Fork.mk <;> (intro _; try (exfalso; omega))) | fail)); all_goals ((conv => whnf); try with_reducible apply At.mk)))
    apply q_callB
    focus (exact byNext)
    focus (exact byLo)
    focus exact less_r (vfr_LB fac ts) (vfr_LB fac tj)
    · intro hb h7 q7 n7
      have hf := of_decide_eq_true hb
      (focus ((try with_reducible apply wpC.to); (repeat' ((conv => whnf); first | refine byEv ?_ | (apply Fork.mk <;> (intro _; try (exfalso; omega))) | fail)); all_goals ((conv => whnf); try with_reducible apply At.mk)))
      exact hK (s + 1, s) _ _ ⟨rfl, rfl, rfl, rfl, rfl, int_of rfl (by dsimp only; omega), trivial⟩ ⟨by unfold Fr.cells; (exact byGet), bySame, byOm, by dsimp only; omega, by dsimp only; omega, la.step hp hsl hf⟩ (by dsimp only; omega)
    · intro hb h7 q7 n7
      have hf := of_decide_eq_false hb
      (focus ((try with_reducible apply wpC.to); (repeat' ((conv => whnf); first | refine byEv ?_ | (apply Fork.mk <;> (intro _; try (exfalso; omega))) | fail)); all_goals ((conv => whnf); try with_reducible apply At.mk)))
      exact hK (s + 1, j) _ _ ⟨rfl, rfl, rfl, rfl, rfl, int_of rfl (by dsimp only; omega), trivial⟩ ⟨by unfold Fr.cells; (exact byGet), bySame, byOm, by dsimp only; omega, by dsimp only; omega, la.skip hf⟩ (by dsimp only; omega)
  · obtain rfl : s = l.length := by omega
    obtain ⟨N, D, ls, ev⟩ := la.low lv cl bd fac a3 a4
    rw [ev] at x9
    rw [ls.val he, he]
    (focus ((try with_reducible apply wpC.to); (repeat' ((conv => whnf); first | refine byEv ?_ | (apply Fork.mk <;> (intro _; try (exfalso; omega))) | fail)); all_goals ((conv => whnf); try with_reducible apply At.mk)))
    (refine byFin ?_)
    rfl
end AE.Tryz
