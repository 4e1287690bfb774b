/- Walks of span's definitions: errors; the value of a truth; the least value. -/
import Derived.Test.YtkkndecbijgolaaJoin3
set_option linter.unusedVariables false
set_option linter.unusedSimpArgs false
set_option linter.unusedSectionVars false
namespace AE.Try
open Go AE Go.Proofs AE.Sp
set_option maxRecDepth 100000
set_option linter.unusedVariables false

@[irreducible] def vfr (p q : Int) (t : Tru) : Fr := fr (p * t.a + q * t.b) t.d
theorem value_r {h : H} {p q : Int} {t : Tru} (fac : Fac p q) (tv : t.Val) : AW Try.prog 25 h.next h [.int .i64 p, .int .i64 q, .agg ⟨t.cells⟩] (fun v _ => v = .agg ⟨(vfr p q t).cells⟩) := by
  have m1 := mul_bnd fac.1.1 fac.1.2 tv.a.1 tv.a.2
  have m2 := mul_bnd fac.2.1 fac.2.2 tv.b.1 tv.b.2
  have d := tv.d
  refine fun25.call rfl (Nat.le_refl _) ?_
  unfold a25 Tru.cells
  (focus ((try with_reducible apply wpC.to); (repeat' ((conv => whnf); first | refine byEv ?_ | fail)); all_goals ((conv => whnf); try with_reducible apply At.mk)))
  apply q_callv
  focus (exact byNext)
  focus (exact byLo)
  focus exact reduced_r (by omega) (by omega)
  intro h2 q2 n2
  unfold Fr.cells vfr
  (focus ((try with_reducible apply wpC.to); (repeat' ((conv => whnf); first | refine byEv ?_ | fail)); all_goals ((conv => whnf); try with_reducible apply At.mk)))
  (refine byFin ?_)
  rfl

/-- Of the corners that were gone through this one has the least value. -/
def LeastAt (p q : Int) (l : List Tru) (s j : Nat) : Prop := j < l.length ∧ ∀ i, i < s → ¬ flt (vfr p q (l.getD i ⟨0, 0, 0⟩)) (vfr p q (l.getD j ⟨0, 0, 0⟩))
theorem flt_irr (x : Fr) : ¬ flt x x := Int.lt_irrefl _
theorem flt_trans {x y z : Fr} (hx : 0 < x.d) (hy : 0 < y.d) (hz : 0 < z.d) (h1 : flt x y) (h2 : ¬ flt z y) : flt x z := by
  have h1 : x.n * y.d < y.n * x.d := h1
  have h2 : y.n * z.d ≤ z.n * y.d := Int.not_lt.1 h2
  show x.n * z.d < z.n * x.d
  have m1 := Int.mul_lt_mul_of_pos_right h1 hz
  have m2 := Int.mul_le_mul_of_nonneg_right h2 (show 0 ≤ x.d by omega)
  refine Int.lt_of_mul_lt_mul_left (a := y.d) ?_ (by omega)
  have e1 : y.d * (x.n * z.d) = x.n * y.d * z.d := by ac_rfl
  have e2 : y.d * (z.n * x.d) = z.n * y.d * x.d := by ac_rfl
  have e3 : y.n * x.d * z.d = y.n * z.d * x.d := by ac_rfl
  omega
theorem vfr_pos {p q : Int} {t : Tru} (h : 0 < t.d) : 0 < (vfr p q t).d := by unfold vfr; exact (fr_of h).d0
theorem LeastAt.step {p q : Int} {l : List Tru} {s j : Nat} (k : LeastAt p q l s j) (hd : ∀ t ∈ l, 0 < t.d) (hs : s < l.length) (h : flt (vfr p q (l.getD s ⟨0, 0, 0⟩)) (vfr p q (l.getD j ⟨0, 0, 0⟩))) : LeastAt p q l (s + 1) s := by
  refine ⟨hs, fun i hi hf => ?_⟩
  by_cases e : i = s
  · subst e; exact flt_irr _ hf
  · refine k.2 i (by omega) (flt_trans (vfr_pos (hd _ (getD_mem (by omega)))) (vfr_pos (hd _ (getD_mem hs))) (vfr_pos (hd _ (getD_mem k.1))) hf fun k2 => ?_)
    have h : _ < _ := h
    have k2 : _ < _ := k2
    omega
theorem LeastAt.skip {p q : Int} {l : List Tru} {s j : Nat} (k : LeastAt p q l s j) (h : ¬ flt (vfr p q (l.getD s ⟨0, 0, 0⟩)) (vfr p q (l.getD j ⟨0, 0, 0⟩))) : LeastAt p q l (s + 1) j := by
  refine ⟨k.1, fun i hi hf => ?_⟩
  by_cases e : i = s
  · subst e; exact h hf
  · exact k.2 i (by omega) hf
/-- The least of the corners is the least value. -/
theorem LeastAt.low {L : Runs} {p q : Int} {l : List Tru} {j : Nat} (k : LeastAt p q l l.length j) (lv : L.Val) (c : L.Cl) (b : L.Bnd p q) (fac : Fac p q) (h3 : ∀ t ∈ l, 0 < t.d ∧ t.Val ∧ L.Fits t) (h4 : ∀ t, RefC L t → L.Fits t → t ∈ l) :
    ∃ N D, Lst L p q N D ∧ vfr p q (l.getD j ⟨0, 0, 0⟩) = fr N D := by
  obtain ⟨N, D, ls, t, h5, h6, h7, h8⟩ := lst_of lv c b fac
  obtain ⟨ix, hix, ee⟩ := List.mem_iff_getElem.1 (h4 t h5 h6)
  have eg : l.getD ix ⟨0, 0, 0⟩ = t := by rw [← List.getElem_eq_getD (h := hix) _]; exact ee
  have k2 := k.2 ix hix
  rw [eg] at k2
  obtain ⟨a1, -, a3⟩ := h3 _ (getD_mem k.1)
  have le := ls.le _ a3 a1
  refine ⟨N, D, ls, ?_⟩
  unfold vfr at k2 ⊢
  rw [flt_fr h8 a1] at k2
  generalize l.getD j ⟨0, 0, 0⟩ = u at *
  refine fr_eq a1 ls.d (Int.le_antisymm ?_ (by omega))
  have k2 : (p * u.a + q * u.b) * t.d ≤ (p * t.a + q * t.b) * u.d := Int.not_lt.1 k2
  have m := Int.mul_le_mul_of_nonneg_right k2 (show 0 ≤ D by have := ls.d; omega)
  refine le_of_mul h8 ?_
  have e1 : (p * u.a + q * u.b) * D * t.d = (p * u.a + q * u.b) * t.d * D := by ac_rfl
  have e2 : N * u.d * t.d = (p * t.a + q * t.b) * u.d * D := by
    have : N * u.d * t.d = N * t.d * u.d := by ac_rfl
    rw [this, ← h7]; ac_rfl
  omega

end AE.Try
