/- Fractions in least terms; pulls of true charts. Plain laws. -/
import Derived.Test.YtbfhhncmmllblaaChartZb
set_option linter.unusedVariables false
set_option linter.unusedSimpArgs false
set_option linter.unusedSectionVars false
namespace AE.Try
open Go AE Go.Proofs
set_option maxRecDepth 100000
set_option linter.unusedVariables false

/-! ### fractions -/

/-- n / d in least terms. -/
structure FrOf (x : Fr) (n d : Int) : Prop where
  d0 : 0 < x.d
  ex : ∃ g : Int, 0 < g ∧ n = x.n * g ∧ d = x.d * g
theorem fr_of {n d : Int} (hd : 0 < d) : FrOf (fr n d) n d := by
  have hg : 0 < (Int.gcd n d : Int) := Int.natCast_pos.2 (Int.gcd_pos_of_ne_zero_right n (by omega))
  have e1 := Int.ediv_mul_cancel (Int.gcd_dvd_left n d)
  have e2 := Int.ediv_mul_cancel (Int.gcd_dvd_right n d)
  exact ⟨Int.ediv_pos_of_pos_of_dvd hd (by omega) (Int.gcd_dvd_right n d), _, hg, e1.symm, e2.symm⟩
theorem FrOf.cross {x : Fr} {n d : Int} (k : FrOf x n d) : x.n * d = n * x.d := by
  obtain ⟨-, g, -, rfl, rfl⟩ := k
  rw [Int.mul_assoc, Int.mul_comm g x.d]
theorem FrOf.le_d {x : Fr} {n d : Int} (k : FrOf x n d) : x.d ≤ d := by
  obtain ⟨h, g, hg, -, rfl⟩ := k
  have := Int.mul_le_mul_of_nonneg_left (show 1 ≤ g by omega) (show 0 ≤ x.d by omega)
  omega
theorem le_of_mul {a b c : Int} (hc : 0 < c) (h : a * c ≤ b * c) : a ≤ b := Int.le_of_mul_le_mul_right h hc
theorem FrOf.le {x y : Fr} {n d n' d' : Int} (k : FrOf x n d) (k' : FrOf y n' d') (h : n * d' ≤ n' * d) : x.n * y.d ≤ y.n * x.d := by
  obtain ⟨h1, g, hg, rfl, rfl⟩ := k
  obtain ⟨h2, g', hg', rfl, rfl⟩ := k'
  refine le_of_mul (c := g * g') (Int.mul_pos hg hg') ?_
  have e1 : x.n * y.d * (g * g') = x.n * g * (y.d * g') := by ac_rfl
  have e2 : y.n * x.d * (g * g') = y.n * g' * (x.d * g) := by ac_rfl
  rw [e1, e2]
  exact h
theorem FrOf.whole (a : Int) : FrOf ⟨a, 1⟩ a 1 := ⟨Int.one_pos, 1, by decide, by simp, rfl⟩
theorem fr_scale {n d c : Int} (hd : 0 < d) (hc : 0 < c) : fr (n * c) (d * c) = fr n d := by
  have e : (Int.gcd (n * c) (d * c) : Int) = (Int.gcd n d : Int) * c := by
    rw [Int.gcd_mul_right, Int.natCast_mul, Int.natAbs_of_nonneg (by omega)]
  unfold fr
  rw [e, Int.mul_ediv_mul_of_pos_left _ _ hc, Int.mul_ediv_mul_of_pos_left _ _ hc]
theorem fr_eq {n d n' d' : Int} (hd : 0 < d) (hd' : 0 < d') (h : n * d' = n' * d) : fr n d = fr n' d' := by
  rw [← fr_scale hd hd', h, Int.mul_comm d d', fr_scale hd' hd]
theorem FrOf.formed {x : Fr} {n d : Int} (k : FrOf x n d) (hd : d ≤ 4000000) (h0 : 0 ≤ n) (h1 : n ≤ 100000 * d) : x.Formed := by
  have hle := k.le_d
  obtain ⟨h, g, hg, rfl, rfl⟩ := k
  refine ⟨h, by omega, ?_, ?_⟩
  · exact Int.nonneg_of_mul_nonneg_left h0 hg
  · refine le_of_mul hg ?_
    rw [Int.mul_assoc]
    exact h1

/-! ### the pull at a point -/

theorem vsum_le {T : Tbl} {p : Pt} {f f' : Nat → Nat → Int} (ar : Around T p) (h : ∀ i k, i < T.P.n → k < T.A.n → f i k ≤ f' i k) : T.vsum p f ≤ T.vsum p f' := by
  unfold Tbl.vsum
  refine ps_le 4 fun j hj => ?_
  unfold Tbl.vt
  have := ar.w j
  have hc := ar.cin hj
  exact Int.mul_le_mul_of_nonneg_left (h _ _ hc.1 hc.2) this.1
theorem val_of {T : Tbl} {p : Pt} (ar : Around T p) (f : Nat → Nat → Int) : FrOf (T.val p f) (T.vsum p f) (T.whole p) := fr_of ar.whole.1
theorem vsum_rng {T : Tbl} {p : Pt} {f : Nat → Nat → Int} (ar : Around T p) (h : ∀ i k, i < T.P.n → k < T.A.n → 0 ≤ f i k ∧ f i k ≤ 100000) : 0 ≤ T.vsum p f ∧ T.vsum p f ≤ 100000 * T.whole p := by
  have z := vsum_le (f := fun _ _ => 0) ar fun i k hi hk => (h i k hi hk).1
  have y := vsum_le (f' := fun _ _ => 100000) ar fun i k hi hk => (h i k hi hk).2
  rw [← wm_sum ar] at z y
  rw [← wm_sum ar (fun _ _ => 100000)] at y
  have e1 : gs (fun i k => T.wm p i k * 0) T.P.n T.A.n = 0 := by rw [gs_congr (g := fun _ _ => 0) fun i k _ _ => Int.mul_zero _, gs_zero]
  rw [e1] at z
  rw [gs_mul, wm_whole ar] at y
  rw [wm_sum ar] at y
  exact ⟨z, by omega⟩
theorem val_formed {T : Tbl} {p : Pt} {f : Nat → Nat → Int} (ar : Around T p) (h : ∀ i k, i < T.P.n → k < T.A.n → 0 ≤ f i k ∧ f i k ≤ 100000) : (T.val p f).Formed := by
  have := vsum_rng ar h
  exact (val_of ar f).formed ar.whole.2 this.1 this.2
end AE.Try
