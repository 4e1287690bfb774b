/- Walks and plain laws: ChartZc, ChartZn. -/
import Derived.Test.YtbfhhncmmllblaaJoin9
import Derived.Test.YtbfhhncmmllblaaChartV
set_option linter.unusedVariables false
set_option linter.unusedSimpArgs false
set_option linter.unusedSectionVars false

/- Fractions in least terms; pulls of true charts. Plain laws. -/
namespace AE.Try
open Go AE Go.Proofs
set_option maxRecDepth 100000
set_option linter.unusedVariables false

/-! ### fractions -/

/-- n / d in least terms. -/
structure FrOf (x : Fr) (n d : Int) : Prop where
  d0 : 0 < x.d
  ex : ∃ g : Int, 0 < g ∧ n = x.n * g ∧ d = x.d * g
theorem fr_of {n d : Int} (hd : 0 < d) : FrOf (fr n d) n d := by
  have hg : 0 < (Int.gcd n d : Int) := Int.natCast_pos.2 (Int.gcd_pos_of_ne_zero_right n (by omega))
  have e1 := Int.ediv_mul_cancel (Int.gcd_dvd_left n d)
  have e2 := Int.ediv_mul_cancel (Int.gcd_dvd_right n d)
  exact ⟨Int.ediv_pos_of_pos_of_dvd hd (by omega) (Int.gcd_dvd_right n d), _, hg, e1.symm, e2.symm⟩
theorem FrOf.cross {x : Fr} {n d : Int} (k : FrOf x n d) : x.n * d = n * x.d := by
  obtain ⟨-, g, -, rfl, rfl⟩ := k
  rw [Int.mul_assoc, Int.mul_comm g x.d]
theorem FrOf.le_d {x : Fr} {n d : Int} (k : FrOf x n d) : x.d ≤ d := by
  obtain ⟨h, g, hg, -, rfl⟩ := k
  have := Int.mul_le_mul_of_nonneg_left (show 1 ≤ g by omega) (show 0 ≤ x.d by omega)
  omega
theorem le_of_mul {a b c : Int} (hc : 0 < c) (h : a * c ≤ b * c) : a ≤ b := Int.le_of_mul_le_mul_right h hc
theorem FrOf.le {x y : Fr} {n d n' d' : Int} (k : FrOf x n d) (k' : FrOf y n' d') (h : n * d' ≤ n' * d) : x.n * y.d ≤ y.n * x.d := by
  obtain ⟨h1, g, hg, rfl, rfl⟩ := k
  obtain ⟨h2, g', hg', rfl, rfl⟩ := k'
  refine le_of_mul (c := g * g') (Int.mul_pos hg hg') ?_
  have e1 : x.n * y.d * (g * g') = x.n * g * (y.d * g') := by ac_rfl
  have e2 : y.n * x.d * (g * g') = y.n * g' * (x.d * g) := by ac_rfl
  rw [e1, e2]
  exact h
theorem FrOf.whole (a : Int) : FrOf ⟨a, 1⟩ a 1 := ⟨Int.one_pos, 1, by decide, by simp, rfl⟩
theorem fr_scale {n d c : Int} (hd : 0 < d) (hc : 0 < c) : fr (n * c) (d * c) = fr n d := by
  have e : (Int.gcd (n * c) (d * c) : Int) = (Int.gcd n d : Int) * c := by
    rw [Int.gcd_mul_right, Int.natCast_mul, Int.natAbs_of_nonneg (by omega)]
  unfold fr
  rw [e, Int.mul_ediv_mul_of_pos_left _ _ hc, Int.mul_ediv_mul_of_pos_left _ _ hc]
theorem fr_eq {n d n' d' : Int} (hd : 0 < d) (hd' : 0 < d') (h : n * d' = n' * d) : fr n d = fr n' d' := by
  rw [← fr_scale hd hd', h, Int.mul_comm d d', fr_scale hd' hd]
/-! ### the pull at a point -/

theorem val_of {T : Tbl} {p : Pt} (ar : Around T p) (f : Nat → Nat → Int) : FrOf (T.val p f) (T.vsum p f) (T.whole p) := fr_of ar.whole.1
end AE.Try

/- Where a need is met: the advance, more and less. Plain laws. -/
namespace AE.Try
open Go AE Go.Proofs
set_option maxRecDepth 100000
set_option linter.unusedVariables false

/-- Where a falling row passes 0, between numbers that rise. -/
def RootAt (A g : Nat → Int) (n : Nat) (y : Fr) (q : Nat) : Prop :=
  q < n ∧ (∀ j, j < q → 0 < g j) ∧ ((g q = 0 ∧ y = ⟨A q, 1⟩) ∨ (0 < q ∧ g q < 0 ∧ y = fr (A (q - 1) * (-g q) + A q * g (q - 1)) (g (q - 1) + (-g q))))

/-- Its sum, and by what it is divided. -/
theorem RootAt.of {A g : Nat → Int} {n q : Nat} {y : Fr} (k : RootAt A g n y q) (hA : ∀ j, j + 1 < n → A j < A (j + 1)) : ∃ N D, 0 < D ∧ FrOf y N D ∧ N ≤ D * A q ∧ (0 < q → D * A (q - 1) < N) ∧ (q = 0 → N = D * A 0) ∧
    ((g q = 0 ∧ N = A q ∧ D = 1) ∨ (0 < q ∧ g q < 0 ∧ N = A (q - 1) * (-g q) + A q * g (q - 1) ∧ D = g (q - 1) + (-g q))) := by
  obtain ⟨hq, hp, hc⟩ := k
  rcases hc with ⟨h0, rfl⟩ | ⟨h0, h1, rfl⟩
  · refine ⟨A q, 1, by decide, FrOf.whole _, by omega, fun h => ?_, fun h => by subst h; omega, .inl ⟨h0, rfl, rfl⟩⟩
    have := hA (q - 1) (by omega)
    rw [show q - 1 + 1 = q by omega] at this
    omega
  · have ha := hp (q - 1) (by omega)
    have hlt := hA (q - 1) (by omega)
    rw [show q - 1 + 1 = q by omega] at hlt
    refine ⟨_, _, by omega, fr_of (by omega), ?_, fun _ => ?_, fun h => by omega, .inr ⟨h0, h1, rfl, rfl⟩⟩
    · have := Int.mul_nonneg (show 0 ≤ A q - A (q - 1) by omega) (show 0 ≤ -g q by omega)
      generalize A (q - 1) = P at *
      generalize A q = Q at *
      generalize g (q - 1) = a at *
      generalize g q = b at *
      have e : (a + -b) * Q - (P * -b + Q * a) = (Q - P) * -b := by grind
      omega
    · have := Int.mul_pos (show 0 < A q - A (q - 1) by omega) ha
      generalize A (q - 1) = P at *
      generalize A q = Q at *
      generalize g (q - 1) = a at *
      generalize g q = b at *
      have e : P * -b + Q * a - (a + -b) * P = (Q - P) * a := by grind
      omega
theorem up_le {A : Nat → Int} {n : Nat} (hA : ∀ j, j + 1 < n → A j < A (j + 1)) {i : Nat} : ∀ d, i + d < n → A i ≤ A (i + d)
  | 0, _ => Int.le_refl _
  | d + 1, h => by
    have h1 := up_le hA (i := i) d (by omega)
    have h2 := hA (i + d) (by omega)
    show A i ≤ A (i + d + 1)
    omega
theorem RootAt.le {A g g' : Nat → Int} {n q q' : Nat} {y y' : Fr} (k : RootAt A g n y q) (k' : RootAt A g' n y' q') (hA : ∀ j, j + 1 < n → A j < A (j + 1)) (hg : ∀ j, j < n → g j ≤ g' j) : y.n * y'.d ≤ y'.n * y.d := by
  obtain ⟨N, D, hD, f, u, l, z, c⟩ := k.of hA
  obtain ⟨N', D', hD', f', u', l', z', c'⟩ := k'.of hA
  refine f.le f' ?_
  obtain ⟨hq, hp, hc⟩ := k
  obtain ⟨hq', hp', hc'⟩ := k'
  have hqq : q ≤ q' := by
    refine Classical.byContradiction fun hlt => ?_
    have h1 := hp q' (by omega)
    have h2 := hg q' hq'
    rcases hc' with ⟨h3, -⟩ | ⟨-, h3, -⟩ <;> omega
  rcases Nat.lt_or_ge q q' with hlt | hge
  · have h1 : A q ≤ A (q' - 1) := by
      have := up_le hA (i := q) (q' - 1 - q) (by omega)
      rwa [show q + (q' - 1 - q) = q' - 1 by omega] at this
    have h2 := l' (by omega)
    have e1 : N * D' ≤ D * A q * D' := Int.mul_le_mul_of_nonneg_right u (by omega)
    have e2 : D * A q * D' ≤ D * A (q' - 1) * D' := Int.mul_le_mul_of_nonneg_right (Int.mul_le_mul_of_nonneg_left h1 (by omega)) (by omega)
    have e3 : D * (D' * A (q' - 1)) ≤ D * N' := Int.mul_le_mul_of_nonneg_left (by omega) (by omega)
    have e4 : D * A (q' - 1) * D' = D * (D' * A (q' - 1)) := by ac_rfl
    rw [Int.mul_comm N' D]
    omega
  · obtain rfl : q = q' := by omega
    have hgq := hg q hq
    rcases c with ⟨c0, c1, c2⟩ | ⟨c0, c1, c2, c3⟩
    · rcases c' with ⟨d0, d1, d2⟩ | ⟨d0, d1, d2, d3⟩
      · rw [c1, c2, d1, d2]; exact Int.le_refl _
      · omega
    · rcases c' with ⟨d0, d1, d2⟩ | ⟨d0, d1, d2, d3⟩
      · rw [d1, d2, Int.mul_one, Int.mul_comm]; exact u
      · have ha := hp (q - 1) (by omega)
        have hb := hg (q - 1) (by omega)
        have hlt := hA (q - 1) (by omega)
        rw [show q - 1 + 1 = q by omega] at hlt
        have m1 := Int.mul_le_mul_of_nonneg_right hb (show 0 ≤ -g q by omega)
        have m2 := Int.mul_le_mul_of_nonneg_left (show -g' q ≤ -g q by omega) (show 0 ≤ g (q - 1) by omega)
        have m3 : 0 ≤ (A q - A (q - 1)) * (g' (q - 1) * -g q - g (q - 1) * -g' q) := Int.mul_nonneg (by omega) (by omega)
        rw [c2, c3, d2, d3]
        generalize A (q - 1) = P at *
        generalize A q = Q at *
        generalize g (q - 1) = a at *
        generalize g q = b at *
        generalize g' (q - 1) = a' at *
        generalize g' q = b' at *
        have e : (P * -b' + Q * a') * (a + -b) - (P * -b + Q * a) * (a' + -b') = (Q - P) * (a' * -b - a * -b') := by grind
        omega
/-- Which two neighbours it lies between, and how. -/
theorem RootAt.between {A g : Nat → Int} {n q : Nat} {y : Fr} (k : RootAt A g n y q) (hn : 2 ≤ n) (hA : ∀ j, j + 1 < n → A j < A (j + 1)) :
    q - 1 + 1 < n ∧ (∀ j, j < q - 1 → j + 2 < n ∧ A (j + 1) * y.d < y.n) ∧ y.n ≤ A (q - 1 + 1) * y.d ∧ A (q - 1) * y.d ≤ y.n ∧ g (q - 1) * (A (q - 1 + 1) * y.d - y.n) + g (q - 1 + 1) * (y.n - A (q - 1) * y.d) = 0 ∧ 0 < y.d := by
  obtain ⟨N, D, hD, f, u, l, z, c⟩ := k.of hA
  have hq := k.1
  have hcr := f.cross
  have hd0 := f.d0
  have le_of : ∀ a : Int, N ≤ D * a → y.n ≤ a * y.d := fun a h => by
    refine le_of_mul hD ?_
    rw [hcr]
    have := Int.mul_le_mul_of_nonneg_right h (show 0 ≤ y.d by omega)
    have e : D * a * y.d = a * y.d * D := by ac_rfl
    omega
  have ge_of : ∀ a : Int, D * a ≤ N → a * y.d ≤ y.n := fun a h => by
    refine le_of_mul hD ?_
    rw [hcr]
    have := Int.mul_le_mul_of_nonneg_right h (show 0 ≤ y.d by omega)
    have e : D * a * y.d = a * y.d * D := by ac_rfl
    omega
  have gt_of : ∀ a : Int, D * a < N → a * y.d < y.n := fun a h => by
    refine Int.lt_of_mul_lt_mul_right (a := D) ?_ (by omega)
    rw [hcr]
    have := Int.mul_lt_mul_of_pos_right h hd0
    have e : D * a * y.d = a * y.d * D := by ac_rfl
    omega
  refine ⟨by omega, fun j hj => ⟨by omega, ?_⟩, ?_, ?_, ?_, hd0⟩
  · refine gt_of _ ?_
    have h1 : A (j + 1) ≤ A (q - 1) := by
      have := up_le hA (i := j + 1) (q - 1 - (j + 1)) (by omega)
      rwa [show j + 1 + (q - 1 - (j + 1)) = q - 1 by omega] at this
    have h2 := l (by omega)
    have h3 := Int.mul_le_mul_of_nonneg_left h1 (show 0 ≤ D by omega)
    omega
  · refine le_of _ ?_
    rcases Nat.eq_zero_or_pos q with h0 | h0
    · subst h0
      have h1 := z rfl
      have h2 : A 0 < A 1 := hA 0 (by omega)
      have h3 := Int.mul_le_mul_of_nonneg_left (show A 0 ≤ A 1 by omega) (show 0 ≤ D by omega)
      show N ≤ D * A 1
      omega
    · rw [show q - 1 + 1 = q by omega]; exact u
  · refine ge_of _ ?_
    rcases Nat.eq_zero_or_pos q with h0 | h0
    · subst h0
      have h1 := z rfl
      show D * A 0 ≤ N
      omega
    · have := l h0; omega
  · rcases c with ⟨c0, c1, c2⟩ | ⟨c0, c1, c2, c3⟩
    · subst c1 c2
      rw [Int.mul_one] at hcr
      rcases Nat.eq_zero_or_pos q with h0 | h0
      · subst h0
        show g 0 * (A 1 * y.d - y.n) + g 1 * (y.n - A 0 * y.d) = 0
        rw [c0, hcr]
        simp
      · rw [show q - 1 + 1 = q by omega, c0, hcr]
        simp
    · rw [show q - 1 + 1 = q by omega]
      rw [c2, c3] at hcr
      generalize A (q - 1) = P at *
      generalize A q = Q at *
      generalize g (q - 1) = a at *
      generalize g q = b at *
      grind
end AE.Try
