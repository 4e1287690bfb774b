/- Walks and plain laws: GSpanNa, GSpanNb. -/
import Derived.Test.YtkkndecbijgolaaGreatGSpanYm0
set_option linter.unusedVariables false
set_option linter.unusedSimpArgs false
set_option linter.unusedSectionVars false

/- Plain laws of span, for the great seat: greatest values; a span with one run more. -/
namespace AE.Tryz
open Go AE Go.Proofs AE.Sp
set_option maxRecDepth 100000
set_option linter.unusedVariables false

/-- What allows less is not wider. -/
theorem wide_le {L Y : Runs} {p q : Int} (lv : L.Val) (lv' : Y.Val) (c : L.Cl) (c' : Y.Cl) (b : L.Bnd p q) (b' : Y.Bnd p q) (fac : Fac p q) (h : ∀ t : Tru, 0 < t.d → Y.Fits t → L.Fits t) : ¬ flt (L.wide p q) (Y.wide p q) := by
  obtain ⟨N, D, k, e, hd, hn⟩ := Lst.rng lv c b fac
  obtain ⟨M, E, k2, e2, hd2, hn2⟩ := Lst.rng lv c (bnd_negI lv b) (fac_neg fac)
  obtain ⟨N', D', k', e', hd', hn'⟩ := Lst.rng lv' c' b' fac
  obtain ⟨M', E', k2', e2', hd2', hn2'⟩ := Lst.rng lv' c' (bnd_negI lv' b') (fac_neg fac)
  have one : ∀ {p q N D N' D' : Int}, Lst L p q N D → Lst Y p q N' D' → N * D' ≤ N' * D := fun {p q N D N' D'} k k' => by
    obtain ⟨t, h1, h2, h3⟩ := k'.at'
    have h4 := k.le t (h t h3 h1) h3
    have d := k.d
    have d' := k'.d
    refine le_of_mul h3 ?_
    have m := Int.mul_le_mul_of_nonneg_right h4 (show 0 ≤ D' by omega)
    have e1 : N * D' * t.d = N * t.d * D' := by ac_rfl
    have e2 : N' * D * t.d = N' * t.d * D := by ac_rfl
    have e3 : (p * t.a + q * t.b) * D * D' = (p * t.a + q * t.b) * D' * D := by ac_rfl
    rw [e1, e2, ← h2, ← e3]
    exact m
  have i1 := one k k'
  have i2 := one k2 k2'
  have f1 := (fr_of (n := N) hd.1)
  have f2 := (fr_of (n := M) hd2.1)
  have f3 := (fr_of (n := N') hd'.1)
  have f4 := (fr_of (n := M') hd2'.1)
  have j1 := f1.le f3 i1
  have j2 := f2.le f4 i2
  unfold Runs.wide
  rw [e, e2, e', e2']
  have p1 := f1.d0
  have p2 := f2.d0
  have p3 := f3.d0
  have p4 := f4.d0
  generalize fr N D = x at *
  generalize fr M E = y at *
  generalize fr N' D' = u at *
  generalize fr M' E' = v at *
  rw [flt_fr (Int.mul_pos p1 p2) (Int.mul_pos p3 p4)]
  refine Int.not_lt.2 ?_
  have m1 := Int.mul_le_mul_of_nonneg_right j1 (show 0 ≤ y.d * v.d from Int.mul_nonneg (by omega) (by omega))
  have m2 := Int.mul_le_mul_of_nonneg_right j2 (show 0 ≤ x.d * u.d from Int.mul_nonneg (by omega) (by omega))
  have g1 : (-v.n * u.d - u.n * v.d) * (x.d * y.d) = -(v.n * y.d * (x.d * u.d)) - u.n * x.d * (y.d * v.d) := by grind
  have g2 : (-y.n * x.d - x.n * y.d) * (u.d * v.d) = -(y.n * v.d * (x.d * u.d)) - x.n * u.d * (y.d * v.d) := by grind
  rw [g1, g2]
  omega
end AE.Tryz

/- Walks of span's definitions: the span of corners; which choices are valid. -/
namespace AE.Tryz
open Go AE Go.Proofs AE.Sp
set_option maxRecDepth 100000
set_option linter.unusedVariables false

end AE.Tryz
