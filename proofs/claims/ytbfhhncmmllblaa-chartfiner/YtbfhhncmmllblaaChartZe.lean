/- Walks of the laws of charts: fractions compared by whole parts, what is left turned over. -/
import Derived.Test.YtbfhhncmmllblaaChartZc
set_option linter.unusedVariables false
set_option linter.unusedSimpArgs false
set_option linter.unusedSectionVars false
namespace AE.Try
open Go AE Go.Proofs
set_option maxRecDepth 100000
set_option linter.unusedVariables false

/-! ### plain laws -/

theorem floor_le {a b c d : Int} (hb : 0 < b) (hd : 0 < d) (h : a * d ≤ c * b) : a / b ≤ c / d := by
  have e1 := Int.mul_ediv_add_emod a b
  have e2 := Int.mul_ediv_add_emod c d
  have u0 := emod_in (x := a) hb
  have v0 := emod_in (x := c) hd
  generalize a / b = p at *
  generalize c / d = q at *
  refine Classical.byContradiction fun hc => ?_
  have hpq : q + 1 ≤ p := by omega
  have h1 : b * (q + 1) ≤ b * p := Int.mul_le_mul_of_nonneg_left hpq (by omega)
  have h2 : (b * (q + 1)) * d ≤ a * d := Int.mul_le_mul_of_nonneg_right (by omega) (by omega)
  have h3 : c * b < (d * (q + 1)) * b := Int.mul_lt_mul_of_pos_right (by rw [Int.mul_add]; omega) hb
  have e3 : b * (q + 1) * d = d * (q + 1) * b := by ac_rfl
  omega
theorem rest_le {a b c d : Int} (hb : 0 < b) (hd : 0 < d) (h : a * d ≤ c * b) (he : a / b = c / d) : (a % b) * d ≤ (c % d) * b := by
  have e1 := Int.mul_ediv_add_emod a b
  have e2 := Int.mul_ediv_add_emod c d
  rw [he] at e1
  generalize c / d = q at *
  have f1 : a * d = b * q * d + a % b * d := by rw [← Int.add_mul, e1]
  have f2 : c * b = d * q * b + c % d * b := by rw [← Int.add_mul, e2]
  have f3 : b * q * d = d * q * b := by ac_rfl
  omega

/-- What is known when two fractions are compared, after i steps. -/
structure CF (i : Nat) (x y : Fr) : Prop where
  dx : 1 ≤ x.d ∧ x.d ≤ 70368744177664
  dy : 1 ≤ y.d ∧ y.d ≤ 70368744177664
  nx : -4611686018427387904 ≤ x.n ∧ x.n ≤ 4611686018427387904
  ny : -4611686018427387904 ≤ y.n ∧ y.n ≤ 4611686018427387904
  ev : i % 2 = 0 → x.n * y.d ≤ y.n * x.d
  od : i % 2 = 1 → y.n * x.d ≤ x.n * y.d
  p0 : i % 2 = 0 → x.d * 2 ^ (i / 2) ≤ 70368744177664
  p1 : i % 2 = 1 → x.d < x.n ∧ x.n * 2 ^ (i / 2) ≤ 70368744177664
theorem CF.ne {i : Nat} {x y : Fr} (k : CF i x y) (h : x.n / x.d ≠ y.n / y.d) : (x.n / x.d < y.n / y.d) ↔ i % 2 = 0 := by
  obtain ⟨dx, dy, -, -, ev, od, -, -⟩ := k
  constructor
  · intro hl
    refine Classical.byContradiction fun hi => ?_
    have := floor_le (by omega) (by omega) (od (by omega))
    omega
  · intro hi
    have := floor_le (by omega) (by omega) (ev hi)
    omega
theorem CF.next {i : Nat} {x y : Fr} (k : CF i x y) (he : x.n / x.d = y.n / y.d) (hu : x.n % x.d ≠ 0) (hv : y.n % y.d ≠ 0) : CF (i + 1) ⟨x.d, x.n % x.d⟩ ⟨y.d, y.n % y.d⟩ := by
  obtain ⟨dx, dy, nx, ny, ev, od, p0, p1⟩ := k
  have u0 := emod_in (x := x.n) (b := x.d) (by omega)
  have v0 := emod_in (x := y.n) (b := y.d) (by omega)
  refine ⟨by dsimp only; omega, by dsimp only; omega, by dsimp only; omega, by dsimp only; omega, fun hi => ?_, fun hi => ?_, fun hi => ?_, fun hi => ?_⟩
  · have := rest_le (by omega) (by omega) (od (by omega)) he.symm
    dsimp only
    rw [Int.mul_comm x.d, Int.mul_comm y.d]
    exact this
  · have := rest_le (by omega) (by omega) (ev (by omega)) he
    dsimp only
    rw [Int.mul_comm x.d, Int.mul_comm y.d]
    exact this
  · obtain ⟨h1, h2⟩ := p1 (by omega)
    have e : (i + 1) / 2 = i / 2 + 1 := by omega
    dsimp only
    rw [e, Int.pow_succ]
    have hp : (0 : Int) < 2 ^ (i / 2) := Int.pow_pos (by decide)
    have hq : 1 ≤ x.n / x.d := Int.le_ediv_of_mul_le (by omega) (by omega)
    have e1 := Int.mul_ediv_add_emod x.n x.d
    have hm : x.d * 1 ≤ x.d * (x.n / x.d) := Int.mul_le_mul_of_nonneg_left hq (by omega)
    have h3 : x.n % x.d * 2 ≤ x.n := by omega
    have h4 := Int.mul_le_mul_of_nonneg_right h3 (show 0 ≤ (2 : Int) ^ (i / 2) by omega)
    have e2 : x.n % x.d * (2 ^ (i / 2) * 2) = x.n % x.d * 2 * 2 ^ (i / 2) := by ac_rfl
    omega
  · have h1 := p0 (by omega)
    have e : (i + 1) / 2 = i / 2 := by omega
    dsimp only
    rw [e]
    exact ⟨by omega, h1⟩
theorem CF.last {x y : Fr} (k : CF 200 x y) : False := by
  have h := k.p0 (by decide)
  have hd := k.dx
  have e : (2 : Int) ^ (200 / 2) = 1267650600228229401496703205376 := by decide
  rw [e] at h
  omega
theorem CF.first {x y : Fr} (dx : 1 ≤ x.d ∧ x.d ≤ 70368744177664) (dy : 1 ≤ y.d ∧ y.d ≤ 70368744177664) (nx : -4611686018427387904 ≤ x.n ∧ x.n ≤ 4611686018427387904) (ny : -4611686018427387904 ≤ y.n ∧ y.n ≤ 4611686018427387904) (h : x.n * y.d ≤ y.n * x.d) : CF 0 x y :=
  ⟨dx, dy, nx, ny, fun _ => h, fun h => by omega, fun _ => by simp; omega, fun h => by omega⟩

/-! ### walks -/

end AE.Try
