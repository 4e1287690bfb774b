/- The friction falls. -/
import Derived.Test.YthajcipblfchiaaDragSpec
set_option linter.unusedVariables false
set_option linter.unusedSimpArgs false
set_option linter.unusedSectionVars false
namespace AE.Drag
open Go AE

theorem fric_at {L : Line} (v : Valid L) {i : Nat} (hi : i < L.n) : fric L (L.re i) = L.cf i := by
  have e : idx L (L.re i) = i := idx_uniq v (fun j hj => v.re_lt hj hi) (fun _ => Int.le_refl _) (by omega)
  unfold fric fr
  rw [e, if_pos rfl]
theorem inside_at {L : Line} (v : Valid L) {i : Nat} (hi : i < L.n) : inside L (L.re i) := by
  constructor
  · rcases Nat.eq_zero_or_pos i with h | h
    · subst h; omega
    · have := v.re_lt h hi; omega
  · by_cases h : i = L.n - 1
    · subst h; omega
    · have := v.re_lt (i := i) (j := L.n - 1) (by omega) (by omega); omega
theorem fric_ge {L : Line} (v : Valid L) {x : Int} (h : inside L x) : L.cf (idx L x) ≤ fric L x := by
  unfold fric fr
  split
  · omega
  · rename_i hne
    have m := idx_mid v h hne
    have := m.q1; omega
theorem fric_le {L : Line} (v : Valid L) {x : Int} (h : inside L x) (hne : L.re (idx L x) ≠ x) : fric L x ≤ L.cf (idx L x - 1) := by
  unfold fric fr
  rw [if_neg hne]
  have m := idx_mid v h hne
  have := m.q0; omega
theorem idx_mono {L : Line} (v : Valid L) {x y : Int} (hx : inside L x) (hy : inside L y) (hxy : x ≤ y) : idx L x ≤ idx L y := by
  obtain ⟨h1, h2⟩ := idx_in v hy
  obtain ⟨s1, s2⟩ := idx_spec v x
  rcases Nat.lt_or_ge (idx L y) (idx L x) with h | h
  · have := s1 _ h; omega
  · exact h
theorem fric_falls {L : Line} (v : Valid L) {x y : Int} (hx : inside L x) (hy : inside L y) (hxy : x ≤ y) : fric L y ≤ fric L x := by
  by_cases e : x = y
  · subst e; omega
  have hk := idx_mono v hx hy hxy
  have hyi := idx_in v hy
  have hge := fric_ge v hx
  by_cases hne : L.re (idx L y) = y
  · have e2 : fric L y = L.cf (idx L y) := by unfold fric fr; rw [if_pos hne]
    have := v.cf_le hk hyi.1
    omega
  have hle := fric_le v hy hne
  by_cases hk2 : idx L x < idx L y
  · have := v.cf_le (i := idx L x) (j := idx L y - 1) (by omega) (by omega)
    omega
  have hk3 : idx L x = idx L y := by omega
  have hxi := idx_in v hx
  have hnx : L.re (idx L x) ≠ x := by rw [hk3] at hxi ⊢; omega
  have mx := idx_mid v hx hnx
  have my := idx_mid v hy hne
  unfold fric fr
  rw [if_neg hne, if_neg hnx, hk3]
  rw [hk3] at mx
  have a := my.c1; have b := mx.lo; have c := mx.hi
  have : (L.cf (idx L y - 1) - L.cf (idx L y)) * (x - L.re (idx L y - 1)) / (L.re (idx L y) - L.re (idx L y - 1)) ≤ (L.cf (idx L y - 1) - L.cf (idx L y)) * (y - L.re (idx L y - 1)) / (L.re (idx L y) - L.re (idx L y - 1)) :=
    Int.ediv_le_ediv (by omega) (Int.mul_le_mul_of_nonneg_left (by omega) (by omega))
  omega
end AE.Drag
