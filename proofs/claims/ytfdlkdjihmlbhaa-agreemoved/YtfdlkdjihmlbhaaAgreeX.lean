/- What the statements ask of spreads and differences. -/
import Derived.Test.YtfdlkdjihmlbhaaAgreeU
set_option linter.unusedVariables false
set_option linter.unusedSimpArgs false
set_option linter.unusedSectionVars false
namespace AE.Try
set_option linter.unusedSimpArgs false
set_option linter.unusedVariables false
open Go AE AE.Ag AgreeS Go.Proofs

theorem sErr_val (T : Table) (j : Nat) : sErr T j = 0 ∨ sErr T j = 5 ∨ sErr T j = 20 := by
  unfold sErr
  by_cases ha : Agrees T <;> by_cases ht : Tested T j <;> simp [ha, ht]
theorem bErr_val (T : Table) (i j : Nat) : bErr T i j = 0 ∨ bErr T i j = 5 ∨ bErr T i j = 20 := by
  unfold bErr
  by_cases ha : Agrees T <;> by_cases ht : Tested T i <;> by_cases hu : Tested T j <;> simp [ha, ht, hu]
theorem bErr_comm (T : Table) (i j : Nat) : bErr T i j = bErr T j i := by
  unfold bErr
  by_cases ha : Agrees T <;> by_cases ht : Tested T i <;> by_cases hu : Tested T j <;> simp [ha, ht, hu]
theorem sErr_doubt {T : Table} {j : Nat} : sErr T j = 20 ↔ ¬ Agrees T := by
  unfold sErr
  by_cases ha : Agrees T <;> by_cases ht : Tested T j <;> simp [ha, ht]
theorem bErr_doubt {T : Table} {i j : Nat} : bErr T i j = 20 ↔ ¬ Agrees T := by
  unfold bErr
  by_cases ha : Agrees T <;> by_cases ht : Tested T i <;> by_cases hu : Tested T j <;> simp [ha, ht, hu]

theorem tested_lt {T : Table} (h : T.Ok) {j : Nat} (hj : Tested T j) : j < T.hulls := by
  obtain ⟨y, hy, rfl⟩ := hj
  exact (h.tests y hy).hull
theorem s_small {T : Table} (h : T.Ok) (j : Nat) : -12000000 ≤ sLo T j ∧ sLo T j ≤ 12000000 ∧ -12000000 ≤ sHi T j ∧ sHi T j ≤ 12000000 := by
  unfold sLo sHi
  by_cases he : sErr T j = 0
  · rw [if_pos he, if_pos he]
    obtain ⟨ha, ht⟩ := sErr_ok.1 he
    have h1 := low_small h ha (1 + T.tanks + j)
    have h2 := high_small h ha (1 + T.tanks + j)
    unfold AgreeS.M at h1 h2
    unfold lowX highX
    omega
  · rw [if_neg he, if_neg he]; omega
theorem b_small {T : Table} (h : T.Ok) (i j : Nat) : -12000000 ≤ bLo T i j ∧ bLo T i j ≤ 12000000 ∧ -12000000 ≤ bHi T i j ∧ bHi T i j ≤ 12000000 := by
  unfold bLo bHi
  by_cases he : bErr T i j = 0
  · rw [if_pos he, if_pos he]
    obtain ⟨ha, ht, hu⟩ := bErr_ok.1 he
    have l1 := tested_lt h ht
    have l2 := tested_lt h hu
    have h1 := hts_small (agrees_from h ha (a := 1 + T.tanks + i) (by simp only [Table.many]; omega)) (1 + T.tanks + j)
    have h2 := hts_small (agrees_from h ha (a := 1 + T.tanks + j) (by simp only [Table.many]; omega)) (1 + T.tanks + i)
    unfold AgreeS.M at h1 h2
    unfold AgreeS.far
    omega
  · rw [if_neg he, if_neg he]; omega
theorem b_own {T : Table} (h : T.Ok) (i : Nat) : bLo T i i = 0 ∧ bHi T i i = 0 := by
  unfold bLo bHi
  by_cases he : bErr T i i = 0
  · rw [if_pos he, if_pos he]
    obtain ⟨ha, ht, hu⟩ := bErr_ok.1 he
    have := far_own h ha ht
    omega
  · rw [if_neg he, if_neg he]; omega
theorem bLo_eq {T : Table} {i j : Nat} (he : bErr T i j = 0) : bLo T i j = -AgreeS.far T j i := if_pos he
theorem bHi_eq {T : Table} {i j : Nat} (he : bErr T i j = 0) : bHi T i j = AgreeS.far T i j := if_pos he
theorem sLo_eq {T : Table} {i : Nat} (he : sErr T i = 0) : sLo T i = lowX T i := if_pos he
theorem sHi_eq {T : Table} {i : Nat} (he : sErr T i = 0) : sHi T i = highX T i := if_pos he
theorem b_pair {T : Table} (h : T.Ok) (i j : Nat) (he : bErr T i j = 0) : sErr T i = 0 ∧ sErr T j = 0 ∧ bLo T j i = -bHi T i j ∧ bHi T j i = -bLo T i j ∧ bLo T i j ≤ bHi T i j ∧ sLo T i - sHi T j ≤ bLo T i j ∧ bHi T i j ≤ sHi T i - sLo T j := by
  obtain ⟨ha, ht, hu⟩ := bErr_ok.1 he
  have he' : bErr T j i = 0 := by rw [bErr_comm]; exact he
  have s1 : sErr T i = 0 := sErr_ok.2 ⟨ha, ht⟩
  have s2 : sErr T j = 0 := sErr_ok.2 ⟨ha, hu⟩
  rw [bLo_eq he, bHi_eq he, bLo_eq he', bHi_eq he', sLo_eq s1, sHi_eq s1, sLo_eq s2, sHi_eq s2]
  have f1 := far_spread h ha ht hu
  have f2 := far_spread h ha hu ht
  have f3 := far_back h ha ht hu
  omega
theorem b_chain {T : Table} (h : T.Ok) (i j k : Nat) (h1 : bErr T i j = 0) (h2 : bErr T j k = 0) : bErr T i k = 0 ∧ bHi T i k ≤ bHi T i j + bHi T j k ∧ bLo T i j + bLo T j k ≤ bLo T i k := by
  obtain ⟨ha, ht, hu⟩ := bErr_ok.1 h1
  obtain ⟨-, -, hw⟩ := bErr_ok.1 h2
  have h3 : bErr T i k = 0 := bErr_ok.2 ⟨ha, ht, hw⟩
  rw [bLo_eq h1, bHi_eq h1, bLo_eq h2, bHi_eq h2, bLo_eq h3, bHi_eq h3]
  have f1 := far_sum h ha ht hu hw
  have f2 := far_sum h ha hw hu ht
  omega
/-- A truth that fits. -/
theorem fits_in {T : Table} (h : T.Ok) {b x : Nat → Int} (k : Fits T b x) (i j : Nat) : sErr T i ≠ 20 ∧ bErr T i j ≠ 20 ∧ (sErr T i = 0 → sLo T i ≤ x i ∧ x i ≤ sHi T i) ∧ (bErr T i j = 0 → bLo T i j ≤ x i - x j ∧ x i - x j ≤ bHi T i j) := by
  have ha : Agrees T := ⟨b, x, k⟩
  refine ⟨fun e => sErr_doubt.1 e ha, fun e => bErr_doubt.1 e ha, fun he => ?_, fun he => ?_⟩
  · rw [sLo_eq he, sHi_eq he]
    exact spread_holds h k (sErr_ok.1 he).2
  · obtain ⟨-, ht, hu⟩ := bErr_ok.1 he
    rw [bLo_eq he, bHi_eq he]
    have f1 := far_holds h k ht hu
    have f2 := far_holds h k hu ht
    omega

theorem mod_hulls {T : Tab} (hv : T.Valid) (z : Int) : 0 ≤ z % T.hulls ∧ z % T.hulls < T.hulls := by
  have := hv.h1
  exact ⟨Int.emod_nonneg _ (by omega), Int.emod_lt_of_pos _ (by omega)⟩

end AE.Try
