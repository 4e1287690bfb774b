/- The clerk's texts and seals, in plain words. -/
set_option linter.unusedVariables false
set_option linter.unusedSimpArgs false
set_option linter.unusedSectionVars false
namespace AE.Clerk


def dec (n : Nat) : List Nat := if n < 10 then [48 + n] else dec (n / 10) ++ [48 + n % 10]
termination_by n
decreasing_by omega
theorem dec_lt {n : Nat} (h : n < 10) : dec n = [48 + n] := by rw [dec, if_pos h]
theorem dec_ge {n : Nat} (h : 10 ≤ n) : dec n = dec (n / 10) ++ [48 + n % 10] := by rw [dec, if_neg (by omega)]
theorem dec_ne (n : Nat) : dec n ≠ [] := by
  rcases Nat.lt_or_ge n 10 with h | h
  · rw [dec_lt h]; simp
  · rw [dec_ge h]; simp
theorem dec_digit {n : Nat} : ∀ c ∈ dec n, 48 ≤ c ∧ c ≤ 57 := by
  induction n using Nat.strongRecOn with
  | ind n ih =>
    rcases Nat.lt_or_ge n 10 with h | h
    · rw [dec_lt h]; intro c hc; simp at hc; omega
    · rw [dec_ge h]
      intro c hc
      rcases List.mem_append.1 hc with hc | hc
      · exact ih (n / 10) (by omega) c hc
      · simp at hc; omega
def valD (l : List Nat) : Nat := l.foldl (fun n c => 10 * n + (c - 48)) 0
theorem valD_snoc (l : List Nat) (c : Nat) : valD (l ++ [c]) = 10 * valD l + (c - 48) := by simp [valD, List.foldl_append]
theorem valD_dec (n : Nat) : valD (dec n) = n := by
  induction n using Nat.strongRecOn with
  | ind n ih =>
    rcases Nat.lt_or_ge n 10 with h | h
    · rw [dec_lt h]; simp [valD]
    · rw [dec_ge h, valD_snoc, ih (n / 10) (by omega)]; omega
theorem dec_inj {m n : Nat} (h : dec m = dec n) : m = n := by rw [← valD_dec m, ← valD_dec n, h]
def P : Int := 2147483647
def leafF (n : Int) (c : Nat) : Int := (257 * n + (c : Int) + 1) % P
def leaf (l : List Nat) : Int := l.foldl leafF 1
def node (x y : Int) : Int := (1000003 * x + 20011 * y + 7) % P
theorem leafF_bd (n : Int) (c : Nat) : 0 ≤ leafF n c ∧ leafF n c < P := ⟨Int.emod_nonneg _ (by decide), Int.emod_lt_of_pos _ (by decide)⟩
theorem leaf_bd (l : List Nat) : 0 ≤ leaf l ∧ leaf l < P := by
  unfold leaf
  rcases List.eq_nil_or_concat l with rfl | ⟨m, c, rfl⟩
  · simp [P]
  · rw [List.concat_eq_append, List.foldl_append]; exact leafF_bd _ _
theorem node_bd (x y : Int) : 0 ≤ node x y ∧ node x y < P := ⟨Int.emod_nonneg _ (by decide), Int.emod_lt_of_pos _ (by decide)⟩
end AE.Clerk
