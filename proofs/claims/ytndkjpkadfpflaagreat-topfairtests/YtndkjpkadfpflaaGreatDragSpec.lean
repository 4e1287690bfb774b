/- What drag computes, in plain words: friction lines. -/
import Derived.Test.YtndkjpkadfpflaaGreatAEthree
set_option linter.unusedVariables false
set_option linter.unusedSimpArgs false
set_option linter.unusedSectionVars false
namespace AE.Drag
open Go AE

/-- A friction line as a value: the numbers, and where they lie. -/
structure Line where
  n : Nat
  re : Nat → Int
  m : Nat
  cf : Nat → Int
  b1 : Option Addr
  a1 : Addr
  c1 : Nat
  b2 : Option Addr
  a2 : Addr
  c2 : Nat
def Line.cells (L : Line) : List Value := [.slice L.b1 L.n L.c1, .slice L.b2 L.m L.c2]
structure Line.Ok (L : Line) (m : Nat) (h : H) : Prop where
  e1 : 0 < L.n → L.b1 = some L.a1
  i1 : Ints h L.a1 L.n L.re
  r1 : 0 < L.n → L.a1.block < m
  e2 : 0 < L.m → L.b2 = some L.a2
  i2 : Ints h L.a2 L.m L.cf
  r2 : 0 < L.m → L.a2.block < m
  l1 : L.n ≤ 9223372036854775807
  l2 : L.m ≤ 9223372036854775807
theorem Line.Ok.same {L : Line} {m m' : Nat} {h h' : H} (k : L.Ok m h) (s : Same m h h') (hm : m ≤ m') : L.Ok m' h' :=
  ⟨k.e1, k.i1.same s k.r1, fun h => by have := k.r1 h; omega, k.e2, k.i2.same s k.r2, fun h => by have := k.r2 h; omega, k.l1, k.l2⟩

/-- Point i is as it has to be. -/
def pointOk (L : Line) (i : Nat) : Prop := 1 ≤ L.re i ∧ L.re i ≤ 1000000000 ∧ 0 ≤ L.cf i ∧ L.cf i ≤ 100000 ∧ (0 < i → L.re (i - 1) < L.re i ∧ L.cf i ≤ L.cf (i - 1))
open Classical in
noncomputable def lineErr (L : Line) : Int := if L.n < 2 ∨ 12 < L.n then 6 else if L.m ≠ L.n then 15 else if ∀ i, i < L.n → pointOk L i then 0 else 2

structure Valid (L : Line) : Prop where
  lo : 2 ≤ L.n
  hi : L.n ≤ 12
  eq : L.m = L.n
  pt : ∀ i, i < L.n → pointOk L i

theorem lineErr_valid {L : Line} : lineErr L = 0 ↔ Valid L := by
  unfold lineErr
  constructor
  · intro h
    split at h
    · omega
    · split at h
      · omega
      · split at h
        · rename_i h1 h2 h3
          exact ⟨by omega, by omega, by omega, h3⟩
        · omega
  · rintro ⟨h1, h2, h3, h4⟩
    rw [if_neg (by omega), if_neg (by omega), if_pos h4]

theorem Valid.re_lt {L : Line} (v : Valid L) : ∀ {i j : Nat}, i < j → j < L.n → L.re i < L.re j := by
  intro i j hij hj
  induction j with
  | zero => omega
  | succ j ih =>
    have := ((v.pt (j + 1) hj).2.2.2.2 (by omega)).1
    simp only [Nat.add_sub_cancel] at this
    by_cases h : i = j
    · subst h; exact this
    · have := ih (by omega) (by omega); omega
theorem Valid.cf_le {L : Line} (v : Valid L) : ∀ {i j : Nat}, i ≤ j → j < L.n → L.cf j ≤ L.cf i := by
  intro i j hij hj
  induction j with
  | zero => have : i = 0 := by omega
            subst this; omega
  | succ j ih =>
    by_cases h : i = j + 1
    · subst h; omega
    · have := ((v.pt (j + 1) hj).2.2.2.2 (by omega)).2
      simp only [Nat.add_sub_cancel] at this
      have := ih (by omega) (by omega); omega
theorem Valid.re_bd {L : Line} (v : Valid L) {i : Nat} (hi : i < L.n) : 1 ≤ L.re i ∧ L.re i ≤ 1000000000 := ⟨(v.pt i hi).1, (v.pt i hi).2.1⟩
theorem Valid.cf_bd {L : Line} (v : Valid L) {i : Nat} (hi : i < L.n) : 0 ≤ L.cf i ∧ L.cf i ≤ 100000 := ⟨(v.pt i hi).2.2.1, (v.pt i hi).2.2.2.1⟩

/-- How many of the first k numbers lie below x, if the numbers rise: the last such one, and 1. -/
def cnt (re : Nat → Int) (x : Int) : Nat → Nat
  | 0 => 0
  | k + 1 => if re k < x then k + 1 else cnt re x k
theorem cnt_le (re : Nat → Int) (x : Int) : ∀ k, cnt re x k ≤ k
  | 0 => Nat.le_refl _
  | k + 1 => by
    unfold cnt
    split
    · omega
    · have := cnt_le re x k; omega
/-- The point behind x. -/
def idx (L : Line) (x : Int) : Nat := cnt L.re x L.n
theorem cnt_spec {re : Nat → Int} {x : Int} : ∀ {k : Nat}, (∀ i j, i < j → j < k → re i < re j) → (∀ i, i < cnt re x k → re i < x) ∧ (∀ i, cnt re x k ≤ i → i < k → x ≤ re i)
  | 0, _ => ⟨fun i h => by simp [cnt] at h, fun i _ h => by omega⟩
  | k + 1, hr => by
    have ih := cnt_spec (re := re) (x := x) (k := k) (fun i j h1 h2 => hr i j h1 (by omega))
    unfold cnt
    split
    · rename_i h
      refine ⟨fun i hi => ?_, fun i h1 h2 => by omega⟩
      by_cases e : i = k
      · subst e; exact h
      · have := hr i k (by omega) (by omega); omega
    · rename_i h
      refine ⟨ih.1, fun i h1 h2 => ?_⟩
      by_cases e : i = k
      · subst e; omega
      · exact ih.2 i h1 (by omega)
/-- The friction behind x, by the point there. -/
def fr (L : Line) (x : Int) (i : Nat) : Int := if L.re i = x then L.cf i else L.cf (i - 1) - (L.cf (i - 1) - L.cf i) * (x - L.re (i - 1)) / (L.re i - L.re (i - 1))
def fric (L : Line) (x : Int) : Int := fr L x (idx L x)
def inside (L : Line) (x : Int) : Prop := L.re 0 ≤ x ∧ x ≤ L.re (L.n - 1)
instance (L : Line) (x : Int) : Decidable (inside L x) := by unfold inside; infer_instance


theorem idx_spec {L : Line} (v : Valid L) (x : Int) : (∀ i, i < idx L x → L.re i < x) ∧ (∀ i, idx L x ≤ i → i < L.n → x ≤ L.re i) := cnt_spec (fun _ _ a b => v.re_lt a b)
theorem idx_in {L : Line} (v : Valid L) {x : Int} (h : inside L x) : idx L x < L.n ∧ x ≤ L.re (idx L x) := by
  obtain ⟨s1, s2⟩ := idx_spec v x
  have hl := cnt_le L.re x L.n
  have := v.lo
  have hlt : idx L x < L.n := by
    rcases Nat.lt_or_ge (L.n - 1) (idx L x) with h1 | h1
    · have := s1 _ h1; have := h.2; omega
    · unfold idx at *; omega
  exact ⟨hlt, s2 _ (Nat.le_refl _) hlt⟩
/-- What is known between two points. -/
structure Mid (L : Line) (x : Int) (k : Nat) : Prop where
  pos : 0 < k
  lo : L.re (k - 1) < x
  hi : x < L.re k
  c0 : 0 ≤ L.cf k
  c1 : L.cf k ≤ L.cf (k - 1)
  c2 : L.cf (k - 1) ≤ 100000
  r0 : 1 ≤ L.re (k - 1)
  r1 : L.re k ≤ 1000000000
  p0 : 0 ≤ (L.cf (k - 1) - L.cf k) * (x - L.re (k - 1))
  p1 : (L.cf (k - 1) - L.cf k) * (x - L.re (k - 1)) ≤ 100000000000000
  q0 : 0 ≤ (L.cf (k - 1) - L.cf k) * (x - L.re (k - 1)) / (L.re k - L.re (k - 1))
  q1 : (L.cf (k - 1) - L.cf k) * (x - L.re (k - 1)) / (L.re k - L.re (k - 1)) ≤ L.cf (k - 1) - L.cf k
theorem mid_of {L : Line} (v : Valid L) {x : Int} {k : Nat} (hk : 0 < k) (hkn : k < L.n) (h1 : L.re (k - 1) < x) (h2 : x < L.re k) : Mid L x k := by
  have a := v.cf_bd hkn
  have b := v.cf_bd (i := k - 1) (by omega)
  have c := v.cf_le (i := k - 1) (j := k) (by omega) hkn
  have d := v.re_bd hkn
  have e := v.re_bd (i := k - 1) (by omega)
  have p0 : 0 ≤ (L.cf (k - 1) - L.cf k) * (x - L.re (k - 1)) := Int.mul_nonneg (by omega) (by omega)
  have p1 : (L.cf (k - 1) - L.cf k) * (x - L.re (k - 1)) ≤ 100000 * 1000000000 := Int.mul_le_mul (by omega) (by omega) (by omega) (by omega)
  refine ⟨hk, h1, h2, a.1, c, b.2, e.1, d.2, p0, by omega, Int.ediv_nonneg p0 (by omega), Int.ediv_le_of_le_mul (by omega) ?_⟩
  exact Int.mul_le_mul_of_nonneg_left (by omega) (by omega)
theorem idx_mid {L : Line} (v : Valid L) {x : Int} (h : inside L x) (hne : L.re (idx L x) ≠ x) : Mid L x (idx L x) := by
  obtain ⟨h1, h2⟩ := idx_in v h
  obtain ⟨s1, s2⟩ := idx_spec v x
  have hk : 0 < idx L x := by
    rcases Nat.eq_zero_or_pos (idx L x) with h0 | h0
    · rw [h0] at h2 hne; have := h.1; omega
    · exact h0
  exact mid_of v hk h1 (s1 _ (by omega)) (by omega)
theorem fric_bd {L : Line} (v : Valid L) {x : Int} (h : inside L x) : 0 ≤ fric L x ∧ fric L x ≤ 100000 := by
  unfold fric fr
  obtain ⟨h1, h2⟩ := idx_in v h
  have := v.cf_bd h1
  split
  · omega
  · rename_i hne
    have m := idx_mid v h hne
    have := m.q0; have := m.q1; have := m.c2; have := m.c0; have := m.c1
    omega

end AE.Drag
