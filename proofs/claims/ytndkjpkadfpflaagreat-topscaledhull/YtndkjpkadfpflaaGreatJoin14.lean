/- Walks and plain laws: DragSpec, TopSa. -/
import Derived.Test.YtndkjpkadfpflaaGreatAEthree
set_option linter.unusedVariables false
set_option linter.unusedSimpArgs false
set_option linter.unusedSectionVars false

/- What drag computes, in plain words: friction lines. -/
namespace AE.Drag
open Go AE

/-- A friction line as a value: the numbers, and where they lie. -/
structure Line where
  n : Nat
  re : Nat → Int
  m : Nat
  cf : Nat → Int
  b1 : Option Addr
  a1 : Addr
  c1 : Nat
  b2 : Option Addr
  a2 : Addr
  c2 : Nat
def Line.cells (L : Line) : List Value := [.slice L.b1 L.n L.c1, .slice L.b2 L.m L.c2]
structure Line.Ok (L : Line) (m : Nat) (h : H) : Prop where
  e1 : 0 < L.n → L.b1 = some L.a1
  i1 : Ints h L.a1 L.n L.re
  r1 : 0 < L.n → L.a1.block < m
  e2 : 0 < L.m → L.b2 = some L.a2
  i2 : Ints h L.a2 L.m L.cf
  r2 : 0 < L.m → L.a2.block < m
  l1 : L.n ≤ 9223372036854775807
  l2 : L.m ≤ 9223372036854775807
theorem Line.Ok.same {L : Line} {m m' : Nat} {h h' : H} (k : L.Ok m h) (s : Same m h h') (hm : m ≤ m') : L.Ok m' h' :=
  ⟨k.e1, k.i1.same s k.r1, fun h => by have := k.r1 h; omega, k.e2, k.i2.same s k.r2, fun h => by have := k.r2 h; omega, k.l1, k.l2⟩

/-- Point i is as it has to be. -/
def pointOk (L : Line) (i : Nat) : Prop := 1 ≤ L.re i ∧ L.re i ≤ 1000000000 ∧ 0 ≤ L.cf i ∧ L.cf i ≤ 100000 ∧ (0 < i → L.re (i - 1) < L.re i ∧ L.cf i ≤ L.cf (i - 1))
structure Valid (L : Line) : Prop where
  lo : 2 ≤ L.n
  hi : L.n ≤ 12
  eq : L.m = L.n
  pt : ∀ i, i < L.n → pointOk L i

theorem Valid.cf_bd {L : Line} (v : Valid L) {i : Nat} (hi : i < L.n) : 0 ≤ L.cf i ∧ L.cf i ≤ 100000 := ⟨(v.pt i hi).2.2.1, (v.pt i hi).2.2.2.1⟩

/-- The friction behind x, by the point there. -/
def fr (L : Line) (x : Int) (i : Nat) : Int := if L.re i = x then L.cf i else L.cf (i - 1) - (L.cf (i - 1) - L.cf i) * (x - L.re (i - 1)) / (L.re i - L.re (i - 1))
def inside (L : Line) (x : Int) : Prop := L.re 0 ≤ x ∧ x ≤ L.re (L.n - 1)
instance (L : Line) (x : Int) : Decidable (inside L x) := by unfold inside; infer_instance


end AE.Drag

/- What fair measures, in plain words: changes of sign of second differences, and the sum of their amounts; and a line with numbers set between its points. -/
namespace AE.Fair
open Go AE

/-- The sign of the last second difference that is not 0, the changes, and the bend, so far. -/
structure MS where
  sign : Int
  ch : Int
  bend : Int
def sgn (s d : Int) : Int := if 0 < d then 1 else if d < 0 then 2 else s
def MS.step (s : MS) (d : Int) : MS := ⟨sgn s.sign d, if s.sign ≠ 0 ∧ sgn s.sign d ≠ s.sign then s.ch + 1 else s.ch, s.bend + max d (-d)⟩
def sd (f : Nat → Int) (i : Nat) : Int := f (i - 1) - 2 * f i + f (i + 1)
def ms (f : Nat → Int) : Nat → MS
  | 0 => ⟨0, 0, 0⟩
  | k + 1 => (ms f k).step (sd f (k + 1))
def changes (f : Nat → Int) (n : Nat) : Int := (ms f (n - 2)).ch
def bend (f : Nat → Int) (n : Nat) : Int := (ms f (n - 2)).bend
/-- The same, but that one bend is so many times the other. -/
def Alike (m : Int) (a b : MS) : Prop := a.sign = b.sign ∧ a.ch = b.ch ∧ b.bend = m * a.bend
theorem Alike.zero {m : Int} {a b : MS} (h : Alike m a b) : Alike m (a.step 0) b := by
  obtain ⟨h1, h2, h3⟩ := h
  refine ⟨?_, ?_, ?_⟩ <;> simp [MS.step, sgn, h1, h2, h3]
theorem Alike.both {m d : Int} {a b : MS} (hm : 1 ≤ m) (h : Alike m a b) : Alike m (a.step d) (b.step (m * d)) := by
  obtain ⟨h1, h2, h3⟩ := h
  have p1 : 0 < m * d ↔ 0 < d := ⟨fun h => Int.lt_of_not_ge fun hd => by have := Int.mul_nonneg (a := m) (b := -d) (by omega) (by omega); rw [Int.mul_neg] at this; omega, fun h => Int.mul_pos (by omega) h⟩
  have p2 : m * d < 0 ↔ d < 0 := ⟨fun h => Int.lt_of_not_ge fun hd => by have := Int.mul_nonneg (a := m) (b := d) (by omega) (by omega); omega, fun h => by have := Int.mul_pos (a := m) (b := -d) (by omega) (by omega); rw [Int.mul_neg] at this; omega⟩
  have es : sgn b.sign (m * d) = sgn a.sign d := by simp only [sgn, p1, p2, h1]
  have hb : max (m * d) (-(m * d)) = m * max d (-d) := by
    rcases Int.le_total 0 d with hd | hd
    · have := Int.mul_nonneg (a := m) (b := d) (by omega) hd
      rw [Int.max_eq_left (by omega), Int.max_eq_left (by omega)]
    · have := Int.mul_nonneg (a := m) (b := -d) (by omega) (by omega)
      rw [Int.mul_neg] at this
      rw [Int.max_eq_right (by omega), Int.max_eq_right (by omega), Int.mul_neg]
  refine ⟨?_, ?_, ?_⟩
  · simp only [MS.step, es]
  · simp only [MS.step, es, h1, h2]
  · simp only [MS.step, hb, h3, Int.mul_add]

/-- Between two points of C, which falls by m times F, g falls by F with each number. -/
structure Fine (C g : Nat → Int) (F : Nat → Int) (m n : Nat) : Prop where
  pos : 1 ≤ m
  fall : ∀ i, i < n → C (i + 1) = C i - m * F i
  at_ : ∀ i j, i < n → j ≤ m → g (i * m + j) = C i - j * F i
theorem Fine.sd_in {C g F : Nat → Int} {m n : Nat} (h : Fine C g F m n) {i j : Nat} (hi : i < n) (hj : j + 1 < m) : sd g (i * m + j + 1) = 0 := by
  have e1 := h.at_ i j hi (by omega)
  have e2 := h.at_ i (j + 1) hi (by omega)
  have e3 := h.at_ i (j + 2) hi (by omega)
  simp only [sd, Nat.add_sub_cancel]
  rw [show i * m + j + 1 = i * m + (j + 1) by omega, show i * m + (j + 1) + 1 = i * m + (j + 2) by omega, e1, e2, e3]
  have q1 : ((j + 1 : Nat) : Int) * F i = j * F i + F i := by push_cast; rw [Int.add_mul, Int.one_mul]
  have q2 : ((j + 2 : Nat) : Int) * F i = j * F i + 2 * F i := by push_cast; simp only [Int.add_mul]; omega
  rw [q1, q2]
  omega
theorem Fine.sd_at {C g F : Nat → Int} {m n : Nat} (h : Fine C g F m n) {i : Nat} (hi : i + 1 < n) : sd g ((i + 1) * m) = F i - F (i + 1) ∧ sd C (i + 1) = m * sd g ((i + 1) * m) := by
  have hm := h.pos
  have e1 := h.at_ i (m - 1) (by omega) (by omega)
  have e2 := h.at_ (i + 1) 0 hi (by omega)
  have e3 := h.at_ (i + 1) 1 hi (by omega)
  have f1 := h.fall i (by omega)
  have f2 := h.fall (i + 1) hi
  have q : (i + 1) * m - 1 = i * m + (m - 1) := by rw [Nat.add_mul, Nat.one_mul]; omega
  have hs : sd g ((i + 1) * m) = F i - F (i + 1) := by
    simp only [sd]
    rw [q, e1, e3, show (i + 1) * m = (i + 1) * m + 0 by omega, e2, f1]
    have : ((m - 1 : Nat) : Int) * F i = m * F i - F i := by
      rw [Int.ofNat_sub hm, Int.sub_mul]; simp
    rw [this]
    simp only [Int.ofNat_zero, Int.zero_mul, Int.ofNat_one, Int.one_mul]
    omega
  refine ⟨hs, ?_⟩
  rw [hs, Int.mul_sub]
  simp only [sd, Nat.add_sub_cancel]
  rw [f2, f1]
  omega
theorem Fine.ms_eq {C g F : Nat → Int} {m n : Nat} (h : Fine C g F m n) : ∀ (i j : Nat), i < n → j < m → Alike m (ms g (i * m + j)) (ms C i)
  | 0, 0, _, _ => by simp [Alike, ms]
  | i + 1, 0, hi, hj => by
    have ih := Fine.ms_eq h i (m - 1) (by omega) (by omega)
    have s := h.sd_at hi
    have q : (i + 1) * m + 0 = (i * m + (m - 1)) + 1 := by rw [Nat.add_mul, Nat.one_mul]; omega
    have q' : i * m + (m - 1) + 1 = (i + 1) * m := by omega
    rw [q]
    simp only [ms]
    rw [q', s.2]
    exact ih.both (by have := h.pos; omega)
  | i, j + 1, hi, hj => by
    have ih := Fine.ms_eq h i j hi (by omega)
    rw [show i * m + (j + 1) = i * m + j + 1 by omega]
    simp only [ms]
    rw [h.sd_in hi hj]
    exact ih.zero
/-- The line of all numbers has as many changes, and so many times less bend. -/
theorem Fine.law {C g F : Nat → Int} {m n : Nat} (h : Fine C g F m n) (hn : 1 ≤ n) : changes g (n * m + 1) = changes C (n + 1) ∧ bend C (n + 1) = m * bend g (n * m + 1) := by
  have a := h.ms_eq (n - 1) (m - 1) (by omega) (by have := h.pos; omega)
  have hm := h.pos
  have q : (n - 1) * m + (m - 1) = n * m + 1 - 2 := by
    obtain ⟨k, rfl⟩ := Nat.exists_eq_add_of_le hn
    rw [show 1 + k - 1 = k by omega, Nat.add_mul, Nat.one_mul]; omega
  rw [q] at a
  unfold changes bend
  rw [show n + 1 - 2 = n - 1 by omega]
  exact ⟨a.2.1, a.2.2⟩
end AE.Fair
