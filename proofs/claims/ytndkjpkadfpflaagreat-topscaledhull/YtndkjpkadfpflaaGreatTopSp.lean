/- The fairest line within spots, in plain words: what it costs to go on, and that no line costs less. -/
import Derived.Test.YtndkjpkadfpflaaGreatJoin14
set_option linter.unusedVariables false
set_option linter.unusedSimpArgs false
set_option linter.unusedSectionVars false
namespace AE.Fair
open Go AE

/-- The first index with the least number, from 0 to k, and this. -/
def leastN (f : Nat → Int) : Nat → Nat × Int
  | 0 => (0, f 0)
  | k + 1 => if f (k + 1) < (leastN f k).2 then (k + 1, f (k + 1)) else leastN f k
theorem leastN_at (f : Nat → Int) : ∀ k, (leastN f k).1 ≤ k ∧ f (leastN f k).1 = (leastN f k).2
  | 0 => ⟨Nat.le_refl _, rfl⟩
  | k + 1 => by
    have := leastN_at f k
    unfold leastN
    split
    · exact ⟨Nat.le_refl _, rfl⟩
    · exact ⟨by omega, this.2⟩
def turns (s d : Int) : Int := if s ≠ 0 ∧ sgn s d ≠ s then 1 else 0
/-- What a second difference costs. -/
def pay (t s d : Int) : Int := max d (-d) + t * turns s d
/-- What a line costs so far. -/
def mc (t : Int) (m : MS) : Int := m.bend + t * m.ch
theorem mc_step (t : Int) (m : MS) (d : Int) : mc t (m.step d) = mc t m + pay t m.sign d := by
  simp only [mc, MS.step, pay, turns]
  split
  · rw [Int.mul_add]; omega
  · simp only [Int.mul_zero]; omega
theorem ms_congr {f g : Nat → Int} : ∀ {k : Nat}, (∀ j, j ≤ k + 1 → f j = g j) → ms f k = ms g k
  | 0, _ => rfl
  | k + 1, h => by
    have e : sd f (k + 1) = sd g (k + 1) := by
      simp only [sd, Nat.add_sub_cancel]
      rw [h k (by omega), h (k + 1) (by omega), h (k + 1 + 1) (by omega)]
    simp only [ms, e, ms_congr (k := k) fun j hj => h j (by omega)]

section
variable (t : Int) (lo : Nat → Int) (w : Nat → Nat)
/-- The second difference of three offsets. -/
def dif (i a b c : Nat) : Int := lo (i - 1) + a - 2 * (lo i + b) + (lo (i + 1) + c)
/-- What is paid from a state of spot i on, with k spots left. -/
def dp : Nat → Nat → Nat → Nat → Int → Int
  | 0, _, _, _, _ => 0
  | k + 1, i, a, b, s => (leastN (fun c => pay t s (dif lo i a b c) + dp k (i + 1) b c (sgn s (dif lo i a b c))) (w (i + 1) - 1)).2
/-- The offset that goes on best. -/
def pickC (k i a b : Nat) (s : Int) : Nat := (leastN (fun c => pay t s (dif lo i a b c) + dp t lo w k (i + 1) b c (sgn s (dif lo i a b c))) (w (i + 1) - 1)).1
end
variable {t : Int} {lo : Nat → Int} {w : Nat → Nat}
/-- Spots are as they have to be. -/
structure Good (n : Nat) (t : Int) (lo : Nat → Int) (w : Nat → Nat) : Prop where
  n1 : 1 ≤ n
  n2 : n ≤ 24
  t1 : 0 ≤ t
  t2 : t ≤ 1000000
  lo1 : ∀ i, i < n → -1000000 ≤ lo i ∧ lo i + (w i : Int) - 1 ≤ 1000000
  w1 : ∀ i, i < n → 1 ≤ w i ∧ w i ≤ 5
/-- How a line goes on that costs no more than T: up to spot i, with offsets a, b, and sign s. -/
structure Path (n : Nat) (t : Int) (lo : Nat → Int) (w : Nat → Nat) (T : Int) (x : Nat → Int) (i a b : Nat) (s : Int) : Prop where
  i1 : 1 ≤ i
  i2 : i < n
  a1 : a < w (i - 1)
  b1 : b < w i
  xa : x (i - 1) = lo (i - 1) + a
  xb : x i = lo i + b
  inn : ∀ j, j ≤ i → lo j ≤ x j ∧ x j ≤ lo j + (w j : Int) - 1
  sg : (ms x (i - 1)).sign = s
  sum : mc t (ms x (i - 1)) + dp t lo w (n - 1 - i) i a b s = T
theorem inR (l : Int) (A W : Nat) (h : A < W) : l ≤ l + (A : Int) ∧ l + (A : Int) ≤ l + (W : Int) - 1 := by omega
theorem Path.next {n : Nat} {T : Int} {x y : Nat → Int} {i a b : Nat} {s : Int} (g : Good n t lo w) (p : Path n t lo w T x i a b s) (hi : i + 1 < n) (hy : ∀ j, j ≤ i → y j = x j) (hc : y (i + 1) = lo (i + 1) + (pickC t lo w (n - 2 - i) i a b s : Nat)) :
    Path n t lo w T y (i + 1) b (pickC t lo w (n - 2 - i) i a b s) (sgn s (dif lo i a b (pickC t lo w (n - 2 - i) i a b s))) ∧ pickC t lo w (n - 2 - i) i a b s < w (i + 1) := by
  have hw := g.w1 (i + 1) hi
  have i1 := p.i1
  obtain ⟨e1, e2⟩ := leastN_at (fun c => pay t s (dif lo i a b c) + dp t lo w (n - 2 - i) (i + 1) b c (sgn s (dif lo i a b c))) (w (i + 1) - 1)
  have hlt : pickC t lo w (n - 2 - i) i a b s < w (i + 1) := by unfold pickC; omega
  have ex : ms y (i - 1) = ms x (i - 1) := ms_congr fun j hj => hy j (by omega)
  have ed : sd y i = dif lo i a b (pickC t lo w (n - 2 - i) i a b s) := by
    unfold sd dif
    rw [hy _ (by omega), hy _ (Nat.le_refl _), hc, p.xa, p.xb]
  have em : ms y i = (ms y (i - 1)).step (sd y i) := by
    obtain ⟨j, rfl⟩ : ∃ j, i = j + 1 := ⟨i - 1, by omega⟩
    rfl
  have hs := p.sum
  rw [show n - 1 - i = (n - 2 - i) + 1 by omega] at hs
  simp only [dp] at hs
  rw [← e2] at hs
  change mc t (ms x (i - 1)) + (pay t s (dif lo i a b (pickC t lo w (n - 2 - i) i a b s)) + dp t lo w (n - 2 - i) (i + 1) b (pickC t lo w (n - 2 - i) i a b s) (sgn s (dif lo i a b (pickC t lo w (n - 2 - i) i a b s)))) = T at hs
  refine ⟨⟨by omega, hi, by simpa using p.b1, hlt, ?_, hc, fun j hj => ?_, ?_, ?_⟩, hlt⟩
  · rw [Nat.add_sub_cancel, hy _ (Nat.le_refl _)]; exact p.xb
  · by_cases e : j = i + 1
    · subst e; rw [hc]; omega
    · rw [hy j (by omega)]; exact p.inn j (by omega)
  · rw [Nat.add_sub_cancel, em, ex, ed]
    show sgn (ms x (i - 1)).sign _ = _
    rw [p.sg]
  · rw [Nat.add_sub_cancel, em, mc_step, ex, ed, p.sg, show n - 1 - (i + 1) = n - 2 - i by omega]
    omega
end AE.Fair
