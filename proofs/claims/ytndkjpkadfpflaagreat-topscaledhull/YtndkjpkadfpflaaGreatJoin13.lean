/- Walks and plain laws: TopF1, TopSb. -/
import Derived.Test.YtndkjpkadfpflaaGreatTopSc
import Derived.Test.YtndkjpkadfpflaaGreatTopSp
import Derived.Test.YtndkjpkadfpflaaGreatJoin14
set_option linter.unusedVariables false
set_option linter.unusedSimpArgs false
set_option linter.unusedSectionVars false

/- Walks of fair: spots, and a drawer. -/
namespace AE.Tryz
open Go AE Go.Proofs AE.Fair
set_option maxRecDepth 100000
set_option linter.unusedVariables false

/-- Bounds. -/
structure Rg where
  lo : Int
  hi : Int
def Rg.cells (x : Rg) : List Value := [.int .i64 x.lo, .int .i64 x.hi]
/-- Bounds, as they come. -/
structure Rgs where
  n : Nat
  f : Nat → Rg
  b : Option Addr
  a : Addr
  c : Nat
structure Rgs.Ok (T : Rgs) (m : Nat) (h : H) : Prop where
  e : 0 < T.n → T.b = some T.a
  i : Els h T.a T.n 2 (fun i => (T.f i).cells)
  r : 0 < T.n → T.a.block < m
  l : T.n ≤ 9223372036854775807
theorem Rgs.Ok.same {T : Rgs} {m m' : Nat} {h h' : H} (k : T.Ok m h) (s : Same m h h') (hm : m ≤ m') : T.Ok m' h' :=
  ⟨k.e, k.i.same s k.r, fun h => by have := k.r h; omega, k.l⟩

/-- One number, or two, written down. -/
def one (x : Int) : Nat → Int := fun _ => x
def two (x y : Int) : Nat → Int := fun i => if i = 0 then x else y
/-- A spot is not as it has to be. -/
def BadR (x : Rg) : Prop := ¬ ((-1000000 ≤ x.lo ∧ x.lo ≤ 1000000) ∧ -1000000 ≤ x.hi ∧ x.hi ≤ 1000000) ∨ ¬ (0 ≤ x.hi - x.lo ∧ x.hi - x.lo ≤ 4)
instance (x : Rg) : Decidable (BadR x) := by unfold BadR; infer_instance
/-- Spots that are to be drawn through, as they come. -/
structure Spots where
  r : Rgs
  t : Int
def Spots.cells (S : Spots) : List Value := [.slice S.r.b S.r.n S.r.c, .int .i64 S.t]
end AE.Tryz

/- A friction line whose points are as far from each other, and which falls by whole numbers between two points. -/
namespace AE.Fair
open Go AE AE.Drag

def sumF (F : Nat → Int) : Nat → Int
  | 0 => 0
  | n + 1 => sumF F n + F n
theorem sumF_bd {F : Nat → Int} {B : Int} : ∀ {n : Nat}, (∀ i, i < n → 0 ≤ F i ∧ F i ≤ B) → 0 ≤ sumF F n ∧ sumF F n ≤ B * n
  | 0, _ => by simp [sumF]
  | n + 1, h => by
    have ih := sumF_bd (F := F) (B := B) (n := n) fun i hi => h i (by omega)
    have := h n (by omega)
    simp only [sumF]
    have e : B * ((n + 1 : Nat) : Int) = B * n + B := by push_cast; rw [Int.mul_add, Int.mul_one]
    rw [e]
    omega
theorem sumF_mono {F : Nat → Int} {n : Nat} (h : ∀ i, i < n → 0 ≤ F i) : ∀ {i : Nat}, i ≤ n → sumF F i ≤ sumF F n := by
  induction n with
  | zero => intro i hi; have : i = 0 := by omega
            subst this; exact Int.le_refl _
  | succ n ih =>
    intro i hi
    by_cases e : i = n + 1
    · subst e; exact Int.le_refl _
    · have := ih (fun i hi => h i (by omega)) (i := i) (by omega)
      have := h n (by omega)
      simp only [sumF]
      omega
/-- The friction at point i. -/
def cfS (F : Nat → Int) (m n : Nat) (i : Nat) : Int := m * sumF F n - m * sumF F i
def reS (r m : Nat) (i : Nat) : Int := r + m * i
theorem cfS_succ (F : Nat → Int) (m n i : Nat) : cfS F m n (i + 1) = cfS F m n i - m * F i := by
  simp only [cfS, sumF, Int.mul_add]; omega
/-- The line is such a one. -/
structure Steps (L : Line) (F : Nat → Int) (r m n : Nat) : Prop where
  n1 : 1 ≤ n
  n2 : n ≤ 11
  m1 : 1 ≤ m
  m2 : m ≤ 20
  r1 : 1 ≤ r
  r2 : r ≤ 65536
  f : ∀ i, i < n → 0 ≤ F i ∧ F i ≤ 255
  ln : L.n = n + 1
  lm : L.m = n + 1
  re : ∀ i, i ≤ n → L.re i = reS r m i
  cf : ∀ i, i ≤ n → L.cf i = cfS F m n i
theorem Steps.cf_bd {L : Line} {F : Nat → Int} {r m n : Nat} (s : Steps L F r m n) {i : Nat} (hi : i ≤ n) : 0 ≤ cfS F m n i ∧ cfS F m n i ≤ 56100 := by
  have a := sumF_bd s.f
  have b := sumF_mono (fun i hi => (s.f i hi).1) hi
  have c := (sumF_bd (F := F) (B := 255) (n := i) fun k hk => s.f k (by omega)).1
  have e : cfS F m n i = m * (sumF F n - sumF F i) := by simp only [cfS, Int.mul_sub]
  have h1 := s.m1; have h2 := s.m2; have h3 := s.n2
  have hn : (n : Int) ≤ 11 := by omega
  have hs : sumF F n ≤ 2805 := by omega
  rw [e]
  refine ⟨Int.mul_nonneg (by omega) (by omega), ?_⟩
  have := Int.mul_le_mul (a := (m : Int)) (b := sumF F n - sumF F i) (c := 20) (d := 2805) (by omega) (by omega) (by omega) (by omega)
  omega
theorem Steps.valid {L : Line} {F : Nat → Int} {r m n : Nat} (s : Steps L F r m n) : Valid L := by
  have h1 := s.n1; have h2 := s.n2; have h3 := s.ln; have h4 := s.lm; have h5 := s.m1; have h6 := s.m2; have h7 := s.r1; have h8 := s.r2
  refine ⟨by omega, by omega, by omega, fun i hi => ?_⟩
  have bd : ∀ i, i ≤ n → 1 ≤ reS r m i ∧ reS r m i ≤ 1000000000 := fun i hi => by
    unfold reS
    have a : 0 ≤ (m : Int) * i := Int.mul_nonneg (by omega) (by omega)
    have b : (m : Int) * i ≤ 20 * 11 := Int.mul_le_mul (by omega) (by omega) (by omega) (by omega)
    omega
  have c := s.cf_bd (i := i) (by omega)
  unfold pointOk
  rw [s.re i (by omega), s.cf i (by omega)]
  refine ⟨(bd i (by omega)).1, (bd i (by omega)).2, c.1, by omega, fun h0 => ?_⟩
  obtain ⟨k, rfl⟩ : ∃ k, i = k + 1 := ⟨i - 1, by omega⟩
  rw [Nat.add_sub_cancel, s.re k (by omega), s.cf k (by omega), cfS_succ]
  have f := s.f k (by omega)
  have : 0 ≤ (m : Int) * F k := Int.mul_nonneg (by omega) (by omega)
  refine ⟨?_, by omega⟩
  unfold reS
  push_cast
  rw [Int.mul_add, Int.mul_one]
  omega
theorem Steps.inside {L : Line} {F : Nat → Int} {r m n : Nat} (s : Steps L F r m n) {k : Nat} (hk : k ≤ n * m) : inside L (r + k) := by
  have h1 := s.n1; have h5 := s.m1; have h3 := s.ln
  refine ⟨?_, ?_⟩
  · rw [s.re 0 (by omega)]; unfold reS; simp; omega
  · rw [h3, Nat.add_sub_cancel, s.re n (Nat.le_refl _)]; unfold reS
    have : ((k : Nat) : Int) ≤ ((n * m : Nat) : Int) := by omega
    push_cast at this
    rw [Int.mul_comm (m : Int)]
    omega
end AE.Fair
