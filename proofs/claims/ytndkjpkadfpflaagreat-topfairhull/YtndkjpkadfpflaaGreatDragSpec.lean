/- What drag computes, in plain words: friction lines. -/
import Derived.Test.YtndkjpkadfpflaaGreatAEthree
set_option linter.unusedVariables false
set_option linter.unusedSimpArgs false
set_option linter.unusedSectionVars false
namespace AE.Drag
open Go AE

/-- A friction line as a value: the numbers, and where they lie. -/
structure Line where
  n : Nat
  re : Nat → Int
  m : Nat
  cf : Nat → Int
  b1 : Option Addr
  a1 : Addr
  c1 : Nat
  b2 : Option Addr
  a2 : Addr
  c2 : Nat
def Line.cells (L : Line) : List Value := [.slice L.b1 L.n L.c1, .slice L.b2 L.m L.c2]
structure Line.Ok (L : Line) (m : Nat) (h : H) : Prop where
  e1 : 0 < L.n → L.b1 = some L.a1
  i1 : Ints h L.a1 L.n L.re
  r1 : 0 < L.n → L.a1.block < m
  e2 : 0 < L.m → L.b2 = some L.a2
  i2 : Ints h L.a2 L.m L.cf
  r2 : 0 < L.m → L.a2.block < m
  l1 : L.n ≤ 9223372036854775807
  l2 : L.m ≤ 9223372036854775807
theorem Line.Ok.same {L : Line} {m m' : Nat} {h h' : H} (k : L.Ok m h) (s : Same m h h') (hm : m ≤ m') : L.Ok m' h' :=
  ⟨k.e1, k.i1.same s k.r1, fun h => by have := k.r1 h; omega, k.e2, k.i2.same s k.r2, fun h => by have := k.r2 h; omega, k.l1, k.l2⟩

/-- Point i is as it has to be. -/
def pointOk (L : Line) (i : Nat) : Prop := 1 ≤ L.re i ∧ L.re i ≤ 1000000000 ∧ 0 ≤ L.cf i ∧ L.cf i ≤ 100000 ∧ (0 < i → L.re (i - 1) < L.re i ∧ L.cf i ≤ L.cf (i - 1))
structure Valid (L : Line) : Prop where
  lo : 2 ≤ L.n
  hi : L.n ≤ 12
  eq : L.m = L.n
  pt : ∀ i, i < L.n → pointOk L i

theorem Valid.cf_bd {L : Line} (v : Valid L) {i : Nat} (hi : i < L.n) : 0 ≤ L.cf i ∧ L.cf i ≤ 100000 := ⟨(v.pt i hi).2.2.1, (v.pt i hi).2.2.2.1⟩

/-- The friction behind x, by the point there. -/
def fr (L : Line) (x : Int) (i : Nat) : Int := if L.re i = x then L.cf i else L.cf (i - 1) - (L.cf (i - 1) - L.cf i) * (x - L.re (i - 1)) / (L.re i - L.re (i - 1))
def inside (L : Line) (x : Int) : Prop := L.re 0 ≤ x ∧ x ≤ L.re (L.n - 1)
instance (L : Line) (x : Int) : Decidable (inside L x) := by unfold inside; infer_instance


end AE.Drag
