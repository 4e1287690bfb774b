/- Walks of the laws of charts: which offer is the best. -/
import Derived.Test.YtbfhhncmmllblaaChartZg
set_option linter.unusedVariables false
set_option linter.unusedSimpArgs false
set_option linter.unusedSectionVars false
namespace AE.Try
open Go AE Go.Proofs
set_option maxRecDepth 100000
set_option linter.unusedVariables false

/-- Pairs of numbers, below 2^16. -/
structure Tws where
  n : Nat
  x : Nat → Int
  y : Nat → Int
  b : Option Addr
  a : Addr
  c : Nat
structure Tws.Ok (S : Tws) (m : Nat) (h : H) : Prop where
  e : 0 < S.n → S.b = some S.a
  i : Els h S.a S.n 2 (fun i => [.int .u16 (S.x i), .int .u16 (S.y i)])
  r : 0 < S.n → S.a.block < m
  l : S.n ≤ 9223372036854775807
  p : ∀ i, i < S.n → (0 ≤ S.x i ∧ S.x i < 65536) ∧ 0 ≤ S.y i ∧ S.y i < 65536
theorem Tws.Ok.same {S : Tws} {m m' : Nat} {h h' : H} (k : S.Ok m h) (s : Same m h h') (hm : m ≤ m') : S.Ok m' h' :=
  ⟨k.e, k.i.same s k.r, fun h => by have := k.r h; omega, k.l, k.p⟩

end AE.Try
