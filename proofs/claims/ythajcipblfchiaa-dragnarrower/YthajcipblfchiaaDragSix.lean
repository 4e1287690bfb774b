/- Six numbers. -/
import Derived.Test.YthajcipblfchiaaAEthree
set_option linter.unusedVariables false
set_option linter.unusedSimpArgs false
set_option linter.unusedSectionVars false
namespace AE.Try
open Go AE

/-- Six numbers. -/
structure Six where
  a : Int
  b : Int
  c : Int
  d : Int
  e : Int
  f : Int
def Six.cells (s : Six) : List Value := [.int .u32 s.a, .int .u32 s.b, .int .u32 s.c, .int .u32 s.d, .int .u32 s.e, .int .u32 s.f]
structure Six.Ok (s : Six) : Prop where
  a : 0 ≤ s.a ∧ s.a < 4294967296
  b : 0 ≤ s.b ∧ s.b < 4294967296
  c : 0 ≤ s.c ∧ s.c < 4294967296
  d : 0 ≤ s.d ∧ s.d < 4294967296
  e : 0 ≤ s.e ∧ s.e < 4294967296
  f : 0 ≤ s.f ∧ s.f < 4294967296
end AE.Try
