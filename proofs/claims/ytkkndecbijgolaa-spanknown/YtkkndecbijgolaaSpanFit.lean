/- What comes in, for the statements about spans: the shapes of the arguments' types, and the values that they hold. -/
import Derived.Test.YtkkndecbijgolaaRows
import Derived.Test.YtkkndecbijgolaaAEArg2
import Derived.Test.YtkkndecbijgolaaSpanU
import Derived.Test.YtkkndecbijgolaaAESl3
import Derived.KernelRfl
set_option linter.unusedVariables false
set_option linter.unusedSimpArgs false
set_option linter.unusedSectionVars false
namespace AE.SpanIn
open Go Go.Proofs Go.Proofs.Ytkkndecbijgolaa AE AE.Try AE.Sp
set_option maxRecDepth 100000

/-- Runs as they come in. -/
structure _root_.AE.Try.Runs.In (L : Runs) (m : Nat) (h : H) : Prop where
  ok : L.Ok m h
  sl : SlC L.b L.a L.n L.c m h
/-- A proof as it comes in. -/
structure PIn where
  P : PSs
  t : Int
def PIn.cells (x : PIn) : List Value := [.slice x.P.b x.P.n x.P.c, .int .i64 x.t]
/-- Two numbers. -/
structure Two where
  a : Int
  b : Int
def Two.cells (k : IntKind) (x : Two) : List Value := [.int k x.a, .int k x.b]
end AE.SpanIn
