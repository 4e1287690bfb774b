import Derived.Test.YtbgiemgoafjohaaGreatDoorJoin59
set_option linter.unusedVariables false
set_option linter.unusedSimpArgs false
set_option linter.unusedSectionVars false
namespace AE.Tryz
open Go AE Go.Proofs
set_option maxRecDepth 1000000
theorem qc:AE.KerD.CG Tryz.prog (AE.KerP.tab Tryz.prog YN nV) (AE.KerP.Ry Tryz.prog YN) YN L9 1000000 1000000 39=true:=by kernel_rfl
end AE.Tryz
