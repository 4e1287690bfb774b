/- The seat's tie, the rest of its closed facts, and the tie of a row. -/
import Derived.Test.YtbgiemgoafjohaaGreatDoorT12TieA
set_option linter.unusedVariables false
set_option linter.unusedSimpArgs false
set_option linter.unusedSectionVars false
namespace AE.Tryz
open Go Go.Proofs Go.Proofs.YtbgiemgoafjohaaGreatDoor
set_option maxRecDepth 100000
theorem sW:varsNamedLaterB Tryz.prog (varsId Tryz.prog) Pk=true:=by kernel_rfl
theorem sV:∀os tape,doorLeaves Tryz.prog 34 8 65 Pk os tape=some (Pk.filter fun x=>x.2.handleName?.isNone,(funcsListed Pk).map (·.2.funcsOut)):=fun _ _=>by kernel_rfl
end AE.Tryz
