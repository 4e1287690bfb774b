/- The seat's tie, its closed facts one by one: in one theorem they pass the memory that a Lean process may take. -/
import Derived.Test.YtbgiemgoafjohaaGreatDoorRows
import Derived.LaidByTextLater
import Derived.SevenTiedAt
import Derived.LaidSub
import Derived.LaidOnce
set_option linter.unusedVariables false
set_option linter.unusedSimpArgs false
set_option linter.unusedSectionVars false
namespace AE.Tryz
open Go Go.Proofs Go.Proofs.YtbgiemgoafjohaaGreatDoor
set_option maxRecDepth 100000
def Pk:List (String × DataW Unit):=[("internal/strconv.uint64pow10",Rows.laid_internal_strconv_uint64pow10),("math/bits.deBruijn32tab",Rows.laid_math_bits_deBruijn32tab),("math/bits.deBruijn64tab",Rows.laid_math_bits_deBruijn64tab),("unicode/utf8.acceptRanges",Rows.laid_unicode_utf8_acceptRanges)]
theorem tf:Tryz.prog.worded (varsWordLater true)=true:=by kernel_rfl
theorem tc:Tryz.prog.worded (varsWordLater !true)=false:=by kernel_rfl
theorem s9:Tryz.prog.worded rootWordLater=true:=by kernel_rfl
theorem s8:Pk.map (fun x=>Tryz.prog.kindOfLater x.1)=([.data,.data,.data,.data]:List LaidKind).map some:=by kernel_rfl
theorem s7:(Tryz.prog.funcNamed "gosem.cut.vars").isSome=true:=by kernel_rfl
end AE.Tryz
