/- The tie of a row. -/
import Derived.Test.YtbgiemgoafjohaaGreatDoorT12TieB
set_option linter.unusedVariables false
set_option linter.unusedSimpArgs false
set_option linter.unusedSectionVars false
namespace AE.Tryz
open Go Go.Proofs Go.Proofs.YtbgiemgoafjohaaGreatDoor
set_option maxRecDepth 100000
def Mb:List (String × DataW Unit):=[("internal/strconv.uint64pow10",Rows.laid_internal_strconv_uint64pow10),("math/bits.deBruijn32tab",Rows.laid_math_bits_deBruijn32tab),("math/bits.deBruijn64tab",Rows.laid_math_bits_deBruijn64tab),("unicode/utf8.first",Rows.laid_unicode_utf8_first),("unicode/utf8.acceptRanges",Rows.laid_unicode_utf8_acceptRanges)]
theorem oF:Tryz.prog.laidByTextLater Pk [.data,.data,.data,.data] true:=Program.laidByTextLater_by_one 34 8 65 tf tc s9 s8 s7 sW sV
theorem YJ:Tryz.pinned.checked.prog.pinnedFits "unicode/utf8.first" =true:=by kernel_rfl
theorem kB:Tryz.pinned.checked.prog.headLifts.contains "ownunsafe" =false:=by kernel_rfl
theorem mh:Tryz.pinned.checked.prog.listedFits Mb=true:=by
 unfold Program.listedFits
 rw[kB]
 kernel_rfl
end AE.Tryz
