/- Made by gen3.py: the code of the functions, compiled for the evaluator; each is that of the program, by evaluation. -/
import Derived.Test.YtbgiemgoafjohaaGreatDoorProg
import Derived.Test.YtbgiemgoafjohaaGreatDoorAEtwo
import Derived.Test.YtbgiemgoafjohaaGreatDoorT12Code
set_option linter.unusedVariables false
set_option linter.unusedSimpArgs false
set_option linter.unusedSectionVars false
namespace AE.Tryz
open Go AE Go.Proofs
noncomputable def mS:Aj:=(.seq (.reg (
    ⟨(some 2),none,(.op (.mv (.c (Value.map none))))⟩::[])) (.seq (.seq (.reg (
    ⟨(some 3),none,(.op (.mv (.t 0)))⟩::
    ⟨(some 4),none,(.op (.cmp none false (.t 3) (.c (Value.map none)) (Iz Tryz.f349 1 1)))⟩::[])) (.cond (.t 4) (.seq (.reg (
    ⟨(some 2),none,(.op (.mv (.c (Value.map none))))⟩::[])) .ret) .skip)) (.seq (.reg (
    ⟨(some 5),none,(.op (.mv (.t 0)))⟩::
    ⟨(some 6),none,(.op (.Jw 315 (.t 5)))⟩::
    ⟨(some 7),none,(.call (.c (Value.func (.func 461) #[] #[])) [(.t 6)])⟩::
    ⟨(some 8),none,(.op (.Yi 315 (Value.map none) false (.t 7)))⟩::
    ⟨(some 2),none,(.op (.mv (.t 8)))⟩::[])) .ret)))
def oS:List ResultVar:=[.tmp 2]
set_option maxRecDepth 1000000 in
set_option maxHeartbeats 4000000 in
theorem gW:Eu Tryz.prog 349 9 1 mS oS:=
  ⟨rfl,Tryz.f349,_,rfl,rfl,rfl,by decide,rfl,rfl,rfl⟩
end AE.Tryz
