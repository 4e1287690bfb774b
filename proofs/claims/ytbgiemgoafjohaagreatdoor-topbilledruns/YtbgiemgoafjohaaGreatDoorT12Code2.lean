/- Made by gen3.py: the code of the functions, compiled for the evaluator; each is that of the program, by evaluation. -/
import Derived.Test.YtbgiemgoafjohaaGreatDoorProg
import Derived.Test.YtbgiemgoafjohaaGreatDoorAEtwo
import Derived.Test.YtbgiemgoafjohaaGreatDoorT12Code
set_option linter.unusedVariables false
set_option linter.unusedSimpArgs false
set_option linter.unusedSectionVars false
namespace AE.Tryz
open Go AE Go.Proofs
noncomputable def mQ:Aj:=(.seq (.reg (
    ⟨(some 1),none,(.op (.box (.t 0) 422))⟩::
    ⟨(some 2),none,(.op (.mv (.c (Value.int .i64 0))))⟩::[])) (.seq (.reg (
    ⟨(some 3),none,(.op (.Ab 0 (.t 1)))⟩::
    ⟨(some 4),none,(.op (.Ad (.t 3)))⟩::
    ⟨(some 2),none,(.op (.mv (.t 4)))⟩::[])) .ret))
def oP:List ResultVar:=[.tmp 2]
set_option maxRecDepth 1000000 in
set_option maxHeartbeats 4000000 in
theorem gU:Eu Tryz.prog 625 5 1 mQ oP:=
  ⟨rfl,Tryz.f625,_,rfl,rfl,rfl,by decide,rfl,rfl,rfl⟩
noncomputable def mP:Aj:=(.seq (.reg (
    ⟨(some 1),none,(.op (.box (.t 0) 424))⟩::
    ⟨(some 2),none,(.op (.mv (.c (Value.int .i64 0))))⟩::[])) (.seq (.reg (
    ⟨(some 2),none,(.op (.mv (.c (Value.int .i64 10))))⟩::[])) .ret))
def oO:List ResultVar:=[.tmp 2]
set_option maxRecDepth 1000000 in
set_option maxHeartbeats 4000000 in
theorem gT:Eu Tryz.prog 626 3 1 mP oO:=
  ⟨rfl,Tryz.f626,_,rfl,rfl,rfl,by decide,rfl,rfl,rfl⟩
end AE.Tryz
