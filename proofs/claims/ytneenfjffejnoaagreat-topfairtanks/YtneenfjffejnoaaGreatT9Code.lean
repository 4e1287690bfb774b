/- Made by gen3.py: the code of the functions, compiled for the evaluator; each is that of the program, by evaluation. -/
import Derived.Test.YtneenfjffejnoaaGreatT9CodeP1
set_option linter.unusedVariables false
set_option linter.unusedSimpArgs false
set_option linter.unusedSectionVars false
namespace AE.Tryz
open Go AE Go.Proofs
set_option maxRecDepth 1000000
set_option maxHeartbeats 4000000
noncomputable def Ahj:Ay:=(.seq (.reg (
 oo 5 (.Af (.t 1))::
oo 6 (.len (.t 5))::
oo 7 (.mv z0)::[])) (.block 0 (.loop (.seq (.reg (
 oo 8 (.int .lss (.t 7) (.t 6))::[])) (.seq (.cond (.t 8) .skip (.exit 0)) (.seq (.block 1 (.seq (.reg (
 oo 9 (.Bb 4 (.t 5) (.t 7))::
oo 10 (.Az 4 (.t 9))::
oo 4 (.alloc [k0,k0,k0,k0] 327)::
oz (.store 4 (.t 4) (.t 10))::[])) (.seq (.reg (
 om 11 0::
oo 12 (.Az 4 (.t 4))::
⟨(some 13),none,(.call (.t 11) [(.t 12)])⟩::
oo 14 (.not (.t 13))::[])) (.cond (.t 14) .ret .skip)))) (.reg (
 oo 15 (.int .add (.t 7) z1)::
om 7 15::[]))))))))
def Ajt:List ResultVar:=[]
theorem yS:Cf Tryz.prog 361 16 2 Ahj Ajt:=
  ⟨rfl,Tryz.f361,_,rfl,rfl,rfl,by decide,rfl,rfl,rfl⟩
noncomputable def Ahi:Ay:=(.seq (.reg (
 oo 2 (.mv (.c (Value.bool false)))::[])) (.seq (.reg (
 om 3 0::
om 4 0::
oo 5 (.int .neq (.t 3) (.t 4))::
om 2 5::[])) .ret))
def Ajs:List ResultVar:=[.tmp 2]
theorem yR:Cf Tryz.prog 396 6 1 Ahi Ajs:=
  ⟨rfl,Tryz.f396,_,rfl,rfl,rfl,by decide,rfl,rfl,rfl⟩
end AE.Tryz
