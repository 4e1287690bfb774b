/- Made by mkl.py. -/
import Derived.Test.YtbgiemgoafjohaaGreatDoorT12Code
import Derived.Test.YtbgiemgoafjohaaGreatDoorJoin88
set_option linter.unusedVariables false
set_option linter.unusedSimpArgs false
set_option linter.unusedSectionVars false
namespace AE.Tryz
open Go AE Go.Proofs
noncomputable def mN:Aj:=(.seq (.seq (.reg (
 ⟨(some 11),none,(.op (.mv (.t 1)))⟩::
 ⟨(some 12),none,(.op (.len (.t 11)))⟩::
 ⟨(some 13),none,(.op (.mv (.t 0)))⟩::
 ⟨(some 14),none,(.op (.AY (.t 13)))⟩::
 ⟨(some 15),none,(.op (.Ab 1 (.t 14)))⟩::
 ⟨(some 16),none,(.op (.Ad (.t 15)))⟩::
 ⟨(some 17),none,(.op (.len (.t 16)))⟩::
 ⟨(some 18),none,(.op (.int .gtr (.t 12) (.t 17)))⟩::
 ⟨(some 19),none,(.op (.mv (.t 18)))⟩::
 ⟨(some 20),(some (19,false)),(.op (.mv (.t 1)))⟩::
 ⟨(some 21),(some (19,false)),(.op (.len (.t 20)))⟩::
 ⟨(some 22),(some (19,false)),(.op (.mv (.t 0)))⟩::
 ⟨(some 23),(some (19,false)),(.op (.AY (.t 22)))⟩::
 ⟨(some 24),(some (19,false)),(.op (.Ab 1 (.t 23)))⟩::
 ⟨(some 25),(some (19,false)),(.op (.Ad (.t 24)))⟩::
 ⟨(some 26),(some (19,false)),(.op (.len (.t 25)))⟩::
 ⟨(some 27),(some (19,false)),(.op (.int .eql (.t 21) (.t 26)))⟩::
 ⟨(some 28),(some (19,false)),(.op (.mv (.t 27)))⟩::
 ⟨(some 29),(some (28,true)),(.op (.mv (.t 2)))⟩::
 ⟨(some 30),(some (28,true)),(.op (.mv (.t 0)))⟩::
 ⟨(some 31),(some (28,true)),(.op (.AY (.t 30)))⟩::
 ⟨(some 32),(some (28,true)),(.op (.Ab 2 (.t 31)))⟩::
 ⟨(some 33),(some (28,true)),(.op (.Ad (.t 32)))⟩::
 ⟨(some 34),(some (28,true)),(.op (.int .lss (.t 29) (.t 33)))⟩::
 ⟨(some 35),(some (19,false)),(.op (.pick (.t 28) (.t 34) (.c (Value.bool false))))⟩::
 ⟨(some 36),none,(.op (.pick (.t 19) (.c (Value.bool true)) (.t 35)))⟩::[])) (.cond (.t 36) (.seq (.reg (
 ⟨(some 37),none,(.op (.mv (.t 0)))⟩::
 ⟨(some 38),none,(.op (.mv (.t 1)))⟩::
 ⟨(some 39),none,(.op (.len (.t 38)))⟩::
 ⟨(some 40),none,(.op (.FJ [Value.int .i64 0] 8 3 (.t 39) (.t 39)))⟩::
 ⟨(some 41),none,(.op (.AY (.t 37)))⟩::
 ⟨(some 42),none,(.op (.Ab 1 (.t 41)))⟩::
 ⟨none,none,(.op (.store 1 (.t 42) (.t 40)))⟩::[])) (.seq (.reg (
 ⟨(some 43),none,(.op (.mv (.t 0)))⟩::
 ⟨(some 44),none,(.op (.AY (.t 43)))⟩::
 ⟨(some 45),none,(.op (.Ab 1 (.t 44)))⟩::
 ⟨(some 46),none,(.op (.Ad (.t 45)))⟩::
 ⟨(some 47),none,(.op (.mv (.t 1)))⟩::
 ⟨(some 48),none,(.op (.copy 1 (.t 46) (.t 47)))⟩::[])) (.reg (
 ⟨(some 49),none,(.op (.mv (.t 0)))⟩::
 ⟨(some 50),none,(.op (.mv (.t 2)))⟩::
 ⟨(some 51),none,(.op (.AY (.t 49)))⟩::
 ⟨(some 52),none,(.op (.Ab 2 (.t 51)))⟩::
 ⟨none,none,(.op (.store 1 (.t 52) (.t 50)))⟩::[])))) .skip)) (.seq (.reg (
 ⟨(some 6),none,(.op (.mv (.c (Value.int .i64 (-1)))))⟩::[])) (.seq (.seq (.reg (
 ⟨(some 53),none,(.op (.mv (.t 1)))⟩::
 ⟨(some 54),none,(.op (.len (.t 53)))⟩::
 ⟨(some 55),none,(.op (.int .gtr (.t 54) (.c (Value.int .i64 0))))⟩::[])) (.cond (.t 55) (.reg (
 ⟨(some 56),none,(.op (.mv (.t 1)))⟩::
 ⟨(some 57),none,(.op (.mv (.t 1)))⟩::
 ⟨(some 58),none,(.op (.len (.t 57)))⟩::
 ⟨(some 59),none,(.op (.int .sub (.t 58) (.c (Value.int .i64 1))))⟩::
 ⟨(some 60),none,(.op (.D4 1 (.t 56) (.t 59)))⟩::
 ⟨(some 61),none,(.op (.Ad (.t 60)))⟩::
 ⟨(some 6),none,(.op (.mv (.t 61)))⟩::[])) .skip)) (.seq (.reg (
 ⟨(some 62),none,(.op (.mv (.t 0)))⟩::
 ⟨(some 63),none,(.op (.AY (.t 62)))⟩::
 ⟨(some 64),none,(.op (.Ab 0 (.t 63)))⟩::
 ⟨(some 65),none,(.op (.Ad (.t 64)))⟩::
 ⟨(some 66),none,(.op (.AY (.t 65)))⟩::
 ⟨(some 67),none,(.op (.Ab 0 (.t 66)))⟩::
 ⟨(some 68),none,(.op (.Ab 2 (.t 67)))⟩::
 ⟨(some 69),none,(.op (.Ad (.t 68)))⟩::
 ⟨(some 70),none,(.op (.len (.t 69)))⟩::
 ⟨(some 71),none,(.op (.mv (.c (Value.int .i64 0))))⟩::[])) (.block 0 (.loop (.seq (.reg (
 ⟨(some 72),none,(.op (.int .lss (.t 71) (.t 70)))⟩::[])) (.seq (.cond (.t 72) .skip (.exit 0)) (.seq (.block 1 (.seq (.reg (
 ⟨(some 73),none,(.op (.mv (.t 71)))⟩::
 ⟨(some 74),none,(.op (.D4 6 (.t 69) (.t 71)))⟩::
 ⟨(some 75),none,(.op (.Bb 6 (.t 74)))⟩::
 ⟨(some 8),none,(.op (.alloc [Value.int .i64 0,Value.int .i64 0,Value.int .i64 0,Value.int .i64 0,Value.int .i64 0,Value.int .i64 0] 40))⟩::
 ⟨(some 7),none,(.op (.mv (.t 73)))⟩::
 ⟨none,none,(.op (.store 6 (.t 8) (.t 75)))⟩::[])) (.seq (.seq (.reg (
 ⟨(some 76),none,(.op (.mv (.t 1)))⟩::
 ⟨(some 77),none,(.op (.mv (.t 7)))⟩::
 ⟨(some 78),none,(.call (.c (Value.func (.func 102) #[] #[])) [(.t 76),(.t 77)])⟩::[])) (.cond (.t 78) (.exit 1) .skip)) (.seq (.reg (
 ⟨(some 80),none,(.op (.mv (.t 0)))⟩::
 ⟨(some 81),none,(.op (.AY (.t 80)))⟩::
 ⟨(some 82),none,(.op (.Ab 0 (.t 81)))⟩::
 ⟨(some 83),none,(.op (.Ad (.t 82)))⟩::
 ⟨(some 84),none,(.op (.mv (.t 6)))⟩::
 ⟨(some 85),none,(.op (.mv (.t 2)))⟩::
 ⟨(some 86),none,(.op (.mv (.t 7)))⟩::
 ⟨(some 87),none,(.call (.c (Value.func (.func 103) #[] #[])) [(.t 83),(.t 84),(.t 85),(.t 86)])⟩::
 ⟨(some 79),none,(.op (.mv (.t 87)))⟩::
 ⟨(some 88),none,(.op (.extract (.t 79) 0))⟩::
 ⟨(some 89),none,(.op (.extract (.t 79) 1))⟩::
 ⟨(some 9),none,(.op (.mv (.t 88)))⟩::
 ⟨(some 10),none,(.op (.mv (.t 89)))⟩::[])) (.seq (.reg (
 ⟨(some 90),none,(.op (.mv (.t 10)))⟩::
 ⟨(some 91),none,(.op (.int .eql (.t 90) (.c (Value.int .i64 0))))⟩::[])) (.cond (.t 91) (.seq (.Ck (
 ⟨(some 92),none,(.op (.mv (.t 0)))⟩::
 ⟨(some 93),none,(.op (.mv (.t 1)))⟩::
 ⟨(some 94),none,(.call (.c (Value.func (.func 104) #[] #[])) [(.t 93)])⟩::
 ⟨(some 95),none,(.op (.mv (.t 7)))⟩::
 ⟨(some 96),none,(.op (.CI [Value.int .i64 0] [(0,1,(.t 95))] 1 3))⟩::
 ⟨(some 97),none,(.op (.append 3 1 8 (.t 94) (.t 96)))⟩::
 ⟨(some 98),none,(.op (.mv (.t 9)))⟩::
 ⟨(some 99),none,(.op (.Ab 0 (.t 8)))⟩::
 ⟨(some 100),none,(.op (.Ad (.t 99)))⟩::
 ⟨(some 101),none,(.op (.int .add (.t 98) (.t 100)))⟩::[]) [((.t 94),(.t 99))]) (.reg (
 ⟨(some 102),none,(.call (.c (Value.func (.func 41) #[] #[])) [(.t 92),(.t 97),(.t 101)])⟩::[]))) .skip)))))) (.reg (
 ⟨(some 103),none,(.op (.int .add (.t 71) (.c (Value.int .i64 1))))⟩::
 ⟨(some 71),none,(.op (.mv (.t 103)))⟩::[])))))))))))
def oL:List ResultVar:=[]
set_option maxRecDepth 1000000 in
set_option maxHeartbeats 4000000 in
theorem gR:jB Tryz.prog [41] 41 104 3 mN oL:=
 ⟨rfl,Tryz.f41,_,rfl,rfl,rfl,by decide,rfl,rfl,rfl⟩
end AE.Tryz
