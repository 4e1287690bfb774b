/- The code of run.CheckTable in two: what comes ahead of its range over a map, and the rest. -/
import Derived.Test.YtbgiemgoafjohaaGreatDoorJoin87
import Derived.Test.YtbgiemgoafjohaaGreatDoorJoin56
set_option linter.unusedVariables false
set_option linter.unusedSimpArgs false
set_option linter.unusedSectionVars false
namespace AE.Tryz
open Go AE Go.Proofs
set_option maxRecDepth 1000000
noncomputable def kz:List Aj:=[
(.reg (
 ⟨(some 2),none,(.op (.box (.t 0) 26))⟩::
 ⟨(some 4),none,(.op (.mv (.c (Value.int .i64 0))))⟩::
 ⟨(some 5),none,(.op (.mv (.c (Value.int .i64 0))))⟩::[])),
(.reg (
 ⟨(some 19),none,(.op (.Bb 3 (.t 2)))⟩::
 ⟨(some 20),none,(.call (.c (Value.func (.func 40) #[] #[])) [(.t 19)])⟩::
 ⟨(some 18),none,(.op (.mv (.t 20)))⟩::
 ⟨(some 21),none,(.op (.extract (.t 18) 0))⟩::
 ⟨(some 22),none,(.op (.extract (.t 18) 1))⟩::
 ⟨(some 6),none,(.op (.mv (.t 21)))⟩::
 ⟨(some 7),none,(.op (.mv (.t 22)))⟩::[])),
(.reg (
 ⟨(some 23),none,(.op (.Ab 2 (.t 2)))⟩::
 ⟨(some 24),none,(.op (.Ad (.t 23)))⟩::
 ⟨(some 25),none,(.op (.len (.t 24)))⟩::
 ⟨(some 8),none,(.op (.mv (.t 25)))⟩::[])),
(.block 0 (.seq (.reg (
 ⟨(some 27),none,(.op (.mv (.t 7)))⟩::
 ⟨(some 28),none,(.op (.int .neq (.t 27) (.c (Value.int .i64 0))))⟩::
 ⟨(some 26),none,(.op (.mv (.t 28)))⟩::[])) (.cond (.t 26) (.seq (.reg (
 ⟨(some 29),none,(.op (.mv (.t 7)))⟩::
 ⟨(some 4),none,(.op (.mv (.c (Value.int .i64 0))))⟩::
 ⟨(some 5),none,(.op (.mv (.t 29)))⟩::[])) .ret) (.seq (.reg (
 ⟨(some 31),none,(.op (.mv (.t 1)))⟩::
 ⟨(some 32),none,(.op (.len (.t 31)))⟩::
 ⟨(some 33),none,(.op (.mv (.t 8)))⟩::
 ⟨(some 34),none,(.op (.mv (.t 8)))⟩::
 ⟨(some 35),none,(.op (.pure (Iz Tryz.f297 5 4)))⟩::
 ⟨(some 36),none,(.op (.int .neq (.t 32) (.t 35)))⟩::
 ⟨(some 30),none,(.op (.mv (.t 36)))⟩::[])) (.cond (.t 30) (.seq (.reg (
 ⟨(some 4),none,(.op (.mv (.c (Value.int .i64 0))))⟩::
 ⟨(some 5),none,(.op (.mv (.c (Value.int .i64 15))))⟩::[])) .ret) (.seq (.reg (
 ⟨(some 38),none,(.op (.mv (.t 1)))⟩::
 ⟨(some 39),none,(.call (.c (Value.func (.func 112) #[] #[])) [(.t 38)])⟩::
 ⟨(some 40),none,(.op (.int .lss (.t 39) (.c (Value.int .i64 0))))⟩::
 ⟨(some 41),none,(.op (.mv (.t 40)))⟩::
 ⟨(some 42),(some (41,false)),(.op (.mv (.t 1)))⟩::
 ⟨(some 43),(some (41,false)),(.call (.c (Value.func (.func 113) #[] #[])) [(.t 42)])⟩::
 ⟨(some 44),(some (41,false)),(.op (.int .gtr (.t 43) (.c (Value.int .i64 1048576))))⟩::
 ⟨(some 45),none,(.op (.pick (.t 41) (.c (Value.bool true)) (.t 44)))⟩::
 ⟨(some 37),none,(.op (.mv (.t 45)))⟩::[])) (.cond (.t 37) (.seq (.reg (
 ⟨(some 4),none,(.op (.mv (.c (Value.int .i64 0))))⟩::
 ⟨(some 5),none,(.op (.mv (.c (Value.int .i64 3))))⟩::[])) .ret) .skip))))))),
(.reg (
 ⟨(some 46),none,(.op (.II))⟩::
 ⟨(some 9),none,(.op (.mv (.t 46)))⟩::[])),
(.seq (.reg (
 ⟨(some 47),none,(.op (.mv (.t 1)))⟩::
 ⟨(some 48),none,(.op (.len (.t 47)))⟩::
 ⟨(some 49),none,(.op (.mv (.c (Value.int .i64 0))))⟩::[])) (.block 1 (.loop (.seq (.reg (
 ⟨(some 50),none,(.op (.int .lss (.t 49) (.t 48)))⟩::[])) (.seq (.cond (.t 50) .skip (.exit 1)) (.seq (.block 2 (.seq (.reg (
 ⟨(some 51),none,(.op (.mv (.t 49)))⟩::
 ⟨(some 52),none,(.op (.D4 1 (.t 47) (.t 49)))⟩::
 ⟨(some 53),none,(.op (.Ad (.t 52)))⟩::
 ⟨(some 10),none,(.op (.mv (.t 51)))⟩::
 ⟨(some 11),none,(.op (.mv (.t 53)))⟩::[])) (.Ck (
 ⟨(some 54),none,(.op (.mv (.t 9)))⟩::
 ⟨(some 55),none,(.op (.mv (.t 10)))⟩::
 ⟨(some 56),none,(.op (.mv (.t 8)))⟩::
 ⟨(some 57),none,(.op (.Ls true (.t 55) (.t 56)))⟩::
 ⟨(some 58),none,(.op (.mv (.t 10)))⟩::
 ⟨(some 59),none,(.op (.mv (.t 8)))⟩::
 ⟨(some 60),none,(.op (.Ls false (.t 58) (.t 59)))⟩::
 ⟨(some 61),none,(.op (.build [Value.int .i64 0,Value.int .i64 0] [(0,1,(.t 57)),(1,1,(.t 60))]))⟩::
 ⟨(some 62),none,(.op (.mv (.t 11)))⟩::
 ⟨none,none,(.op (.Fs 601 (.t 54) (.t 61) (.t 62)))⟩::[]) []))) (.reg (
 ⟨(some 63),none,(.op (.int .add (.t 49) (.c (Value.int .i64 1))))⟩::
 ⟨(some 49),none,(.op (.mv (.t 63)))⟩::[])))))))),
(.reg (
 ⟨(some 12),none,(.op (.mv (.c (Value.int .i64 0))))⟩::[])),
(.reg (
 ⟨(some 64),none,(.op (.build [Value.int .i64 0,Value.int .i64 0] [(0,1,(.c (Value.int .i64 0))),(1,1,(.c (Value.int .i64 0)))]))⟩::
 ⟨(some 13),none,(.op (.alloc [Value.int .i64 0,Value.int .i64 0] 601))⟩::
 ⟨none,none,(.op (.store 2 (.t 13) (.t 64)))⟩::[])),
(.reg (
 ⟨(some 65),none,(.op (.Bb 2 (.t 13)))⟩::
 ⟨(some 14),none,(.op (.alloc [Value.int .i64 0,Value.int .i64 0] 601))⟩::
 ⟨none,none,(.op (.store 2 (.t 14) (.t 65)))⟩::[])),
.skip]
noncomputable def bD:Aj:=(.seq (.seq (.reg (
 ⟨(some 66),none,(.op (.mv (.t 9)))⟩::
 ⟨(some 67),none,(.op (.EN (.t 66)))⟩::[])) (.block 3 (.loop (.seq (.next (.t 67) 68 69) (.seq (.cond (.t 69) .skip (.exit 3)) (.block 4 (.seq (.reg (
 ⟨(some 70),none,(.op (.entry (.t 67)))⟩::
 ⟨(some 71),none,(.op (.extract (.t 70) 0))⟩::
 ⟨(some 72),none,(.op (.extract (.t 70) 1))⟩::
 ⟨(some 15),none,(.op (.alloc [Value.int .i64 0,Value.int .i64 0] 601))⟩::
 ⟨none,none,(.op (.store 2 (.t 15) (.t 71)))⟩::
 ⟨(some 16),none,(.op (.mv (.t 72)))⟩::[])) (.seq (.reg (
 ⟨(some 73),none,(.op (.Ab 0 (.t 15)))⟩::
 ⟨(some 74),none,(.op (.Ad (.t 73)))⟩::
 ⟨(some 75),none,(.op (.Ab 1 (.t 15)))⟩::
 ⟨(some 76),none,(.op (.Ad (.t 75)))⟩::
 ⟨(some 77),none,(.op (.pure (Iz Tryz.f297 21 4)))⟩::
 ⟨(some 78),none,(.op (.pure (Iz Tryz.f297 21 5)))⟩::
 ⟨(some 79),none,(.op (.int .eql (.t 78) (.c (Value.int .i64 1))))⟩::
 ⟨(some 17),none,(.op (.mv (.t 79)))⟩::[])) (.block 5 (.seq (.reg (
 ⟨(some 81),none,(.op (.mv (.t 17)))⟩::
 ⟨(some 82),none,(.op (.not (.t 81)))⟩::
 ⟨(some 83),none,(.op (.mv (.t 82)))⟩::
 ⟨(some 84),(some (83,true)),(.op (.mv (.t 16)))⟩::
 ⟨(some 85),(some (83,true)),(.op (.int .neq (.t 84) (.c (Value.int .i64 1048576))))⟩::
 ⟨(some 86),none,(.op (.pick (.t 83) (.t 85) (.c (Value.bool false))))⟩::
 ⟨(some 87),none,(.op (.mv (.t 86)))⟩::
 ⟨(some 88),(some (87,false)),(.op (.mv (.t 17)))⟩::
 ⟨(some 89),(some (87,false)),(.op (.mv (.t 88)))⟩::
 ⟨(some 90),(some (89,true)),(.op (.mv (.t 16)))⟩::
 ⟨(some 91),(some (89,true)),(.op (.mv (.t 6)))⟩::
 ⟨(some 92),(some (89,true)),(.op (.mv (.t 9)))⟩::
 ⟨(some 93),(some (89,true)),(.op (.Bb 2 (.t 15)))⟩::
 ⟨(some 94),(some (89,true)),(.call (.c (Value.func (.func 428) #[] #[])) [(.t 91),(.t 92),(.t 93)])⟩::
 ⟨(some 95),(some (89,true)),(.op (.int .gtr (.t 90) (.t 94)))⟩::
 ⟨(some 96),(some (87,false)),(.op (.pick (.t 89) (.t 95) (.c (Value.bool false))))⟩::
 ⟨(some 97),none,(.op (.pick (.t 87) (.c (Value.bool true)) (.t 96)))⟩::
 ⟨(some 80),none,(.op (.mv (.t 97)))⟩::[])) (.cond (.t 80) (.seq (.reg (
 ⟨(some 98),none,(.op (.Ab 0 (.t 15)))⟩::
 ⟨(some 99),none,(.op (.Ad (.t 98)))⟩::
 ⟨(some 100),none,(.op (.Ab 1 (.t 15)))⟩::
 ⟨(some 101),none,(.op (.Ad (.t 100)))⟩::
 ⟨(some 102),none,(.op (.int .add (.t 101) (.c (Value.int .i64 1))))⟩::
 ⟨(some 103),none,(.op (.build [Value.int .i64 0,Value.int .i64 0] [(0,1,(.t 99)),(1,1,(.t 102))]))⟩::
 ⟨none,none,(.op (.store 2 (.t 14) (.t 103)))⟩::[])) (.exit 3)) (.seq (.reg (
 ⟨(some 105),none,(.op (.mv (.t 17)))⟩::
 ⟨(some 106),none,(.op (.mv (.t 105)))⟩::
 ⟨(some 107),(some (106,true)),(.op (.mv (.t 16)))⟩::
 ⟨(some 108),(some (106,true)),(.op (.int .lss (.t 107) (.c (Value.int .i64 1048576))))⟩::
 ⟨(some 109),none,(.op (.pick (.t 106) (.t 108) (.c (Value.bool false))))⟩::
 ⟨(some 104),none,(.op (.mv (.t 109)))⟩::[])) (.cond (.t 104) (.reg (
 ⟨(some 110),none,(.op (.mv (.t 12)))⟩::
 ⟨(some 111),none,(.op (.Ab 0 (.t 15)))⟩::
 ⟨(some 112),none,(.op (.Ad (.t 111)))⟩::
 ⟨(some 113),none,(.op (.conv .u64 (.t 112)))⟩::
 ⟨(some 114),none,(.call (.c (Value.func (.func 429) #[] #[])) [(.t 113)])⟩::
 ⟨(some 115),none,(.op (.R9 true (.t 110) (.t 114)))⟩::
 ⟨(some 12),none,(.op (.mv (.t 115)))⟩::[])) .skip))))))))))))) (.seq (.seq (.reg (
 ⟨(some 116),none,(.op (.Bb 2 (.t 14)))⟩::
 ⟨(some 117),none,(.op (.Bb 2 (.t 13)))⟩::
 ⟨(some 118),none,(.op (.pure (Iz Tryz.f297 26 2)))⟩::[])) (.cond (.t 118) (.seq (.reg (
 ⟨(some 4),none,(.op (.mv (.c (Value.int .i64 0))))⟩::
 ⟨(some 5),none,(.op (.mv (.c (Value.int .i64 14))))⟩::[])) .ret) .skip)) (.seq (.reg (
 ⟨(some 119),none,(.op (.mv (.t 12)))⟩::
 ⟨(some 4),none,(.op (.mv (.t 119)))⟩::
 ⟨(some 5),none,(.op (.mv (.c (Value.int .i64 0))))⟩::[])) .ret)))
def jN:List ResultVar:=[.tmp 4,.tmp 5]
set_option maxHeartbeats 4000000 in
theorem cN:U0 Tryz.prog 297 120 2 (Yt kz bD) jN:=
 ⟨rfl,Jk,Tryz.f297,_,rfl,rfl,rfl,by decide,rfl,rfl,rfl⟩
end AE.Tryz
