/- Made by gen3.py: the code of the functions, compiled for the evaluator; each is that of the program, by evaluation. -/
import Derived.Test.YtbgiemgoafjohaaGreatDoorProg
import Derived.Test.YtbgiemgoafjohaaGreatDoorAEtwo
set_option linter.unusedVariables false
set_option linter.unusedSimpArgs false
set_option linter.unusedSectionVars false
namespace AE.Tryz
open Go AE Go.Proofs
set_option maxRecDepth 1000000
set_option maxHeartbeats 4000000
abbrev oo (d:Nat) (x:Bn):Ao:=⟨some d,none,.op x⟩
abbrev og (d g:Nat) (b:Bool) (x:Bn):Ao:=⟨some d,some (g,b),.op x⟩
abbrev oz (x:Bn):Ao:=⟨none,none,.op x⟩
abbrev oc (d f:Nat) (l:List AP):Ao:=⟨some d,none,.call (.c (Value.func (.func f) #[] #[])) l⟩
abbrev Kw (d g:Nat) (b:Bool) (f:Nat) (l:List AP):Ao:=⟨some d,some (g,b),.call (.c (Value.func (.func f) #[] #[])) l⟩
abbrev om (d s:Nat):Ao:=⟨some d,none,.op (.mv (.t s))⟩
abbrev z0:AP:=.c (Value.int .i64 0)
abbrev z1:AP:=.c (Value.int .i64 1)
abbrev k0:Value:=.int .i64 0
noncomputable def a3:Aj:=(.seq (.reg (
 oo 4 (.box (.t 0) 26)::
oo 8 (.mv (.c (Value.bool false)))::[])) (.seq (.seq (.reg (
 oo 19 (.Bb 3 (.t 4))::
oc 20 8 [(.t 19)]::
oo 21 (.not (.t 20))::[])) (.cond (.t 21) (.seq (.reg (
 oc 22 9 []::
om 8 22::[])) .ret) .skip)) (.seq (.reg (
 oo 24 (.Bb 3 (.t 4))::
oc 25 10 [(.t 24)]::
om 23 25::
oo 26 (.extract (.t 23) 0)::
oo 27 (.extract (.t 23) 1)::
om 9 26::
om 10 27::[])) (.seq (.seq (.reg (
 om 28 10::
oo 29 (.int .neq (.t 28) z0)::
om 30 29::
og 31 30 false (.Bb 3 (.t 4))::
og 32 30 false (.mv (.t 9))::
Kw 33 30 false 11 [(.t 31),(.t 32)]::
og 34 30 false (.int .neq (.t 33) z0)::
oo 35 (.pick (.t 30) (.c (Value.bool true)) (.t 34))::
om 36 35::
og 37 36 false (.mv (.t 9))::
og 38 36 false (.len (.t 37))::
og 39 36 false (.int .lss (.t 38) z1)::
oo 40 (.pick (.t 36) (.c (Value.bool true)) (.t 39))::[])) (.cond (.t 40) (.seq (.reg (
 oo 8 (.mv (.c (Value.bool false)))::[])) .ret) .skip)) (.seq (.reg (
 om 41 1::
oo 42 (.conv .i64 (.t 41))::
oo 43 (.int .add z1 (.t 42))::
om 44 2::
oo 45 (.conv .i64 (.t 44))::
oo 46 (.int .add z1 (.t 45))::
om 11 43::
om 12 46::[])) (.seq (.reg (
 om 47 11::
oc 48 12 [z0,z0,(.t 47),z0]::
om 49 11::
oc 50 12 [z1,(.c (Value.int .i64 9)),(.t 49),z0]::
oc 51 12 [(.c (Value.int .i64 2)),(.c (Value.int .i64 9)),z0,z0]::
oo 52 (.CI [k0,k0,k0,k0,k0,k0,k0,k0,k0,k0,k0,k0] [(0,4,(.t 48)),(4,4,(.t 50)),(8,4,(.t 51))] 3 36)::
om 13 52::[])) (.seq (.seq (.reg (
 oo 14 (.mv z0)::[])) (.block 0 (.loop (.seq (.seq (.reg (
 om 53 14::
om 54 9::
oo 55 (.len (.t 54))::
oo 56 (.int .lss (.t 53) (.t 55))::[])) (.cond (.t 56) .skip (.exit 0))) (.seq (.block 1 (.Ck (
 om 59 13::
om 60 9::
om 61 14::
oo 62 (.D4 1 (.t 60) (.t 61))::
oo 63 (.Ad (.t 62))::
oo 64 (.int .add z1 (.t 63))::
oo 65 (.Ab 2 (.t 4))::
oo 66 (.Ad (.t 65))::
om 67 9::
om 68 14::
oo 69 (.D4 1 (.t 67) (.t 68))::
oo 70 (.Ad (.t 69))::
oo 71 (.D4 6 (.t 66) (.t 70))::
oo 72 (.Ab 0 (.t 71))::
oo 73 (.Ad (.t 72))::
oc 74 12 [(.c (Value.int .i64 3)),(.c (Value.int .i64 9)),(.t 64),(.t 73)]::
oo 75 (.CI [k0,k0,k0,k0] [(0,4,(.t 74))] 1 36)::
oo 76 (.append 36 4 32 (.t 59) (.t 75))::
om 13 76::[]) [])) (.reg (
 om 57 14::
oo 58 (.int .add (.t 57) z1)::
om 14 58::[]))))))) (.seq (.reg (
 om 77 12::
om 78 9::
oo 79 (.len (.t 78))::
oo 80 (.int .mul (.t 77) (.t 79))::
om 15 80::[])) (.seq (.reg (
 om 81 3::
oo 82 (.conv .i64 (.t 81))::
om 83 9::
oo 84 (.len (.t 83))::
oo 85 (.Ls false (.t 82) (.t 84))::
oo 86 (.int .add (.c (Value.int .i64 3)) (.t 85))::
oc 87 12 [(.c (Value.int .i64 7)),(.c (Value.int .i64 9)),(.t 86),z0]::
oo 16 (.alloc [k0,k0,k0,k0] 36)::
oz (.store 4 (.t 16) (.t 87))::[])) (.seq (.Ck (
 om 88 13::
om 89 12::
oc 90 12 [(.c (Value.int .i64 5)),(.c (Value.int .i64 9)),(.t 89),z0]::
om 91 15::
oc 92 12 [(.c (Value.int .i64 6)),(.c (Value.int .i64 9)),(.t 91),z0]::
oo 93 (.Bb 4 (.t 16))::
oo 94 (.CI [k0,k0,k0,k0,k0,k0,k0,k0,k0,k0,k0,k0] [(0,4,(.t 90)),(4,4,(.t 92)),(8,4,(.t 93))] 3 36)::
oo 95 (.append 36 4 32 (.t 88) (.t 94))::
om 13 95::[]) []) (.seq (.seq (.reg (
 om 96 13::
oc 97 13 [(.t 96)]::
oo 98 (.not (.t 97))::[])) (.cond (.t 98) (.seq (.reg (
 oo 8 (.mv (.c (Value.bool false)))::[])) .ret) .skip)) (.seq (.reg (
 om 100 13::
oo 101 (.Bb 4 (.t 16))::
oo 102 (.CI [k0,k0,k0,k0] [(0,4,(.t 101))] 1 36)::
oo 103 (.append 36 4 32 (.t 100) (.t 102))::
oc 104 14 [(.t 103)]::
om 99 104::
oo 105 (.extract (.t 99) 0)::
oo 106 (.extract (.t 99) 1)::
om 17 105::
om 10 106::[])) (.seq (.seq (.reg (
 om 107 10::
oo 108 (.int .neq (.t 107) z0)::
om 109 108::
og 110 109 false (.mv (.t 17))::
og 111 109 false (.len (.t 110))::
og 112 109 false (.mv (.t 13))::
og 113 109 false (.len (.t 112))::
og 114 109 false (.int .add (.t 113) z1)::
og 115 109 false (.int .neq (.t 111) (.t 114))::
oo 116 (.pick (.t 109) (.c (Value.bool true)) (.t 115))::
om 117 116::
og 118 117 false (.mv (.t 17))::
og 119 117 false (.mv (.t 13))::
og 120 117 false (.len (.t 119))::
og 121 117 false (.D4 1 (.t 118) (.t 120))::
og 122 117 false (.Ad (.t 121))::
og 123 117 false (.int .neq (.t 122) (.c (Value.int .i64 23)))::
oo 124 (.pick (.t 117) (.c (Value.bool true)) (.t 123))::[])) (.cond (.t 124) (.seq (.reg (
 oo 8 (.mv (.c (Value.bool false)))::[])) .ret) .skip)) (.seq (.reg (
 om 126 13::
oc 127 15 [(.t 126)]::
om 125 127::
oo 128 (.extract (.t 125) 0)::
oo 129 (.extract (.t 125) 1)::
oo 18 (.alloc [k0,k0,Value.slice none 0 0] 47)::
oz (.store 3 (.t 18) (.t 128))::
om 10 129::[])) (.seq (.reg (
 om 130 10::
oo 131 (.int .eql (.t 130) z0)::
om 132 131::
og 133 132 true (.Bb 3 (.t 18))::
og 134 132 true (.mv (.t 11))::
og 135 132 true (.mv (.t 9))::
og 136 132 true (.len (.t 135))::
og 137 132 true (.mv (.t 15))::
og 138 132 true (.mv (.t 12))::
og 139 132 true (.mv (.t 15))::
og 140 132 true (.build [k0,k0,k0,k0,k0,k0,k0,k0] [(0,1,(.c (Value.int .i64 9))),(1,1,z1),(2,1,(.t 134)),(3,1,(.t 136)),(5,1,(.t 137)),(6,1,(.t 138)),(7,1,(.t 139))])::
og 141 132 true (.CI [k0,k0,k0,k0,k0,k0,k0,k0] [(0,8,(.t 140))] 1 52)::
og 142 132 true (.build [k0,k0,Value.slice none 0 0] [(2,1,(.t 141))])::
Kw 143 132 true 16 [(.t 133),(.t 142)]::
oo 144 (.pick (.t 132) (.t 143) (.c (Value.bool false)))::
om 145 144::
Kw 146 145 true 9 []::
oo 147 (.pick (.t 145) (.t 146) (.c (Value.bool false)))::
om 8 147::[])) .ret)))))))))))))))
def r3:List ResultVar:=[.tmp 8]
theorem qR:Eu Tryz.prog 3 148 4 a3 r3:=
  ⟨rfl,Tryz.f3,_,rfl,rfl,rfl,by decide,rfl,rfl,rfl⟩
noncomputable def a8:Aj:=(.seq (.reg (
 oo 1 (.box (.t 0) 26)::
oo 2 (.mv (.c (Value.bool false)))::[])) (.seq (.reg (
 oo 3 (.Ab 2 (.t 1))::
oo 4 (.Ad (.t 3))::
oo 5 (.len (.t 4))::
oo 6 (.int .leq (.t 5) (.c (Value.int .i64 12)))::
om 7 6::
og 8 7 true (.Bb 3 (.t 1))::
Kw 9 7 true 36 [(.t 8)]::
og 10 7 true (.int .eql (.t 9) z0)::
oo 11 (.pick (.t 7) (.t 10) (.c (Value.bool false)))::
om 2 11::[])) .ret))
def r8:List ResultVar:=[.tmp 2]
theorem qQ:Eu Tryz.prog 8 12 1 a8 r8:=
  ⟨rfl,Tryz.f8,_,rfl,rfl,rfl,by decide,rfl,rfl,rfl⟩
noncomputable def a9:Aj:=(.seq (.reg (
 oo 0 (.mv (.c (Value.bool false)))::[])) (.seq (.reg (
 oc 1 37 []::
om 2 1::
Kw 3 2 true 38 []::
oo 4 (.pick (.t 2) (.t 3) (.c (Value.bool false)))::
om 5 4::
Kw 6 5 true 39 []::
oo 7 (.pick (.t 5) (.t 6) (.c (Value.bool false)))::
om 0 7::[])) .ret))
def r9:List ResultVar:=[.tmp 0]
theorem qP:Eu Tryz.prog 9 8 0 a9 r9:=
  ⟨rfl,Tryz.f9,_,rfl,rfl,rfl,by decide,rfl,rfl,rfl⟩
noncomputable def sL:Aj:=(.seq (.reg (
 oo 1 (.box (.t 0) 26)::
oo 2 (.mv (.c (Value.slice none 0 0)))::
oo 3 (.mv z0)::[])) (.seq (.reg (
 oo 8 (.Bb 3 (.t 1))::
oc 9 40 [(.t 8)]::
om 7 9::
oo 10 (.extract (.t 7) 0)::
oo 11 (.extract (.t 7) 1)::
om 4 10::
om 5 11::[])) (.seq (.seq (.reg (
 om 12 5::
oo 13 (.int .neq (.t 12) z0)::[])) (.cond (.t 13) (.seq (.reg (
 om 14 5::
oo 2 (.mv (.c (Value.slice none 0 0)))::
om 3 14::[])) .ret) .skip)) (.seq (.reg (
 om 15 4::
oo 16 (.build [Value.pointer none,Value.slice none 0 0,k0] [(0,1,(.t 15))])::
oo 17 (.box (.t 16) 117)::
om 6 17::[])) (.seq (.reg (
 om 18 6::
oc 19 41 [(.t 18),(.c (Value.slice none 0 0)),z0]::[])) (.seq (.reg (
 om 20 6::
oo 21 (.AY (.t 20))::
oo 22 (.Ab 1 (.t 21))::
oo 23 (.Ad (.t 22))::
om 2 23::
oo 3 (.mv z0)::[])) .ret))))))
def ua:List ResultVar:=[.tmp 2,.tmp 3]
theorem l9:Eu Tryz.prog 10 24 1 sL ua:=
  ⟨rfl,Tryz.f10,_,rfl,rfl,rfl,by decide,rfl,rfl,rfl⟩
noncomputable def sK:Aj:=(.seq (.reg (
 oo 2 (.box (.t 0) 26)::
oo 4 (.mv z0)::[])) (.seq (.seq (.reg (
 oo 8 (.Bb 3 (.t 2))::
oc 9 36 [(.t 8)]::
oo 10 (.int .neq (.t 9) z0)::[])) (.cond (.t 10) (.seq (.reg (
 oo 11 (.Bb 3 (.t 2))::
oc 12 36 [(.t 11)]::
om 4 12::[])) .ret) .skip)) (.seq (.seq (.reg (
 om 13 1::
oo 14 (.len (.t 13))::
oo 15 (.Ab 2 (.t 2))::
oo 16 (.Ad (.t 15))::
oo 17 (.len (.t 16))::
oo 18 (.int .gtr (.t 14) (.t 17))::[])) (.cond (.t 18) (.seq (.reg (
 oo 4 (.mv (.c (Value.int .i64 6)))::[])) .ret) .skip)) (.seq (.seq (.reg (
 oo 5 (.mv z0)::[])) (.block 0 (.loop (.seq (.seq (.reg (
 om 19 5::
om 20 1::
oo 21 (.len (.t 20))::
oo 22 (.int .lss (.t 19) (.t 21))::[])) (.cond (.t 22) .skip (.exit 0))) (.seq (.block 1 (.seq (.Ck (
 om 25 1::
om 26 5::
oo 27 (.D4 1 (.t 25) (.t 26))::
oo 28 (.Ad (.t 27))::
oo 29 (.int .lss (.t 28) z0)::
om 30 29::
og 31 30 false (.mv (.t 1))::
og 32 30 false (.mv (.t 5))::
og 33 30 false (.D4 1 (.t 31) (.t 32))::
og 34 30 false (.Ad (.t 33))::
og 35 30 false (.Ab 2 (.t 2))::
og 36 30 false (.Ad (.t 35))::
og 37 30 false (.len (.t 36))::
og 38 30 false (.int .geq (.t 34) (.t 37))::
oo 39 (.pick (.t 30) (.c (Value.bool true)) (.t 38))::[]) []) (.cond (.t 39) (.seq (.reg (
 oo 4 (.mv (.c (Value.int .i64 3)))::[])) .ret) .skip))) (.reg (
 om 23 5::
oo 24 (.int .add (.t 23) z1)::
om 5 24::[]))))))) (.seq (.seq (.reg (
 oo 6 (.mv z0)::[])) (.block 2 (.loop (.seq (.seq (.reg (
 om 40 6::
om 41 1::
oo 42 (.len (.t 41))::
oo 43 (.int .lss (.t 40) (.t 42))::[])) (.cond (.t 43) .skip (.exit 2))) (.seq (.block 3 (.seq (.reg (
 oo 7 (.mv z0)::[])) (.block 4 (.loop (.seq (.seq (.reg (
 om 46 7::
om 47 6::
oo 48 (.int .lss (.t 46) (.t 47))::[])) (.cond (.t 48) .skip (.exit 4))) (.seq (.block 5 (.seq (.Ck (
 om 51 1::
om 52 6::
oo 53 (.D4 1 (.t 51) (.t 52))::
oo 54 (.Ad (.t 53))::
om 55 1::
om 56 7::
oo 57 (.D4 1 (.t 55) (.t 56))::
oo 58 (.Ad (.t 57))::
oo 59 (.int .eql (.t 54) (.t 58))::[]) []) (.cond (.t 59) (.seq (.reg (
 oo 4 (.mv (.c (Value.int .i64 11)))::[])) .ret) .skip))) (.reg (
 om 49 7::
oo 50 (.int .add (.t 49) z1)::
om 7 50::[])))))))) (.reg (
 om 44 6::
oo 45 (.int .add (.t 44) z1)::
om 6 45::[]))))))) (.seq (.reg (
 oo 4 (.mv z0)::[])) .ret))))))
def t8:List ResultVar:=[.tmp 4]
theorem l8:Eu Tryz.prog 11 60 2 sK t8:=
  ⟨rfl,Tryz.f11,_,rfl,rfl,rfl,by decide,rfl,rfl,rfl⟩
noncomputable def a12:Aj:=(.seq (.reg (
 oo 8 (.alloc [k0,k0,k0,k0] 36)::[])) (.seq (.reg (
 om 9 0::
om 10 1::
om 11 2::
om 12 3::
oo 13 (.build [k0,k0,k0,k0] [(0,1,(.t 9)),(1,1,(.t 10)),(2,1,(.t 11)),(3,1,(.t 12))])::
oz (.store 4 (.t 8) (.t 13))::[])) .ret))
def t7:List ResultVar:=[.cell 8 36]
theorem l7:Eu Tryz.prog 12 14 4 a12 t7:=
  ⟨rfl,Tryz.f12,_,rfl,rfl,rfl,by decide,rfl,rfl,rfl⟩
noncomputable def sJ:Aj:=(.seq (.reg (
 oo 2 (.mv (.c (Value.bool false)))::[])) (.seq (.reg (
 om 7 0::
oc 8 14 [(.t 7)]::
om 6 8::
oo 9 (.extract (.t 6) 0)::
oo 10 (.extract (.t 6) 1)::
om 3 9::
om 4 10::[])) (.seq (.seq (.reg (
 om 11 4::
oo 12 (.int .neq (.t 11) z0)::
om 13 12::
og 14 13 false (.mv (.t 3))::
og 15 13 false (.len (.t 14))::
og 16 13 false (.mv (.t 0))::
og 17 13 false (.len (.t 16))::
og 18 13 false (.int .neq (.t 15) (.t 17))::
oo 19 (.pick (.t 13) (.c (Value.bool true)) (.t 18))::[])) (.cond (.t 19) (.seq (.reg (
 oo 2 (.mv (.c (Value.bool false)))::[])) .ret) .skip)) (.seq (.seq (.reg (
 oo 5 (.mv z0)::[])) (.block 0 (.loop (.seq (.seq (.reg (
 om 20 5::
om 21 3::
oo 22 (.len (.t 21))::
oo 23 (.int .lss (.t 20) (.t 22))::[])) (.cond (.t 23) .skip (.exit 0))) (.seq (.block 1 (.seq (.reg (
 om 26 3::
om 27 5::
oo 28 (.D4 1 (.t 26) (.t 27))::
oo 29 (.Ad (.t 28))::
oo 30 (.int .neq (.t 29) z0)::[])) (.cond (.t 30) (.seq (.reg (
 oo 2 (.mv (.c (Value.bool false)))::[])) .ret) .skip))) (.reg (
 om 24 5::
oo 25 (.int .add (.t 24) z1)::
om 5 25::[]))))))) (.seq (.reg (
 oo 2 (.mv (.c (Value.bool true)))::[])) .ret)))))
def t6:List ResultVar:=[.tmp 2]
theorem l6:Eu Tryz.prog 13 31 1 sJ t6:=
  ⟨rfl,Tryz.f13,_,rfl,rfl,rfl,by decide,rfl,rfl,rfl⟩
noncomputable def sI:Aj:=(.seq (.reg (
 oo 2 (.mv (.c (Value.slice none 0 0)))::
oo 3 (.mv z0)::[])) (.seq (.reg (
 om 8 0::
oc 9 42 [(.t 8)]::
om 7 9::
oo 10 (.extract (.t 7) 0)::
oo 11 (.extract (.t 7) 1)::
oo 12 (.extract (.t 7) 2)::
om 4 10::
om 5 11::
om 6 12::[])) (.seq (.reg (
 om 13 5::
om 14 6::
om 2 13::
om 3 14::[])) .ret)))
def tZ:List ResultVar:=[.tmp 2,.tmp 3]
theorem l5:Eu Tryz.prog 14 15 1 sI tZ:=
  ⟨rfl,Tryz.f14,_,rfl,rfl,rfl,by decide,rfl,rfl,rfl⟩
noncomputable def sH:Aj:=(.seq (.reg (
 oo 2 (.alloc [k0,k0,Value.slice none 0 0] 47)::
oo 3 (.mv z0)::[])) (.seq (.reg (
 om 11 0::
oc 12 42 [(.t 11)]::
om 10 12::
oo 13 (.extract (.t 10) 0)::
oo 14 (.extract (.t 10) 1)::
oo 15 (.extract (.t 10) 2)::
om 4 13::
om 5 14::
om 6 15::[])) (.seq (.seq (.reg (
 om 16 6::
oo 17 (.int .neq (.t 16) z0)::[])) (.cond (.t 17) (.seq (.reg (
 oo 18 (.build [k0,k0,Value.slice none 0 0] [])::
om 19 6::
oz (.store 3 (.t 2) (.t 18))::
om 3 19::[])) .ret) .skip)) (.seq (.Ck (
 om 20 4::
oo 21 (.AY (.t 20))::
oo 22 (.Ab 0 (.t 21))::
oo 23 (.Ad (.t 22))::
om 24 4::
oo 25 (.AY (.t 24))::
oo 26 (.Ab 1 (.t 25))::
oo 27 (.Ad (.t 26))::
oo 28 (.build [k0,k0,Value.slice none 0 0] [(0,1,(.t 23)),(1,1,(.t 27))])::
oo 7 (.alloc [k0,k0,Value.slice none 0 0] 47)::
oz (.store 3 (.t 7) (.t 28))::[]) []) (.seq (.seq (.reg (
 om 29 4::
oo 30 (.AY (.t 29))::
oo 31 (.Ab 2 (.t 30))::
oo 32 (.Ad (.t 31))::
oc 33 43 [(.t 32)]::
oo 34 (.len (.t 33))::
oo 35 (.mv z0)::[])) (.block 0 (.loop (.seq (.reg (
 oo 36 (.int .lss (.t 35) (.t 34))::[])) (.seq (.cond (.t 36) .skip (.exit 0)) (.seq (.block 1 (.seq (.reg (
 oo 37 (.D4 1 (.t 33) (.t 35))::
oo 38 (.Ad (.t 37))::
om 9 38::[])) (.Ck (
 oo 39 (.Ab 2 (.t 7))::
oo 40 (.Ad (.t 39))::
om 41 9::
oo 42 (.AY (.t 41))::
oo 43 (.Ab 0 (.t 42))::
oo 44 (.Bb 8 (.t 43))::
oo 45 (.CI [k0,k0,k0,k0,k0,k0,k0,k0] [(0,8,(.t 44))] 1 52)::
oo 46 (.append 52 8 64 (.t 40) (.t 45))::
oo 47 (.Ab 2 (.t 7))::
oz (.store 1 (.t 47) (.t 46))::[]) []))) (.reg (
 oo 48 (.int .add (.t 35) z1)::
om 35 48::[])))))))) (.seq (.reg (
 oo 49 (.Bb 3 (.t 7))::
oz (.store 3 (.t 2) (.t 49))::
oo 3 (.mv z0)::[])) .ret))))))
def tY:List ResultVar:=[.cell 2 47,.tmp 3]
theorem lZ:Eu Tryz.prog 15 50 1 sH tY:=
  ⟨rfl,Tryz.f15,_,rfl,rfl,rfl,by decide,rfl,rfl,rfl⟩
noncomputable def a16:Aj:=(.seq (.reg (
 oo 2 (.box (.t 0) 47)::
oo 3 (.box (.t 1) 47)::
oo 4 (.mv (.c (Value.bool false)))::[])) (.seq (.seq (.reg (
 oo 6 (.Ab 0 (.t 2))::
oo 7 (.Ad (.t 6))::
oo 8 (.Ab 0 (.t 3))::
oo 9 (.Ad (.t 8))::
oo 10 (.int .neq (.t 7) (.t 9))::
om 11 10::
og 12 11 false (.Ab 1 (.t 2))::
og 13 11 false (.Ad (.t 12))::
og 14 11 false (.Ab 1 (.t 3))::
og 15 11 false (.Ad (.t 14))::
og 16 11 false (.int .neq (.t 13) (.t 15))::
oo 17 (.pick (.t 11) (.c (Value.bool true)) (.t 16))::
om 18 17::
og 19 18 false (.Ab 2 (.t 2))::
og 20 18 false (.Ad (.t 19))::
og 21 18 false (.len (.t 20))::
og 22 18 false (.Ab 2 (.t 3))::
og 23 18 false (.Ad (.t 22))::
og 24 18 false (.len (.t 23))::
og 25 18 false (.int .neq (.t 21) (.t 24))::
oo 26 (.pick (.t 18) (.c (Value.bool true)) (.t 25))::[])) (.cond (.t 26) (.seq (.reg (
 oo 4 (.mv (.c (Value.bool false)))::[])) .ret) .skip)) (.seq (.seq (.reg (
 oo 5 (.mv z0)::[])) (.block 0 (.loop (.seq (.seq (.reg (
 om 27 5::
oo 28 (.Ab 2 (.t 2))::
oo 29 (.Ad (.t 28))::
oo 30 (.len (.t 29))::
oo 31 (.int .lss (.t 27) (.t 30))::[])) (.cond (.t 31) .skip (.exit 0))) (.seq (.block 1 (.seq (.Ck (
 oo 34 (.Ab 2 (.t 2))::
oo 35 (.Ad (.t 34))::
om 36 5::
oo 37 (.D4 8 (.t 35) (.t 36))::
oo 38 (.Bb 8 (.t 37))::
oo 39 (.Ab 2 (.t 3))::
oo 40 (.Ad (.t 39))::
om 41 5::
oo 42 (.D4 8 (.t 40) (.t 41))::
oo 43 (.Bb 8 (.t 42))::
oo 44 (.pure (Iz Tryz.f16 6 10))::[]) []) (.cond (.t 44) (.seq (.reg (
 oo 4 (.mv (.c (Value.bool false)))::[])) .ret) .skip))) (.reg (
 om 32 5::
oo 33 (.int .add (.t 32) z1)::
om 5 33::[]))))))) (.seq (.reg (
 oo 4 (.mv (.c (Value.bool true)))::[])) .ret))))
def r16:List ResultVar:=[.tmp 4]
theorem lY:Eu Tryz.prog 16 45 2 a16 r16:=
  ⟨rfl,Tryz.f16,_,rfl,rfl,rfl,by decide,rfl,rfl,rfl⟩
noncomputable def a24:Aj:=(.seq (.reg (
 oo 2 (.mv (.c (Value.bool false)))::[])) (.seq (.reg (
 om 3 0::
oo 4 (.len (.t 3))::
oo 5 (.int .leq (.t 4) (.c (Value.int .i64 70)))::
om 6 5::
og 7 6 true (.mv (.t 0))::
Kw 8 6 true 55 [(.t 7)]::
og 9 6 true (.int .eql (.t 8) z0)::
oo 10 (.pick (.t 6) (.t 9) (.c (Value.bool false)))::
om 2 10::[])) .ret))
noncomputable def a28:Aj:=(.seq (.reg (
 oo 2 (.mv z0)::
oo 3 (.mv z0)::[])) (.seq (.seq (.reg (
 om 5 0::
oc 6 62 [(.t 5)]::
om 4 6::[])) (.seq (.reg (
 om 7 4::
oo 8 (.int .neq (.t 7) z0)::[])) (.cond (.t 8) (.seq (.reg (
 om 9 4::
oo 2 (.mv z0)::
om 3 9::[])) .ret) .skip))) (.seq (.reg (
 om 10 0::
oc 11 63 [(.t 10)]::
om 2 11::
oo 3 (.mv z0)::[])) .ret)))
noncomputable def a31:Aj:=(.seq (.reg (
 oo 1 (.box (.t 0) 36)::
oo 2 (.mv (.c (Value.string (ByteArray.mk #[]))))::
oo 3 (.mv z0)::[])) (.seq (.seq (.reg (
 oo 4 (.Bb 4 (.t 1))::
oc 5 73 [(.t 4)]::
oo 6 (.not (.t 5))::[])) (.cond (.t 6) (.seq (.reg (
 oo 2 (.mv (.c (Value.string (ByteArray.mk #[]))))::
oo 3 (.mv (.c (Value.int .i64 2)))::[])) .ret) .skip)) (.seq (.reg (
 oo 7 (.Bb 4 (.t 1))::
oc 8 74 [(.t 7)]::
om 2 8::
oo 3 (.mv z0)::[])) .ret)))
noncomputable def a36:Aj:=(.seq (.reg (
 oo 1 (.box (.t 0) 26)::
oo 2 (.mv z0)::[])) (.seq (.seq (.reg (
 oo 5 (.Ab 2 (.t 1))::
oo 6 (.Ad (.t 5))::
oo 7 (.len (.t 6))::
oo 8 (.int .lss (.t 7) z1)::
om 9 8::
og 10 9 false (.Ab 2 (.t 1))::
og 11 9 false (.Ad (.t 10))::
og 12 9 false (.len (.t 11))::
og 13 9 false (.int .gtr (.t 12) (.c (Value.int .i64 8)))::
oo 14 (.pick (.t 9) (.c (Value.bool true)) (.t 13))::[])) (.cond (.t 14) (.seq (.reg (
 oo 2 (.mv (.c (Value.int .i64 6)))::[])) .ret) .skip)) (.seq (.seq (.reg (
 oo 15 (.Ab 0 (.t 1))::
oo 16 (.Ab 0 (.t 15))::
oo 17 (.Ad (.t 16))::
oo 18 (.int .lss (.t 17) z0)::
om 19 18::
og 20 19 false (.Ab 0 (.t 1))::
og 21 19 false (.Ab 0 (.t 20))::
og 22 19 false (.Ad (.t 21))::
og 23 19 false (.Ab 0 (.t 1))::
og 24 19 false (.Ab 1 (.t 23))::
og 25 19 false (.Ad (.t 24))::
og 26 19 false (.int .gtr (.t 22) (.t 25))::
oo 27 (.pick (.t 19) (.c (Value.bool true)) (.t 26))::
om 28 27::
og 29 28 false (.Ab 0 (.t 1))::
og 30 28 false (.Ab 1 (.t 29))::
og 31 28 false (.Ad (.t 30))::
og 32 28 false (.int .gtr (.t 31) (.c (Value.int .i64 1000)))::
oo 33 (.pick (.t 28) (.c (Value.bool true)) (.t 32))::[])) (.cond (.t 33) (.seq (.reg (
 oo 2 (.mv (.c (Value.int .i64 2)))::[])) .ret) .skip)) (.seq (.seq (.reg (
 oo 3 (.mv z0)::[])) (.block 0 (.loop (.seq (.seq (.reg (
 om 34 3::
oo 35 (.Ab 2 (.t 1))::
oo 36 (.Ad (.t 35))::
oo 37 (.len (.t 36))::
oo 38 (.int .lss (.t 34) (.t 37))::[])) (.cond (.t 38) .skip (.exit 0))) (.seq (.block 1 (.seq (.reg (
 oo 41 (.Ab 2 (.t 1))::
oo 42 (.Ad (.t 41))::
om 43 3::
oo 44 (.D4 6 (.t 42) (.t 43))::
oo 45 (.Bb 6 (.t 44))::
oo 4 (.alloc [k0,k0,k0,k0,k0,k0] 40)::
oz (.store 6 (.t 4) (.t 45))::[])) (.seq (.reg (
 oo 46 (.Ab 0 (.t 4))::
oo 47 (.Ad (.t 46))::
oc 48 81 [(.t 47),z1,(.c (Value.int .i64 1000))]::
oo 49 (.not (.t 48))::
om 50 49::
og 51 50 false (.Ab 1 (.t 4))::
og 52 50 false (.Ab 0 (.t 51))::
og 53 50 false (.Ad (.t 52))::
og 54 50 false (.int .lss (.t 53) z0)::
oo 55 (.pick (.t 50) (.c (Value.bool true)) (.t 54))::
om 56 55::
og 57 56 false (.Ab 1 (.t 4))::
og 58 56 false (.Ab 0 (.t 57))::
og 59 56 false (.Ad (.t 58))::
og 60 56 false (.Ab 1 (.t 4))::
og 61 56 false (.Ab 1 (.t 60))::
og 62 56 false (.Ad (.t 61))::
og 63 56 false (.int .gtr (.t 59) (.t 62))::
oo 64 (.pick (.t 56) (.c (Value.bool true)) (.t 63))::
om 65 64::
og 66 65 false (.Ab 1 (.t 4))::
og 67 65 false (.Ab 1 (.t 66))::
og 68 65 false (.Ad (.t 67))::
og 69 65 false (.int .gtr (.t 68) (.c (Value.int .i64 1000000)))::
oo 70 (.pick (.t 65) (.c (Value.bool true)) (.t 69))::
om 71 70::
og 72 71 false (.Ab 3 (.t 4))::
og 73 71 false (.Ad (.t 72))::
Kw 74 71 false 81 [(.t 73),z0,(.c (Value.int .i64 1000000))]::
og 75 71 false (.not (.t 74))::
oo 76 (.pick (.t 71) (.c (Value.bool true)) (.t 75))::
om 77 76::
og 78 77 false (.Ab 4 (.t 4))::
og 79 77 false (.Ad (.t 78))::
Kw 80 77 false 81 [(.t 79),z0,(.c (Value.int .i64 1000))]::
og 81 77 false (.not (.t 80))::
oo 82 (.pick (.t 77) (.c (Value.bool true)) (.t 81))::
om 83 82::
og 84 83 false (.Ab 5 (.t 4))::
og 85 83 false (.Ad (.t 84))::
Kw 86 83 false 81 [(.t 85),z0,(.c (Value.int .i64 1000))]::
og 87 83 false (.not (.t 86))::
oo 88 (.pick (.t 83) (.c (Value.bool true)) (.t 87))::
om 89 88::
og 90 89 false (.Ab 4 (.t 4))::
og 91 89 false (.Ad (.t 90))::
og 92 89 false (.Ab 5 (.t 4))::
og 93 89 false (.Ad (.t 92))::
og 94 89 false (.int .gtr (.t 91) (.t 93))::
oo 95 (.pick (.t 89) (.c (Value.bool true)) (.t 94))::[])) (.cond (.t 95) (.seq (.reg (
 oo 2 (.mv (.c (Value.int .i64 2)))::[])) .ret) .skip)))) (.reg (
 om 39 3::
oo 40 (.int .add (.t 39) z1)::
om 3 40::[]))))))) (.seq (.reg (
 oo 2 (.mv z0)::[])) .ret)))))
def tX:List ResultVar:=[.tmp 2]
theorem lX:Eu Tryz.prog 36 96 1 a36 tX:=
  ⟨rfl,Tryz.f36,_,rfl,rfl,rfl,by decide,rfl,rfl,rfl⟩
noncomputable def a37:Aj:=(.seq (.reg (
 oo 0 (.mv (.c (Value.bool false)))::[])) (.seq (.reg (
 oc 1 82 []::
om 2 1::
Kw 3 2 true 83 []::
oo 4 (.pick (.t 2) (.t 3) (.c (Value.bool false)))::
om 5 4::
Kw 6 5 true 84 []::
oo 7 (.pick (.t 5) (.t 6) (.c (Value.bool false)))::
om 0 7::[])) .ret))
def tV:List ResultVar:=[.tmp 0]
theorem lW:Eu Tryz.prog 37 8 0 a37 tV:=
  ⟨rfl,Tryz.f37,_,rfl,rfl,rfl,by decide,rfl,rfl,rfl⟩
noncomputable def V2:Aj:=(.seq (.reg (
 om 10 50::[])) (.reg (
 om 11 51::[])))
noncomputable def V1:Aj:=(.block 5 (.seq (.reg (
 om 52 11::
oo 53 (.Ab 3 (.t 9))::
oo 54 (.Ad (.t 53))::
oo 55 (.int .leq (.t 52) (.t 54))::[])) (.cond (.t 55) (.seq (.Ck (
 oo 56 (.Ad (.t 5))::
oo 57 (.Ad (.t 6))::
oo 58 (.Ad (.t 8))::
om 59 10::
oo 60 (.AY (.t 56))::
oo 61 (.Ab 3 (.t 60))::
oo 62 (.Hf 8 8 (.t 61) (.t 57))::
oo 63 (.Hf 8 1 (.t 62) (.t 58))::
oz (.store 1 (.t 63) (.t 59))::[]) []) (.exit 4)) .skip)))
theorem mD:E2 Tryz.prog 67 false (bB Tryz.f40 0).1=some V2:=rfl
theorem mC:E2 Tryz.prog 67 false (bB Tryz.f40 0).2=some V1:=rfl
noncomputable def a40:Aj:=(.seq (.reg (
 oo 1 (.box (.t 0) 26)::
oo 2 (.mv (.c (Value.pointer none)))::
oo 3 (.mv z0)::[])) (.seq (.seq (.reg (
 oo 12 (.Bb 3 (.t 1))::
oc 13 100 [(.t 12)]::
om 4 13::[])) (.seq (.reg (
 om 14 4::
oo 15 (.int .neq (.t 14) z0)::[])) (.cond (.t 15) (.seq (.reg (
 om 16 4::
oo 2 (.mv (.c (Value.pointer none)))::
om 3 16::[])) .ret) .skip))) (.seq (.reg (
 oo 17 (.Bb 3 (.t 1))::
oo 18 (.build [k0,k0,Value.slice none 0 0,k0,k0,k0,k0,k0,k0,k0,k0,k0,k0,k0,k0,k0,k0,k0,k0,k0,k0,k0,k0,k0,k0,k0,k0,k0,k0,k0,k0,k0,k0,k0,k0,k0,k0,k0,k0,k0,k0,k0,k0,k0,k0,k0,k0,k0,k0,k0,k0,k0,k0,k0,k0,k0,k0,k0,k0,k0,k0,k0,k0,k0,k0,k0,k0] [(0,3,(.t 17))])::
oo 19 (.box (.t 18) 198)::
oo 5 (.alloc [Value.pointer none] 112)::
oz (.store 1 (.t 5) (.t 19))::[])) (.seq (.seq (.reg (
 oo 20 (.Ab 2 (.t 1))::
oo 21 (.Ad (.t 20))::
oo 22 (.len (.t 21))::
oo 23 (.mv z0)::[])) (.block 0 (.loop (.seq (.reg (
 oo 24 (.int .lss (.t 23) (.t 22))::[])) (.seq (.cond (.t 24) .skip (.exit 0)) (.seq (.block 1 (.seq (.reg (
 om 25 23::
oo 26 (.D4 6 (.t 21) (.t 23))::
oo 27 (.Bb 6 (.t 26))::
oo 6 (.alloc [k0] 3)::
oo 7 (.alloc [k0,k0,k0,k0,k0,k0] 40)::
oz (.store 1 (.t 6) (.t 25))::
oz (.store 6 (.t 7) (.t 27))::[])) (.seq (.reg (
 oo 28 (.Ab 2 (.t 1))::
oo 29 (.Ad (.t 28))::
oo 30 (.len (.t 29))::
oo 31 (.mv z0)::[])) (.block 2 (.loop (.seq (.reg (
 oo 32 (.int .lss (.t 31) (.t 30))::[])) (.seq (.cond (.t 32) .skip (.exit 2)) (.seq (.block 3 (.seq (.reg (
 om 33 31::
oo 34 (.D4 6 (.t 29) (.t 31))::
oo 35 (.Bb 6 (.t 34))::
oo 8 (.alloc [k0] 3)::
oo 9 (.alloc [k0,k0,k0,k0,k0,k0] 40)::
oz (.store 1 (.t 8) (.t 33))::
oz (.store 6 (.t 9) (.t 35))::[])) (.seq (.Ck (
 oo 36 (.Ad (.t 5))::
oo 37 (.Ad (.t 6))::
oo 38 (.Ad (.t 8))::
oo 39 (.AY (.t 36))::
oo 40 (.Ab 3 (.t 39))::
oo 41 (.Hf 8 8 (.t 40) (.t 37))::
oo 42 (.Hf 8 1 (.t 41) (.t 38))::
oz (.store 1 (.t 42) (.c (Value.int .i64 (-1))))::[]) []) (.seq (.reg (
 oo 43 (.Ab 1 (.t 7))::
oo 44 (.Ab 1 (.t 43))::
oo 45 (.Ad (.t 44))::
oo 46 (.Ab 0 (.t 1))::
oo 47 (.Ab 1 (.t 46))::
oo 48 (.Ad (.t 47))::
oc 49 101 [(.t 45),(.t 48)]::[])) (.block 4 (.range (.t 49) [50,51] 67 (bB Tryz.f40 0).1 (bB Tryz.f40 0).2 V2 V1)))))) (.reg (
 oo 64 (.int .add (.t 31) z1)::
om 31 64::[])))))))))) (.reg (
 oo 65 (.int .add (.t 23) z1)::
om 23 65::[])))))))) (.seq (.reg (
 oo 66 (.Ad (.t 5))::
om 2 66::
oo 3 (.mv z0)::[])) .ret)))))
def tU:List ResultVar:=[.tmp 2,.tmp 3]
theorem d6:Eu Tryz.prog 40 67 1 a40 tU:=
  ⟨rfl,Tryz.f40,_,rfl,rfl,rfl,by decide,rfl,rfl,rfl⟩
noncomputable def a42:Aj:=(.seq (.reg (
 oo 2 (.mv (.c (Value.pointer none)))::
oo 3 (.mv (.c (Value.slice none 0 0)))::
oo 4 (.mv z0)::[])) (.seq (.seq (.reg (
 om 13 0::
oc 14 62 [(.t 13)]::
om 5 14::[])) (.seq (.reg (
 om 15 5::
oo 16 (.int .neq (.t 15) z0)::[])) (.cond (.t 16) (.seq (.reg (
 om 17 5::
oo 2 (.mv (.c (Value.pointer none)))::
oo 3 (.mv (.c (Value.slice none 0 0)))::
om 4 17::[])) .ret) .skip))) (.seq (.reg (
 oo 18 (.II)::
oo 19 (.II)::
oo 20 (.II)::
oo 21 (.build [k0,k0,Value.map none,Value.map none,Value.map none] [(2,1,(.t 18)),(3,1,(.t 19)),(4,1,(.t 20))])::
oo 22 (.box (.t 21) 125)::
om 6 22::[])) (.seq (.reg (
 om 23 0::
oo 24 (.len (.t 23))::
oo 25 (.FJ [k0] 8 31 (.t 24) (.t 24))::
om 7 25::[])) (.seq (.seq (.reg (
 om 26 0::
oo 27 (.len (.t 26))::
oo 28 (.mv z0)::[])) (.block 0 (.loop (.seq (.reg (
 oo 29 (.int .lss (.t 28) (.t 27))::[])) (.seq (.cond (.t 29) .skip (.exit 0)) (.seq (.block 1 (.seq (.reg (
 om 30 28::
oo 31 (.D4 4 (.t 26) (.t 28))::
oo 32 (.Bb 4 (.t 31))::
oo 9 (.alloc [k0,k0,k0,k0] 36)::
om 8 30::
oz (.store 4 (.t 9) (.t 32))::[])) (.seq (.reg (
 om 33 6::
oo 34 (.Bb 4 (.t 9))::
om 35 8::
oc 36 105 [(.t 33),(.t 34),(.t 35)]::[])) (.block 2 (.seq (.reg (
 oo 43 (.pure (Iz Tryz.f42 12 0))::[])) (.cond (.t 43) (.reg (
 om 10 36::[])) (.seq (.reg (
 oo 44 (.Yi 209 (Value.agg #[]) true (.t 36))::
oo 45 (.extract (.t 44) 1)::
oo 46 (.extract (.t 44) 0)::[])) (.cond (.t 45) (.seq (.reg (
 oo 11 (.alloc [] 209)::
oz (.store 0 (.t 11) (.t 46))::[])) (.reg (
 om 47 7::
om 48 8::
oo 49 (.D4 1 (.t 47) (.t 48))::
oz (.store 1 (.t 49) (.c (Value.int .i64 5)))::[]))) (.seq (.reg (
 om 12 36::[])) (.reg (
 om 37 7::
om 38 8::
om 39 12::
oo 40 (.M6 206 (.t 39))::
⟨(some 41),none,(.call (.m 40 "tumblehome/clerk.why") [])⟩::
oo 42 (.D4 1 (.t 37) (.t 38))::
oz (.store 1 (.t 42) (.t 41))::[]))))))))))) (.reg (
 oo 50 (.int .add (.t 28) z1)::
om 28 50::[])))))))) (.seq (.reg (
 om 51 6::
om 52 7::
om 2 51::
om 3 52::
oo 4 (.mv z0)::[])) .ret))))))
def tT:List ResultVar:=[.tmp 2,.tmp 3,.tmp 4]
theorem lV:Eu Tryz.prog 42 53 1 a42 tT:=
  ⟨rfl,Tryz.f42,_,rfl,rfl,rfl,by decide,rfl,rfl,rfl⟩
noncomputable def a43:Aj:=(.seq (.reg (
 oo 2 (.mv (.c (Value.slice none 0 0)))::[])) (.seq (.reg (
 oo 3 (.mv (.c (Value.slice none 0 0)))::[])) (.seq (.seq (.reg (
 om 6 0::
oc 7 107 [(.t 6)]::
oc 8 106 [(.t 7)]::
oo 9 (.len (.t 8))::
oo 10 (.mv z0)::[])) (.block 0 (.loop (.seq (.reg (
 oo 11 (.int .lss (.t 10) (.t 9))::[])) (.seq (.cond (.t 11) .skip (.exit 0)) (.seq (.block 1 (.seq (.reg (
 oo 12 (.D4 1 (.t 8) (.t 10))::
oo 13 (.Ad (.t 12))::
om 5 13::[])) (.reg (
 om 14 3::
om 15 0::
om 16 5::
oo 17 (.lookup 2 (Value.pointer none) false (.t 15) (.t 16))::
oo 18 (.CI [Value.pointer none] [(0,1,(.t 17))] 1 128)::
oo 19 (.append 128 1 8 (.t 14) (.t 18))::
om 3 19::[])))) (.reg (
 oo 20 (.int .add (.t 10) z1)::
om 10 20::[])))))))) (.seq (.reg (
 om 21 3::
om 2 21::[])) .ret))))
def tQ:List ResultVar:=[.tmp 2]
theorem lU:Eu Tryz.prog 43 22 1 a43 tQ:=
  ⟨rfl,Tryz.f43,_,rfl,rfl,rfl,by decide,rfl,rfl,rfl⟩
noncomputable def a62:Aj:=(.seq (.reg (
 oo 2 (.mv z0)::[])) (.seq (.block 0 (.seq (.reg (
 om 4 0::
oo 5 (.len (.t 4))::
oo 6 (.int .gtr (.t 5) (.c (Value.int .i64 60)))::
om 3 6::[])) (.cond (.t 3) (.seq (.reg (
 oo 2 (.mv (.c (Value.int .i64 6)))::[])) .ret) (.seq (.reg (
 om 8 0::
oc 9 129 [(.t 8),(.c (Value.func (.func 130) #[] #[]))]::
om 7 9::[])) (.cond (.t 7) (.seq (.reg (
 oo 2 (.mv (.c (Value.int .i64 2)))::[])) .ret) .skip))))) (.seq (.reg (
 oo 2 (.mv z0)::[])) .ret)))
def tN:List ResultVar:=[.tmp 2]
theorem lT:Eu Tryz.prog 62 10 1 a62 tN:=
  ⟨rfl,Tryz.f62,_,rfl,rfl,rfl,by decide,rfl,rfl,rfl⟩
noncomputable def a63:Aj:=(.seq (.reg (
 oo 2 (.mv z0)::[])) (.seq (.seq (.reg (
 om 4 0::
oo 5 (.len (.t 4))::[])) (.block 0 (.seq (.reg (
 oo 7 (.int .eql (.t 5) z0)::
om 6 7::[])) (.cond (.t 6) (.seq (.reg (
 oo 2 (.mv z0)::[])) .ret) (.seq (.reg (
 oo 9 (.int .eql (.t 5) z1)::
om 8 9::[])) (.cond (.t 8) (.seq (.reg (
 om 10 0::
oo 11 (.D4 4 (.t 10) z0)::
oo 12 (.Bb 4 (.t 11))::
oc 13 71 [(.t 12)]::
oc 14 70 [(.t 13)]::
om 2 14::[])) .ret) .skip)))))) (.seq (.reg (
 om 15 0::
oo 16 (.len (.t 15))::
oc 17 131 [(.t 16)]::
om 3 17::[])) (.seq (.Ck (
 om 18 0::
om 19 3::
om 20 3::
oo 21 (.Hw 4 (.t 18) none (some (.t 19)) (some (.t 20)))::
oc 22 63 [(.t 21)]::
om 23 0::
om 24 3::
oo 25 (.Hw 4 (.t 23) (some (.t 24)) none none)::
oc 26 63 [(.t 25)]::
oc 27 72 [(.t 22),(.t 26)]::
om 2 27::[]) []) .ret))))
noncomputable def a64:Aj:=(.seq (.reg (
 oo 2 (.box (.t 0) 3)::
oo 3 (.box (.t 1) 3)::
oo 4 (.mv (.c (Value.nilFunc)))::[])) (.seq (.reg (
 oo 5 (.NC (Fn.func 132) [] [(.t 2),(.t 3)])::
om 4 5::[])) .ret))
noncomputable def a65:Aj:=(.seq (.reg (
 oo 1 (.box (.t 0) 36)::
oo 2 (.mv (.c (Value.bool false)))::[])) (.seq (.seq (.reg (
 oo 4 (.Ab 0 (.t 1))::
oo 5 (.Ad (.t 4))::
oo 6 (.int .lss (.t 5) z0)::
om 7 6::
og 8 7 false (.Ab 0 (.t 1))::
og 9 7 false (.Ad (.t 8))::
og 10 7 false (.int .gtr (.t 9) (.c (Value.int .i64 7)))::
oo 11 (.pick (.t 7) (.c (Value.bool true)) (.t 10))::[])) (.cond (.t 11) (.seq (.reg (
 oo 2 (.mv (.c (Value.bool false)))::[])) .ret) .skip)) (.seq (.Ck (
 oc 12 134 []::
oo 13 (.Ab 0 (.t 1))::
oo 14 (.Ad (.t 13))::
oo 15 (.Xg 8 9 (.t 12) (.t 14))::
oo 3 (.alloc [Value.string ByteArray.empty,k0,k0,k0,k0,k0,k0,k0,Value.nilFunc] 235)::
oz (.store 9 (.t 3) (.t 15))::[]) []) (.seq (.reg (
 oo 16 (.Ab 1 (.t 1))::
oo 17 (.Ad (.t 16))::
oo 18 (.Ab 1 (.t 3))::
oo 19 (.Ab 0 (.t 18))::
oo 20 (.Ad (.t 19))::
oo 21 (.Ab 1 (.t 3))::
oo 22 (.Ab 1 (.t 21))::
oo 23 (.Ad (.t 22))::
oc 24 135 [(.t 17),(.t 20),(.t 23)]::
om 25 24::
og 26 25 true (.Ab 2 (.t 1))::
og 27 25 true (.Ad (.t 26))::
og 28 25 true (.Ab 3 (.t 3))::
og 29 25 true (.Ab 0 (.t 28))::
og 30 25 true (.Ad (.t 29))::
og 31 25 true (.Ab 3 (.t 3))::
og 32 25 true (.Ab 1 (.t 31))::
og 33 25 true (.Ad (.t 32))::
Kw 34 25 true 135 [(.t 27),(.t 30),(.t 33)]::
oo 35 (.pick (.t 25) (.t 34) (.c (Value.bool false)))::
om 36 35::
og 37 36 true (.Ab 3 (.t 1))::
og 38 36 true (.Ad (.t 37))::
og 39 36 true (.Ab 5 (.t 3))::
og 40 36 true (.Ab 0 (.t 39))::
og 41 36 true (.Ad (.t 40))::
og 42 36 true (.Ab 5 (.t 3))::
og 43 36 true (.Ab 1 (.t 42))::
og 44 36 true (.Ad (.t 43))::
Kw 45 36 true 135 [(.t 38),(.t 41),(.t 44)]::
oo 46 (.pick (.t 36) (.t 45) (.c (Value.bool false)))::
om 2 46::[])) .ret))))
def tL:List ResultVar:=[.tmp 2]
theorem lS:Eu Tryz.prog 65 47 1 a65 tL:=
  ⟨rfl,Tryz.f65,_,rfl,rfl,rfl,by decide,rfl,rfl,rfl⟩
noncomputable def a66:Aj:=(.seq (.reg (
 oo 2 (.mv (.c (Value.bool false)))::[])) (.seq (.reg (
 om 3 0::
oc 4 135 [(.t 3),z0,(.c (Value.int .i64 2147483646))]::
om 2 4::[])) .ret))
def tK:List ResultVar:=[.tmp 2]
theorem lR:Eu Tryz.prog 66 5 1 a66 tK:=
  ⟨rfl,Tryz.f66,_,rfl,rfl,rfl,by decide,rfl,rfl,rfl⟩
noncomputable def a70:Aj:=(.seq (.reg (
 oo 2 (.mv z0)::[])) (.seq (.reg (
 oo 3 (.mv z1)::[])) (.seq (.seq (.reg (
 om 5 0::
oo 6 (.Qz (.t 5))::
oo 7 (.mv z0)::[])) (.block 0 (.loop (.seq (.reg (
 oo 8 (.int .lss (.t 7) (.t 6))::[])) (.seq (.cond (.t 8) .skip (.exit 0)) (.seq (.block 1 (.seq (.reg (
 om 9 7::
om 4 9::[])) (.reg (
 om 10 3::
oo 11 (.int .mul (.c (Value.int .i64 257)) (.t 10))::
om 12 0::
om 13 4::
oo 14 (.pure (Iz Tryz.f70 5 4))::
oo 15 (.conv .i64 (.t 14))::
oo 16 (.int .add (.t 11) (.t 15))::
oo 17 (.int .add (.t 16) z1)::
oo 18 (.Ls false (.t 17) (.c (Value.int .i64 2147483647)))::
om 3 18::[])))) (.reg (
 oo 19 (.int .add (.t 7) z1)::
om 7 19::[])))))))) (.seq (.reg (
 om 20 3::
om 2 20::[])) .ret))))
def tJ:List ResultVar:=[.tmp 2]
theorem lQ:Eu Tryz.prog 70 21 1 a70 tJ:=
  ⟨rfl,Tryz.f70,_,rfl,rfl,rfl,by decide,rfl,rfl,rfl⟩
noncomputable def a71:Aj:=(.seq (.reg (
 oo 1 (.box (.t 0) 36)::
oo 2 (.mv (.c (Value.string (ByteArray.mk #[]))))::[])) (.seq (.Ck (
 oc 5 134 []::
oo 6 (.Ab 0 (.t 1))::
oo 7 (.Ad (.t 6))::
oo 8 (.Xg 8 9 (.t 5) (.t 7))::
oo 3 (.alloc [Value.string ByteArray.empty,k0,k0,k0,k0,k0,k0,k0,Value.nilFunc] 235)::
oz (.store 9 (.t 3) (.t 8))::[]) []) (.seq (.reg (
 oo 9 (.Ab 1 (.t 1))::
oo 10 (.Ad (.t 9))::
oo 11 (.Ab 2 (.t 1))::
oo 12 (.Ad (.t 11))::
oo 13 (.Ab 3 (.t 1))::
oo 14 (.Ad (.t 13))::
oo 15 (.CI [k0,k0,k0] [(0,1,(.t 10)),(1,1,(.t 12)),(2,1,(.t 14))] 3 2)::
om 4 15::[])) (.seq (.seq (.reg (
 oo 16 (.Ab 0 (.t 1))::
oo 17 (.Ad (.t 16))::
oo 18 (.int .eql (.t 17) z0)::[])) (.cond (.t 18) (.reg (
 om 19 4::
oo 20 (.Hw 1 (.t 19) (some z1) none none)::
om 4 20::[])) .skip)) (.seq (.Ck (
 oo 21 (.Ab 0 (.t 3))::
oo 22 (.Ad (.t 21))::
om 23 4::
oo 24 (.Ab 7 (.t 3))::
oo 25 (.Ad (.t 24))::
oo 26 (.Ab 7 (.t 3))::
oo 27 (.Ad (.t 26))::
oo 28 (.Hw 1 (.t 23) none (some (.t 25)) (some (.t 27)))::
oc 29 138 [(.t 22),(.t 28)]::
om 2 29::[]) []) .ret)))))
def tI:List ResultVar:=[.tmp 2]
theorem lP:Eu Tryz.prog 71 30 1 a71 tI:=
  ⟨rfl,Tryz.f71,_,rfl,rfl,rfl,by decide,rfl,rfl,rfl⟩
noncomputable def a72:Aj:=(.seq (.reg (
 oo 4 (.mv z0)::[])) (.seq (.reg (
 om 5 0::
oo 6 (.int .mul (.c (Value.int .i64 1000003)) (.t 5))::
om 7 1::
oo 8 (.int .mul (.c (Value.int .i64 20011)) (.t 7))::
oo 9 (.int .add (.t 6) (.t 8))::
oo 10 (.int .add (.t 9) (.c (Value.int .i64 7)))::
oo 11 (.Ls false (.t 10) (.c (Value.int .i64 2147483647)))::
om 4 11::[])) .ret))
noncomputable def a73:Aj:=(.seq (.reg (
 oo 1 (.box (.t 0) 36)::
oo 2 (.mv (.c (Value.bool false)))::[])) (.seq (.seq (.reg (
 oo 3 (.Ab 0 (.t 1))::
oo 4 (.Ad (.t 3))::
oo 5 (.int .eql (.t 4) z0)::[])) (.cond (.t 5) (.seq (.reg (
 oo 6 (.Ab 1 (.t 1))::
oo 7 (.Ad (.t 6))::
oo 8 (.int .eql (.t 7) z0)::
om 9 8::
og 10 9 true (.Ab 2 (.t 1))::
og 11 9 true (.Ad (.t 10))::
Kw 12 9 true 139 [(.t 11),z1,(.c (Value.int .i64 1000000))]::
oo 13 (.pick (.t 9) (.t 12) (.c (Value.bool false)))::
om 14 13::
og 15 14 true (.Ab 3 (.t 1))::
og 16 14 true (.Ad (.t 15))::
og 17 14 true (.int .eql (.t 16) z0)::
oo 18 (.pick (.t 14) (.t 17) (.c (Value.bool false)))::
om 2 18::[])) .ret) .skip)) (.seq (.seq (.reg (
 oo 19 (.Ab 1 (.t 1))::
oo 20 (.Ad (.t 19))::
oc 21 139 [(.t 20),z1,(.c (Value.int .i64 1099511627776))]::
oo 22 (.not (.t 21))::[])) (.cond (.t 22) (.seq (.reg (
 oo 2 (.mv (.c (Value.bool false)))::[])) .ret) .skip)) (.seq (.seq (.reg (
 oo 23 (.Ab 0 (.t 1))::
oo 24 (.Ad (.t 23))::[])) (.block 0 (.seq (.reg (
 oo 26 (.int .eql (.t 24) z1)::
om 25 26::[])) (.cond (.t 25) (.seq (.reg (
 oo 27 (.Ab 2 (.t 1))::
oo 28 (.Ad (.t 27))::
oc 29 139 [(.t 28),z1,(.c (Value.int .i64 1000000))]::
om 30 29::
og 31 30 true (.Ab 3 (.t 1))::
og 32 30 true (.Ad (.t 31))::
Kw 33 30 true 139 [(.t 32),z0,(.c (Value.int .i64 1000))]::
oo 34 (.pick (.t 30) (.t 33) (.c (Value.bool false)))::
om 2 34::[])) .ret) (.seq (.seq (.reg (
 oo 36 (.int .eql (.t 24) (.c (Value.int .i64 2)))::
om 35 36::[])) (.cond (.t 35) .skip (.reg (
 oo 37 (.int .eql (.t 24) (.c (Value.int .i64 4)))::
om 35 37::[])))) (.cond (.t 35) (.seq (.reg (
 oo 38 (.Ab 2 (.t 1))::
oo 39 (.Ad (.t 38))::
oo 40 (.int .eql (.t 39) z0)::
om 41 40::
og 42 41 true (.Ab 3 (.t 1))::
og 43 41 true (.Ad (.t 42))::
og 44 41 true (.int .eql (.t 43) z0)::
oo 45 (.pick (.t 41) (.t 44) (.c (Value.bool false)))::
om 2 45::[])) .ret) (.seq (.reg (
 oo 47 (.int .eql (.t 24) (.c (Value.int .i64 3)))::
om 46 47::[])) (.cond (.t 46) (.seq (.reg (
 oo 48 (.Ab 2 (.t 1))::
oo 49 (.Ad (.t 48))::
oc 50 139 [(.t 49),z1,(.c (Value.int .i64 1000000))]::
om 51 50::
og 52 51 true (.Ab 3 (.t 1))::
og 53 51 true (.Ad (.t 52))::
Kw 54 51 true 139 [(.t 53),z0,(.c (Value.int .i64 1000000))]::
oo 55 (.pick (.t 51) (.t 54) (.c (Value.bool false)))::
om 2 55::[])) .ret) (.seq (.reg (
 oo 57 (.int .eql (.t 24) (.c (Value.int .i64 5)))::
om 56 57::[])) (.cond (.t 56) (.seq (.reg (
 oo 58 (.Ab 2 (.t 1))::
oo 59 (.Ad (.t 58))::
oc 60 139 [(.t 59),z1,(.c (Value.int .i64 1000000))]::
om 61 60::
og 62 61 true (.Ab 3 (.t 1))::
og 63 61 true (.Ad (.t 62))::
og 64 61 true (.int .eql (.t 63) z0)::
oo 65 (.pick (.t 61) (.t 64) (.c (Value.bool false)))::
om 2 65::[])) .ret) (.seq (.reg (
 oo 67 (.int .eql (.t 24) (.c (Value.int .i64 6)))::
om 66 67::[])) (.cond (.t 66) (.seq (.reg (
 oo 68 (.Ab 2 (.t 1))::
oo 69 (.Ad (.t 68))::
oc 70 139 [(.t 69),z1,(.c (Value.int .i64 1000000000))]::
om 71 70::
og 72 71 true (.Ab 3 (.t 1))::
og 73 71 true (.Ad (.t 72))::
og 74 71 true (.int .eql (.t 73) z0)::
oo 75 (.pick (.t 71) (.t 74) (.c (Value.bool false)))::
om 2 75::[])) .ret) (.seq (.reg (
 oo 77 (.int .eql (.t 24) (.c (Value.int .i64 7)))::
om 76 77::[])) (.cond (.t 76) (.seq (.reg (
 oo 78 (.Ab 2 (.t 1))::
oo 79 (.Ad (.t 78))::
oc 80 139 [(.t 79),z0,(.c (Value.int .i64 59))]::
om 81 80::
og 82 81 true (.Ab 3 (.t 1))::
og 83 81 true (.Ad (.t 82))::
og 84 81 true (.int .eql (.t 83) z0)::
oo 85 (.pick (.t 81) (.t 84) (.c (Value.bool false)))::
om 2 85::[])) .ret) .skip)))))))))))))) (.seq (.reg (
 oo 2 (.mv (.c (Value.bool false)))::[])) .ret)))))
def tH:List ResultVar:=[.tmp 2]
theorem lO:Eu Tryz.prog 73 86 1 a73 tH:=
  ⟨rfl,Tryz.f73,_,rfl,rfl,rfl,by decide,rfl,rfl,rfl⟩
noncomputable def sG:Aj:=(.seq (.reg (
 oo 6 (.mv (.c (Value.bool false)))::[])) (.seq (.reg (
 om 7 0::
om 8 1::
oo 9 (.int .geq (.t 7) (.t 8))::
om 10 9::
og 11 10 true (.mv (.t 0))::
og 12 10 true (.mv (.t 2))::
og 13 10 true (.int .leq (.t 11) (.t 12))::
oo 14 (.pick (.t 10) (.t 13) (.c (Value.bool false)))::
om 6 14::[])) .ret))
def tF:List ResultVar:=[.tmp 6]
theorem lN:Eu Tryz.prog 81 15 3 sG tF:=
  ⟨rfl,Tryz.f81,_,rfl,rfl,rfl,by decide,rfl,rfl,rfl⟩
noncomputable def a82:Aj:=(.seq (.reg (
 oo 0 (.mv (.c (Value.bool false)))::[])) (.seq (.reg (
 oc 1 146 []::
om 2 1::
Kw 3 2 true 147 []::
oo 4 (.pick (.t 2) (.t 3) (.c (Value.bool false)))::
om 5 4::
Kw 6 5 true 148 []::
oo 7 (.pick (.t 5) (.t 6) (.c (Value.bool false)))::
om 0 7::[])) .ret))
def tE:List ResultVar:=[.tmp 0]
theorem lM:Eu Tryz.prog 82 8 0 a82 tE:=
  ⟨rfl,Tryz.f82,_,rfl,rfl,rfl,by decide,rfl,rfl,rfl⟩
noncomputable def nA:Aj:=(.seq (.reg (
 oo 1 (.box (.t 0) 26)::
oo 2 (.mv z0)::[])) (.seq (.seq (.reg (
 oo 6 (.Ab 2 (.t 1))::
oo 7 (.Ad (.t 6))::
oo 8 (.len (.t 7))::
oo 9 (.int .eql (.t 8) z0)::
om 10 9::
og 11 10 false (.Ab 2 (.t 1))::
og 12 10 false (.Ad (.t 11))::
og 13 10 false (.len (.t 12))::
og 14 10 false (.int .gtr (.t 13) (.c (Value.int .i64 8)))::
oo 15 (.pick (.t 10) (.c (Value.bool true)) (.t 14))::[])) (.cond (.t 15) (.seq (.reg (
 oo 2 (.mv (.c (Value.int .i64 6)))::[])) .ret) .skip)) (.seq (.reg (
 oo 16 (.Ab 0 (.t 1))::
oo 17 (.Bb 2 (.t 16))::
oo 18 (.CI [k0,k0] [(0,2,(.t 17))] 1 23)::
oc 19 183 [z0,(.c (Value.int .i64 1000)),(.t 18)]::
om 3 19::[])) (.seq (.seq (.reg (
 oo 20 (.Ab 2 (.t 1))::
oo 21 (.Ad (.t 20))::
oo 22 (.len (.t 21))::
oo 23 (.mv z0)::[])) (.block 0 (.loop (.seq (.reg (
 oo 24 (.int .lss (.t 23) (.t 22))::[])) (.seq (.cond (.t 24) .skip (.exit 0)) (.seq (.block 1 (.seq (.reg (
 oo 25 (.D4 6 (.t 21) (.t 23))::
oo 26 (.Bb 6 (.t 25))::
oo 5 (.alloc [k0,k0,k0,k0,k0,k0] 40)::
oz (.store 6 (.t 5) (.t 26))::[])) (.Ck (
 om 27 3::
om 28 27::
og 29 28 true (.Ab 0 (.t 5))::
og 30 28 true (.Ad (.t 29))::
Kw 31 28 true 184 [(.t 30)]::
og 32 28 true (.CI [k0,k0] [(0,2,(.t 31))] 1 23)::
Kw 33 28 true 183 [z1,(.c (Value.int .i64 1000)),(.t 32)]::
oo 34 (.pick (.t 28) (.t 33) (.c (Value.bool false)))::
om 35 34::
og 36 35 true (.Ab 1 (.t 5))::
og 37 35 true (.Bb 2 (.t 36))::
og 38 35 true (.Ab 3 (.t 5))::
og 39 35 true (.Ad (.t 38))::
Kw 40 35 true 184 [(.t 39)]::
og 41 35 true (.CI [k0,k0,k0,k0] [(0,2,(.t 37)),(2,2,(.t 40))] 2 23)::
Kw 42 35 true 183 [z0,(.c (Value.int .i64 1000000)),(.t 41)]::
oo 43 (.pick (.t 35) (.t 42) (.c (Value.bool false)))::
om 44 43::
og 45 44 true (.Ab 4 (.t 5))::
og 46 44 true (.Ad (.t 45))::
og 47 44 true (.Ab 5 (.t 5))::
og 48 44 true (.Ad (.t 47))::
og 49 44 true (.build [k0,k0] [(0,1,(.t 46)),(1,1,(.t 48))])::
og 50 44 true (.CI [k0,k0] [(0,2,(.t 49))] 1 23)::
Kw 51 44 true 183 [z0,(.c (Value.int .i64 1000)),(.t 50)]::
oo 52 (.pick (.t 44) (.t 51) (.c (Value.bool false)))::
om 3 52::[]) []))) (.reg (
 oo 53 (.int .add (.t 23) z1)::
om 23 53::[])))))))) (.seq (.seq (.reg (
 om 54 3::
oo 55 (.not (.t 54))::[])) (.cond (.t 55) (.seq (.reg (
 oo 2 (.mv (.c (Value.int .i64 2)))::[])) .ret) .skip)) (.seq (.reg (
 oo 2 (.mv z0)::[])) .ret))))))
def pR:List ResultVar:=[.tmp 2]
theorem iU:Eu Tryz.prog 100 56 1 nA pR:=
  ⟨rfl,Tryz.f100,_,rfl,rfl,rfl,by decide,rfl,rfl,rfl⟩
noncomputable def nu:Aj:=(.seq (.reg (
 oo 2 (.box (.t 0) 2)::
oo 3 (.box (.t 1) 2)::
oo 4 (.mv (.c (Value.nilFunc)))::[])) (.seq (.reg (
 oo 5 (.NC (Fn.func 185) [] [(.t 2),(.t 3)])::
om 4 5::[])) .ret))
def pQ:List ResultVar:=[.tmp 4]
theorem iT:Eu Tryz.prog 101 6 2 nu pQ:=
  ⟨rfl,Tryz.f101,_,rfl,rfl,rfl,by decide,rfl,rfl,rfl⟩
noncomputable def nt:Aj:=(.seq (.reg (
 oo 4 (.mv (.c (Value.bool false)))::[])) (.seq (.reg (
 om 5 0::
om 6 1::
oc 7 186 [(.t 5),(.t 6)]::
oo 8 (.int .geq (.t 7) z0)::
om 4 8::[])) .ret))
def pP:List ResultVar:=[.tmp 4]
theorem iR:Eu Tryz.prog 102 9 2 nt pP:=
  ⟨rfl,Tryz.f102,_,rfl,rfl,rfl,by decide,rfl,rfl,rfl⟩
noncomputable def nq:Aj:=(.seq (.reg (
 oo 8 (.mv z0)::
oo 9 (.mv z0)::[])) (.seq (.reg (
 om 13 0::
oo 14 (.AY (.t 13))::
oo 15 (.Ab 0 (.t 14))::
oo 16 (.Ab 2 (.t 15))::
oo 17 (.Ad (.t 16))::
om 18 3::
oo 19 (.D4 6 (.t 17) (.t 18))::
oo 20 (.Bb 6 (.t 19))::
oo 10 (.alloc [k0,k0,k0,k0,k0,k0] 40)::
oz (.store 6 (.t 10) (.t 20))::[])) (.seq (.reg (
 oo 21 (.Ab 4 (.t 10))::
oo 22 (.Ad (.t 21))::
om 11 22::[])) (.seq (.seq (.reg (
 om 23 1::
oo 24 (.int .geq (.t 23) z0)::[])) (.cond (.t 24) (.seq (.reg (
 om 25 0::
om 26 1::
om 27 3::
oo 28 (.AY (.t 25))::
oo 29 (.Ab 3 (.t 28))::
oo 30 (.Hf 8 8 (.t 29) (.t 26))::
oo 31 (.Hf 8 1 (.t 30) (.t 27))::
oo 32 (.Ad (.t 31))::
om 12 32::[])) (.seq (.seq (.reg (
 om 33 12::
oo 34 (.int .eql (.t 33) (.c (Value.int .i64 (-1))))::[])) (.cond (.t 34) (.seq (.reg (
 oo 8 (.mv z0)::
oo 9 (.mv (.c (Value.int .i64 18)))::[])) .ret) .skip)) (.reg (
 om 35 11::
om 36 2::
om 37 12::
oo 38 (.int .add (.t 36) (.t 37))::
oo 39 (.R9 true (.t 35) (.t 38))::
om 11 39::[])))) .skip)) (.seq (.seq (.reg (
 om 40 11::
oo 41 (.Ab 5 (.t 10))::
oo 42 (.Ad (.t 41))::
oo 43 (.int .gtr (.t 40) (.t 42))::[])) (.cond (.t 43) (.seq (.reg (
 oo 8 (.mv z0)::
oo 9 (.mv (.c (Value.int .i64 12)))::[])) .ret) .skip)) (.seq (.reg (
 om 44 11::
om 8 44::
oo 9 (.mv z0)::[])) .ret))))))
def pO:List ResultVar:=[.tmp 8,.tmp 9]
theorem iQ:Eu Tryz.prog 103 45 4 nq pO:=
  ⟨rfl,Tryz.f103,_,rfl,rfl,rfl,by decide,rfl,rfl,rfl⟩
noncomputable def nk:Aj:=(.seq (.reg (
 oo 2 (.mv (.c (Value.slice none 0 0)))::[])) (.seq (.reg (
 om 3 0::
om 4 0::
oo 5 (.len (.t 4))::
om 6 0::
oo 7 (.len (.t 6))::
oo 8 (.Hw 1 (.t 3) none (some (.t 5)) (some (.t 7)))::
om 2 8::[])) .ret))
def pN:List ResultVar:=[.tmp 2]
theorem iP:Eu Tryz.prog 104 9 1 nk pN:=
  ⟨rfl,Tryz.f104,_,rfl,rfl,rfl,by decide,rfl,rfl,rfl⟩
noncomputable def a105:Aj:=(.seq (.reg (
 oo 4 (.box (.t 1) 36)::
oo 6 (.mv (.c (Value.nilIface)))::[])) (.seq (.Ck (
 om 8 0::
oo 9 (.AY (.t 8))::
oo 10 (.Ab 2 (.t 9))::
oo 11 (.Ad (.t 10))::
oo 12 (.Ab 1 (.t 4))::
oo 13 (.Ad (.t 12))::
oo 14 (.lookup 2 (Value.pointer none) false (.t 11) (.t 13))::
om 7 14::[]) []) (.seq (.seq (.reg (
 om 15 7::
oo 16 (.cmp (some false) false (.t 15) (.c (Value.pointer none)) (Iz Tryz.f105 2 1))::
om 17 16::
og 18 17 true (.Ab 0 (.t 4))::
og 19 17 true (.Ad (.t 18))::
og 20 17 true (.int .gtr (.t 19) z1)::
oo 21 (.pick (.t 17) (.t 20) (.c (Value.bool false)))::[])) (.cond (.t 21) (.seq (.reg (
 oo 22 (.build [] [])::
oo 23 (.Jw 209 (.t 22))::
om 6 23::[])) .ret) .skip)) (.seq (.seq (.Ck (
 oc 24 134 []::
oo 25 (.Ab 0 (.t 4))::
oo 26 (.Ad (.t 25))::
oo 27 (.Xg 8 9 (.t 24) (.t 26))::
oo 28 (.field1 8 (.t 27))::
om 29 0::
om 30 7::
oo 31 (.Bb 4 (.t 4))::
om 32 2::[]) []) (.reg (
    ⟨(some 33),none,(.call (.t 28) [(.t 29),(.t 30),(.t 31),(.t 32)])⟩::
om 6 33::[]))) .ret))))
def pM:List ResultVar:=[.tmp 6]
theorem iO:Eu Tryz.prog 105 34 3 a105 pM:=
  ⟨rfl,Tryz.f105,_,rfl,rfl,rfl,by decide,rfl,rfl,rfl⟩
noncomputable def a107:Aj:=(.seq (.reg (
 oo 1 (.box (.t 0) 122)::
oo 2 (.mv (.c (Value.nilFunc)))::[])) (.seq (.reg (
 oo 3 (.NC (Fn.func 189) [] [(.t 1)])::
om 2 3::[])) .ret))
def pL:List ResultVar:=[.tmp 2]
theorem iN:Eu Tryz.prog 107 4 1 a107 pL:=
  ⟨rfl,Tryz.f107,_,rfl,rfl,rfl,by decide,rfl,rfl,rfl⟩
noncomputable def nj:Aj:=(.seq (.reg (
 oo 4 (.mv (.c (Value.bool false)))::[])) (.seq (.reg (
 om 5 0::
om 6 1::
oc 7 194 [(.t 5),(.t 6)]::
oo 8 (.int .geq (.t 7) z0)::
om 4 8::[])) .ret))
def pK:List ResultVar:=[.tmp 4]
theorem iM:Eu Tryz.prog 129 9 2 nj pK:=
  ⟨rfl,Tryz.f129,_,rfl,rfl,rfl,by decide,rfl,rfl,rfl⟩
noncomputable def a130:Aj:=(.seq (.reg (
 oo 1 (.box (.t 0) 36)::
oo 2 (.mv (.c (Value.bool false)))::[])) (.seq (.reg (
 oo 3 (.Bb 4 (.t 1))::
oc 4 65 [(.t 3)]::
oo 5 (.not (.t 4))::
om 2 5::[])) .ret))
def pJ:List ResultVar:=[.tmp 2]
theorem iL:Eu Tryz.prog 130 6 1 a130 pJ:=
  ⟨rfl,Tryz.f130,_,rfl,rfl,rfl,by decide,rfl,rfl,rfl⟩
noncomputable def ni:Aj:=(.seq (.reg (
 oo 0 (.alloc [Value.string ByteArray.empty,k0,k0,k0,k0,k0,k0,k0,Value.nilFunc,Value.string ByteArray.empty,k0,k0,k0,k0,k0,k0,k0,Value.nilFunc,Value.string ByteArray.empty,k0,k0,k0,k0,k0,k0,k0,Value.nilFunc,Value.string ByteArray.empty,k0,k0,k0,k0,k0,k0,k0,Value.nilFunc,Value.string ByteArray.empty,k0,k0,k0,k0,k0,k0,k0,Value.nilFunc,Value.string ByteArray.empty,k0,k0,k0,k0,k0,k0,k0,Value.nilFunc,Value.string ByteArray.empty,k0,k0,k0,k0,k0,k0,k0,Value.nilFunc,Value.string ByteArray.empty,k0,k0,k0,k0,k0,k0,k0,Value.nilFunc] 236)::[])) (.seq (.reg (
 oo 4 (.build [k0,k0] [])::
oo 5 (.build [k0,k0] [(0,1,z1),(1,1,(.c (Value.int .i64 1099511627776)))])::
oo 1 (.alloc [k0,k0] 23)::
oo 2 (.alloc [k0,k0] 23)::
oz (.store 2 (.t 1) (.t 4))::
oz (.store 2 (.t 2) (.t 5))::[])) (.seq (.reg (
 oo 3 (.mv (.c (Value.func (.func 195) #[] #[])))::[])) (.seq (.Ck (
 oo 6 (.Bb 2 (.t 1))::
om 7 3::
⟨(some 8),none,(.call (.t 7) [(.c (Value.int .i64 1000000))])⟩::
oo 9 (.Bb 2 (.t 1))::
oo 10 (.build [Value.string ByteArray.empty,k0,k0,k0,k0,k0,k0,k0,Value.nilFunc] [(0,1,(.c (Value.string (ByteArray.mk #[98,117,121])))),(1,2,(.t 6)),(3,2,(.t 8)),(5,2,(.t 9)),(7,1,z1),(8,1,(.c (Value.func (.func 196) #[] #[])))])::
oo 11 (.Bb 2 (.t 2))::
om 12 3::
⟨(some 13),none,(.call (.t 12) [(.c (Value.int .i64 1000000))])⟩::
oo 14 (.build [k0,k0] [(1,1,(.c (Value.int .i64 1000)))])::
oo 15 (.build [Value.string ByteArray.empty,k0,k0,k0,k0,k0,k0,k0,Value.nilFunc] [(0,1,(.c (Value.string (ByteArray.mk #[100,114,97,119])))),(1,2,(.t 11)),(3,2,(.t 13)),(5,2,(.t 14)),(7,1,(.c (Value.int .i64 3))),(8,1,(.c (Value.func (.func 197) #[] #[])))])::
oo 16 (.Bb 2 (.t 2))::
oo 17 (.Bb 2 (.t 1))::
oo 18 (.Bb 2 (.t 1))::
oo 19 (.build [Value.string ByteArray.empty,k0,k0,k0,k0,k0,k0,k0,Value.nilFunc] [(0,1,(.c (Value.string (ByteArray.mk #[99,117,116])))),(1,2,(.t 16)),(3,2,(.t 17)),(5,2,(.t 18)),(7,1,z1),(8,1,(.c (Value.func (.func 198) #[] #[])))])::
oo 20 (.Bb 2 (.t 2))::
om 21 3::
⟨(some 22),none,(.call (.t 21) [(.c (Value.int .i64 1000000))])⟩::
oo 23 (.build [k0,k0] [(1,1,(.c (Value.int .i64 1000000)))])::
oo 24 (.build [Value.string ByteArray.empty,k0,k0,k0,k0,k0,k0,k0,Value.nilFunc] [(0,1,(.c (Value.string (ByteArray.mk #[114,117,110])))),(1,2,(.t 20)),(3,2,(.t 22)),(5,2,(.t 23)),(7,1,(.c (Value.int .i64 3))),(8,1,(.c (Value.func (.func 199) #[] #[])))])::
oo 25 (.Bb 2 (.t 2))::
oo 26 (.Bb 2 (.t 1))::
oo 27 (.Bb 2 (.t 1))::
oo 28 (.build [Value.string ByteArray.empty,k0,k0,k0,k0,k0,k0,k0,Value.nilFunc] [(0,1,(.c (Value.string (ByteArray.mk #[109,101,108,116])))),(1,2,(.t 25)),(3,2,(.t 26)),(5,2,(.t 27)),(7,1,z1),(8,1,(.c (Value.func (.func 200) #[] #[])))])::
oo 29 (.Bb 2 (.t 2))::
om 30 3::
⟨(some 31),none,(.call (.t 30) [(.c (Value.int .i64 1000000))])⟩::
oo 32 (.Bb 2 (.t 1))::
oo 33 (.build [Value.string ByteArray.empty,k0,k0,k0,k0,k0,k0,k0,Value.nilFunc] [(0,1,(.c (Value.string (ByteArray.mk #[98,105,108,108])))),(1,2,(.t 29)),(3,2,(.t 31)),(5,2,(.t 32)),(7,1,(.c (Value.int .i64 2))),(8,1,(.c (Value.func (.func 201) #[] #[])))])::
oo 34 (.Bb 2 (.t 2))::
om 35 3::
⟨(some 36),none,(.call (.t 35) [(.c (Value.int .i64 1000000000))])⟩::
oo 37 (.Bb 2 (.t 1))::
oo 38 (.build [Value.string ByteArray.empty,k0,k0,k0,k0,k0,k0,k0,Value.nilFunc] [(0,1,(.c (Value.string (ByteArray.mk #[112,97,121])))),(1,2,(.t 34)),(3,2,(.t 36)),(5,2,(.t 37)),(7,1,(.c (Value.int .i64 2))),(8,1,(.c (Value.func (.func 202) #[] #[])))])::
oo 39 (.Bb 2 (.t 2))::
oo 40 (.build [k0,k0] [(1,1,(.c (Value.int .i64 59)))])::
oo 41 (.Bb 2 (.t 1))::
oo 42 (.build [Value.string ByteArray.empty,k0,k0,k0,k0,k0,k0,k0,Value.nilFunc] [(0,1,(.c (Value.string (ByteArray.mk #[99,108,97,105,109])))),(1,2,(.t 39)),(3,2,(.t 40)),(5,2,(.t 41)),(7,1,(.c (Value.int .i64 2))),(8,1,(.c (Value.func (.func 203) #[] #[])))])::
oo 43 (.build [Value.string ByteArray.empty,k0,k0,k0,k0,k0,k0,k0,Value.nilFunc,Value.string ByteArray.empty,k0,k0,k0,k0,k0,k0,k0,Value.nilFunc,Value.string ByteArray.empty,k0,k0,k0,k0,k0,k0,k0,Value.nilFunc,Value.string ByteArray.empty,k0,k0,k0,k0,k0,k0,k0,Value.nilFunc,Value.string ByteArray.empty,k0,k0,k0,k0,k0,k0,k0,Value.nilFunc,Value.string ByteArray.empty,k0,k0,k0,k0,k0,k0,k0,Value.nilFunc,Value.string ByteArray.empty,k0,k0,k0,k0,k0,k0,k0,Value.nilFunc,Value.string ByteArray.empty,k0,k0,k0,k0,k0,k0,k0,Value.nilFunc] [(0,9,(.t 10)),(9,9,(.t 15)),(18,9,(.t 19)),(27,9,(.t 24)),(36,9,(.t 28)),(45,9,(.t 33)),(54,9,(.t 38)),(63,9,(.t 42))])::
oz (.store 72 (.t 0) (.t 43))::[]) []) .ret))))
def pI:List ResultVar:=[.cell 0 236]
theorem iK:Eu Tryz.prog 134 44 0 ni pI:=
  ⟨rfl,Tryz.f134,_,rfl,rfl,rfl,by decide,rfl,rfl,rfl⟩
noncomputable def nh:Aj:=(.seq (.reg (
 oo 6 (.mv (.c (Value.bool false)))::[])) (.seq (.reg (
 om 7 1::
om 8 0::
oo 9 (.int .leq (.t 7) (.t 8))::
om 10 9::
og 11 10 true (.mv (.t 0))::
og 12 10 true (.mv (.t 2))::
og 13 10 true (.int .leq (.t 11) (.t 12))::
oo 14 (.pick (.t 10) (.t 13) (.c (Value.bool false)))::
om 6 14::[])) .ret))
def pH:List ResultVar:=[.tmp 6]
theorem iJ:Eu Tryz.prog 135 15 3 nh pH:=
  ⟨rfl,Tryz.f135,_,rfl,rfl,rfl,by decide,rfl,rfl,rfl⟩
noncomputable def a139:Aj:=(.seq (.reg (
 oo 6 (.mv (.c (Value.bool false)))::[])) (.seq (.reg (
 om 7 0::
om 8 1::
oo 9 (.int .geq (.t 7) (.t 8))::
om 10 9::
og 11 10 true (.mv (.t 0))::
og 12 10 true (.mv (.t 2))::
og 13 10 true (.int .leq (.t 11) (.t 12))::
oo 14 (.pick (.t 10) (.t 13) (.c (Value.bool false)))::
om 6 14::[])) .ret))
def pG:List ResultVar:=[.tmp 6]
theorem iI:Eu Tryz.prog 139 15 3 a139 pG:=
  ⟨rfl,Tryz.f139,_,rfl,rfl,rfl,by decide,rfl,rfl,rfl⟩
noncomputable def m9:Aj:=(.seq (.reg (
 oo 2 (.mv (.c (Value.string (ByteArray.mk #[]))))::[])) (.seq (.reg (
 om 3 0::
oc 4 206 [(.t 3),(.c (Value.int .i64 10))]::
oo 5 (.pure (Iz Tryz.f140 1 2))::
om 2 5::[])) .ret))
def pF:List ResultVar:=[.tmp 2]
theorem iH:Eu Tryz.prog 140 6 1 m9 pF:=
  ⟨rfl,Tryz.f140,_,rfl,rfl,rfl,by decide,rfl,rfl,rfl⟩
noncomputable def a146:Aj:=(.seq (.reg (
 oo 0 (.mv (.c (Value.bool false)))::[])) (.seq (.reg (
 oc 1 212 []::
om 2 1::
Kw 3 2 true 213 []::
oo 4 (.pick (.t 2) (.t 3) (.c (Value.bool false)))::
om 5 4::
Kw 6 5 true 214 []::
oo 7 (.pick (.t 5) (.t 6) (.c (Value.bool false)))::
om 0 7::[])) .ret))
def pE:List ResultVar:=[.tmp 0]
theorem iG:Eu Tryz.prog 146 8 0 a146 pE:=
  ⟨rfl,Tryz.f146,_,rfl,rfl,rfl,by decide,rfl,rfl,rfl⟩
noncomputable def a183:Aj:=(.seq (.reg (
 oo 3 (.box (.t 0) 2)::
oo 4 (.box (.t 1) 2)::
oo 6 (.mv (.c (Value.bool false)))::[])) (.seq (.reg (
 om 7 2::
oo 8 (.NC (Fn.func 268) [] [(.t 3),(.t 4)])::
oc 9 267 [(.t 7),(.t 8)]::
oo 10 (.not (.t 9))::
om 6 10::[])) .ret))
def pD:List ResultVar:=[.tmp 6]
theorem iE:Eu Tryz.prog 183 11 3 a183 pD:=
  ⟨rfl,Tryz.f183,_,rfl,rfl,rfl,by decide,rfl,rfl,rfl⟩
noncomputable def m8:Aj:=(.seq (.reg (
 oo 2 (.alloc [k0,k0] 23)::[])) (.seq (.reg (
 om 3 0::
om 4 0::
oo 5 (.build [k0,k0] [(0,1,(.t 3)),(1,1,(.t 4))])::
oz (.store 2 (.t 2) (.t 5))::[])) .ret))
def pC:List ResultVar:=[.cell 2 23]
theorem iD:Eu Tryz.prog 184 6 1 m8 pC:=
  ⟨rfl,Tryz.f184,_,rfl,rfl,rfl,by decide,rfl,rfl,rfl⟩
noncomputable def m7:Aj:=(.seq (.reg (
 oo 4 (.mv z0)::[])) (.block 0 (.loop (.seq (.seq (.reg (
 om 6 0::
om 7 4::
oo 8 (.Ad (.t 1))::
⟨(some 9),none,(.call (.t 6) [(.t 7),(.t 8)])⟩::[])) (.cond (.t 9) .skip (.exit 0))) (.seq (.block 1 (.seq (.reg (
 oo 12 (.Ad (.t 1))::
oo 13 (.Ad (.t 2))::
oo 14 (.int .mul (.t 12) (.t 13))::
oo 15 (.Ls true (.t 14) (.c (Value.int .i64 1000)))::
om 5 15::[])) (.seq (.seq (.reg (
 om 16 5::
oo 17 (.Ad (.t 1))::
oo 18 (.int .eql (.t 16) (.t 17))::[])) (.cond (.t 18) .ret .skip)) (.reg (
 om 19 5::
oz (.store 1 (.t 1) (.t 19))::[]))))) (.reg (
 om 10 4::
oo 11 (.int .add (.t 10) z1)::
om 4 11::[])))))))
def pB:List ResultVar:=[]
theorem iC:Eu Tryz.prog 185 20 3 m7 pB:=
  ⟨rfl,Tryz.f185,_,rfl,rfl,rfl,by decide,rfl,rfl,rfl⟩
noncomputable def m6:Aj:=(.seq (.reg (
 oo 4 (.mv z0)::[])) (.seq (.seq (.reg (
 om 6 0::
oo 7 (.len (.t 6))::
oo 8 (.mv z0)::[])) (.block 0 (.loop (.seq (.reg (
 oo 9 (.int .lss (.t 8) (.t 7))::[])) (.seq (.cond (.t 9) .skip (.exit 0)) (.seq (.block 1 (.seq (.reg (
 om 10 8::
om 5 10::[])) (.seq (.reg (
 om 11 1::
om 12 0::
om 13 5::
oo 14 (.D4 1 (.t 12) (.t 13))::
oo 15 (.Ad (.t 14))::
oo 16 (.int .eql (.t 11) (.t 15))::[])) (.cond (.t 16) (.seq (.reg (
 om 17 5::
om 4 17::[])) .ret) .skip)))) (.reg (
 oo 18 (.int .add (.t 8) z1)::
om 8 18::[])))))))) (.seq (.reg (
 oo 4 (.mv (.c (Value.int .i64 (-1))))::[])) .ret)))
def pA:List ResultVar:=[.tmp 4]
theorem iB:Eu Tryz.prog 186 19 2 m6 pA:=
  ⟨rfl,Tryz.f186,_,rfl,rfl,rfl,by decide,rfl,rfl,rfl⟩
noncomputable def a194:Aj:=(.seq (.reg (
 oo 4 (.mv z0)::[])) (.seq (.seq (.reg (
 om 6 0::
oo 7 (.len (.t 6))::
oo 8 (.mv z0)::[])) (.block 0 (.loop (.seq (.reg (
 oo 9 (.int .lss (.t 8) (.t 7))::[])) (.seq (.cond (.t 9) .skip (.exit 0)) (.seq (.block 1 (.seq (.reg (
 om 10 8::
om 5 10::[])) (.seq (.reg (
 om 11 1::
om 12 0::
om 13 5::
oo 14 (.D4 4 (.t 12) (.t 13))::
oo 15 (.Bb 4 (.t 14))::
⟨(some 16),none,(.call (.t 11) [(.t 15)])⟩::[])) (.cond (.t 16) (.seq (.reg (
 om 17 5::
om 4 17::[])) .ret) .skip)))) (.reg (
 oo 18 (.int .add (.t 8) z1)::
om 8 18::[])))))))) (.seq (.reg (
 oo 4 (.mv (.c (Value.int .i64 (-1))))::[])) .ret)))
def pz:List ResultVar:=[.tmp 4]
theorem iA:Eu Tryz.prog 194 19 2 a194 pz:=
  ⟨rfl,Tryz.f194,_,rfl,rfl,rfl,by decide,rfl,rfl,rfl⟩
noncomputable def mZ:Aj:=(.seq (.reg (
 oo 2 (.alloc [k0,k0] 23)::[])) (.seq (.reg (
 om 3 0::
oo 4 (.build [k0,k0] [(0,1,z1),(1,1,(.t 3))])::
oz (.store 2 (.t 2) (.t 4))::[])) .ret))
def px:List ResultVar:=[.cell 2 23]
theorem iy:Eu Tryz.prog 195 5 1 mZ px:=
  ⟨rfl,Tryz.f195,_,rfl,rfl,rfl,by decide,rfl,rfl,rfl⟩
noncomputable def a196:Aj:=(.seq (.reg (
 oo 6 (.box (.t 2) 36)::
oo 8 (.mv (.c (Value.nilIface)))::[])) (.seq (.Ck (
 om 9 0::
oo 10 (.AY (.t 9))::
oo 11 (.Ab 0 (.t 10))::
oo 12 (.Ad (.t 11))::
oo 13 (.Ab 2 (.t 6))::
oo 14 (.Ad (.t 13))::
oo 15 (.int .add (.t 12) (.t 14))::
oo 16 (.AY (.t 9))::
oo 17 (.Ab 0 (.t 16))::
oz (.store 1 (.t 17) (.t 15))::[]) []) (.seq (.reg (
 oo 8 (.mv (.c (Value.nilIface)))::[])) .ret)))
def pq:List ResultVar:=[.tmp 8]
theorem iw:Eu Tryz.prog 196 18 4 a196 pq:=
  ⟨rfl,Tryz.f196,_,rfl,rfl,rfl,by decide,rfl,rfl,rfl⟩
noncomputable def jv:Aj:=(.seq (.reg (
 oo 6 (.box (.t 2) 36)::
oo 8 (.mv (.c (Value.nilIface)))::[])) (.seq (.seq (.reg (
 om 9 1::
oo 10 (.cmp (some false) true (.t 9) (.c (Value.pointer none)) (Iz Tryz.f197 1 1))::[])) (.cond (.t 10) (.seq (.reg (
 oo 11 (.build [k0] [(0,1,(.c (Value.int .i64 11)))])::
oo 12 (.Jw 422 (.t 11))::
om 8 12::[])) .ret) .skip)) (.seq (.Ck (
 om 13 0::
oo 14 (.AY (.t 13))::
oo 15 (.Ab 2 (.t 14))::
oo 16 (.Ad (.t 15))::
oo 17 (.Ab 1 (.t 6))::
oo 18 (.Ad (.t 17))::
oo 19 (.Ab 1 (.t 6))::
oo 20 (.Ad (.t 19))::
oo 21 (.Ab 2 (.t 6))::
oo 22 (.Ad (.t 21))::
oo 23 (.build [k0,k0,k0,k0,k0,k0,k0,k0] [(0,1,(.t 20)),(2,1,(.t 22))])::
oo 24 (.Ab 2 (.t 6))::
oo 25 (.Ad (.t 24))::
oo 26 (.Ab 3 (.t 6))::
oo 27 (.Ad (.t 26))::
oo 28 (.int .mul (.t 25) (.t 27))::
oo 29 (.int .add (.t 28) (.c (Value.int .i64 999)))::
oo 30 (.Ls true (.t 29) (.c (Value.int .i64 1000)))::
oo 31 (.build [k0,k0,k0,k0,k0,k0,k0,k0,k0] [(0,8,(.t 23)),(8,1,(.t 30))])::
oo 32 (.box (.t 31) 130)::
oz (.Fs 2 (.t 16) (.t 18) (.t 32))::[]) []) (.seq (.reg (
 oo 8 (.mv (.c (Value.nilIface)))::[])) .ret))))
def pg:List ResultVar:=[.tmp 8]
theorem ZF:Eu Tryz.prog 197 33 4 jv pg:=
  ⟨rfl,Tryz.f197,_,rfl,rfl,rfl,by decide,rfl,rfl,rfl⟩
noncomputable def a198:Aj:=(.seq (.reg (
 oo 6 (.box (.t 2) 36)::
oo 8 (.mv (.c (Value.nilIface)))::[])) (.seq (.seq (.reg (
 om 10 1::
oo 11 (.AY (.t 10))::
oo 12 (.Ab 0 (.t 11))::
oo 13 (.Ab 1 (.t 12))::
oo 14 (.Ad (.t 13))::
oo 15 (.int .neq (.t 14) z0)::[])) (.cond (.t 15) (.seq (.reg (
 oo 16 (.build [k0] [(0,1,(.c (Value.int .i64 9)))])::
oo 17 (.Jw 422 (.t 16))::
om 8 17::[])) .ret) .skip)) (.seq (.seq (.Ck (
 om 18 0::
oo 19 (.AY (.t 18))::
oo 20 (.Ab 0 (.t 19))::
oo 21 (.Ad (.t 20))::
om 22 1::
oo 23 (.AY (.t 22))::
oo 24 (.Ab 0 (.t 23))::
oo 25 (.Ab 2 (.t 24))::
oo 26 (.Ad (.t 25))::
oo 27 (.int .sub (.t 21) (.t 26))::
om 28 1::
oo 29 (.AY (.t 28))::
oo 30 (.Ab 8 (.t 29))::
oo 31 (.Ad (.t 30))::
oo 32 (.int .sub (.t 27) (.t 31))::
om 9 32::[]) []) (.seq (.reg (
 om 33 9::
oo 34 (.int .lss (.t 33) z0)::[])) (.cond (.t 34) (.seq (.reg (
 om 35 9::
oo 36 (.neg (.t 35))::
oo 37 (.build [k0] [(0,1,(.t 36))])::
oo 38 (.Jw 424 (.t 37))::
om 8 38::[])) .ret) .skip))) (.seq (.Ck (
 om 39 0::
oo 40 (.AY (.t 39))::
oo 41 (.Ab 0 (.t 40))::
oo 42 (.Ad (.t 41))::
om 43 1::
oo 44 (.AY (.t 43))::
oo 45 (.Ab 0 (.t 44))::
oo 46 (.Ab 2 (.t 45))::
oo 47 (.Ad (.t 46))::
om 48 1::
oo 49 (.AY (.t 48))::
oo 50 (.Ab 8 (.t 49))::
oo 51 (.Ad (.t 50))::
oo 52 (.int .add (.t 47) (.t 51))::
oo 53 (.int .sub (.t 42) (.t 52))::
oo 54 (.AY (.t 39))::
oo 55 (.Ab 0 (.t 54))::
oz (.store 1 (.t 55) (.t 53))::[]) []) (.seq (.Ck (
 om 56 0::
oo 57 (.AY (.t 56))::
oo 58 (.Ab 1 (.t 57))::
oo 59 (.Ad (.t 58))::
om 60 1::
oo 61 (.AY (.t 60))::
oo 62 (.Ab 8 (.t 61))::
oo 63 (.Ad (.t 62))::
oo 64 (.int .add (.t 59) (.t 63))::
oo 65 (.AY (.t 56))::
oo 66 (.Ab 1 (.t 65))::
oz (.store 1 (.t 66) (.t 64))::[]) []) (.seq (.reg (
 om 67 1::
oo 68 (.AY (.t 67))::
oo 69 (.Ab 0 (.t 68))::
oo 70 (.Ab 1 (.t 69))::
oz (.store 1 (.t 70) z1)::[])) (.seq (.reg (
 oo 8 (.mv (.c (Value.nilIface)))::[])) .ret)))))))
def o9:List ResultVar:=[.tmp 8]
theorem iu:Eu Tryz.prog 198 71 4 a198 o9:=
  ⟨rfl,Tryz.f198,_,rfl,rfl,rfl,by decide,rfl,rfl,rfl⟩
noncomputable def mY:Aj:=(.seq (.reg (
 oo 6 (.box (.t 2) 36)::
oo 8 (.mv (.c (Value.nilIface)))::[])) (.seq (.seq (.reg (
 om 9 1::
oo 10 (.AY (.t 9))::
oo 11 (.Ab 0 (.t 10))::
oo 12 (.Ab 1 (.t 11))::
oo 13 (.Ad (.t 12))::
oo 14 (.int .neq (.t 13) z1)::[])) (.cond (.t 14) (.seq (.reg (
 oo 15 (.build [k0] [(0,1,(.c (Value.int .i64 9)))])::
oo 16 (.Jw 422 (.t 15))::
om 8 16::[])) .ret) .skip)) (.seq (.reg (
 om 17 1::
oo 18 (.AY (.t 17))::
oo 19 (.Ab 0 (.t 18))::
oo 20 (.Ab 3 (.t 19))::
oo 21 (.Ad (.t 20))::
oo 22 (.int .add (.t 21) z1)::
oo 23 (.AY (.t 17))::
oo 24 (.Ab 0 (.t 23))::
oo 25 (.Ab 3 (.t 24))::
oz (.store 1 (.t 25) (.t 22))::[])) (.seq (.reg (
 om 26 1::
oo 27 (.AY (.t 26))::
oo 28 (.Ab 0 (.t 27))::
oo 29 (.Ab 4 (.t 28))::
oo 30 (.Ad (.t 29))::
oo 31 (.int .add (.t 30) z1)::
oo 32 (.AY (.t 26))::
oo 33 (.Ab 0 (.t 32))::
oo 34 (.Ab 4 (.t 33))::
oz (.store 1 (.t 34) (.t 31))::[])) (.seq (.Ck (
 om 35 0::
oo 36 (.AY (.t 35))::
oo 37 (.Ab 3 (.t 36))::
oo 38 (.Ad (.t 37))::
om 39 3::
om 40 0::
oo 41 (.AY (.t 40))::
oo 42 (.Ab 4 (.t 41))::
oo 43 (.Ad (.t 42))::
om 44 3::
oo 45 (.Ab 1 (.t 6))::
oo 46 (.Ad (.t 45))::
oo 47 (.Ez 3 (k0) (.t 38) (.t 39))::
oo 48 (.extract (.t 47) 1)::
oz (.GC (.t 38) (.t 48) z0)::
oo 49 (.Ez 3 (k0) (.t 43) (.t 44))::
oo 50 (.extract (.t 49) 1)::
oz (.GC (.t 43) (.t 50) (.t 46))::[]) [((.t 45),(.t 38)),((.t 45),(.t 38)),((.t 45),(.t 43))]) (.seq (.reg (
 oo 8 (.mv (.c (Value.nilIface)))::[])) .ret))))))
def o8:List ResultVar:=[.tmp 8]
theorem ik:Eu Tryz.prog 199 51 4 mY o8:=
  ⟨rfl,Tryz.f199,_,rfl,rfl,rfl,by decide,rfl,rfl,rfl⟩
noncomputable def mX:Aj:=(.seq (.reg (
 oo 6 (.box (.t 2) 36)::
oo 8 (.mv (.c (Value.nilIface)))::[])) (.seq (.seq (.reg (
 om 9 1::
oo 10 (.AY (.t 9))::
oo 11 (.Ab 0 (.t 10))::
oo 12 (.Ab 1 (.t 11))::
oo 13 (.Ad (.t 12))::
oo 14 (.int .neq (.t 13) z1)::[])) (.cond (.t 14) (.seq (.reg (
 oo 15 (.build [k0] [(0,1,(.c (Value.int .i64 9)))])::
oo 16 (.Jw 422 (.t 15))::
om 8 16::[])) .ret) .skip)) (.seq (.Ck (
 om 17 0::
oo 18 (.AY (.t 17))::
oo 19 (.Ab 0 (.t 18))::
oo 20 (.Ad (.t 19))::
om 21 1::
oo 22 (.AY (.t 21))::
oo 23 (.Ab 0 (.t 22))::
oo 24 (.Ab 2 (.t 23))::
oo 25 (.Ad (.t 24))::
oo 26 (.int .add (.t 20) (.t 25))::
oo 27 (.AY (.t 17))::
oo 28 (.Ab 0 (.t 27))::
oz (.store 1 (.t 28) (.t 26))::[]) []) (.seq (.reg (
 om 29 1::
oo 30 (.AY (.t 29))::
oo 31 (.Ab 0 (.t 30))::
oo 32 (.Ab 1 (.t 31))::
oz (.store 1 (.t 32) (.c (Value.int .i64 2)))::[])) (.seq (.reg (
 oo 8 (.mv (.c (Value.nilIface)))::[])) .ret)))))
def o7:List ResultVar:=[.tmp 8]
theorem ij:Eu Tryz.prog 200 33 4 mX o7:=
  ⟨rfl,Tryz.f200,_,rfl,rfl,rfl,by decide,rfl,rfl,rfl⟩
noncomputable def a201:Aj:=(.seq (.reg (
 oo 6 (.box (.t 2) 36)::
oo 8 (.mv (.c (Value.nilIface)))::[])) (.seq (.seq (.reg (
 om 11 1::
oo 12 (.AY (.t 11))::
oo 13 (.Ab 0 (.t 12))::
oo 14 (.Ab 4 (.t 13))::
oo 15 (.Ad (.t 14))::
oo 16 (.int .eql (.t 15) z0)::[])) (.cond (.t 16) (.seq (.reg (
 oo 17 (.build [k0] [(0,1,(.c (Value.int .i64 16)))])::
oo 18 (.Jw 422 (.t 17))::
om 8 18::[])) .ret) .skip)) (.seq (.Ck (
 om 19 1::
oo 20 (.AY (.t 19))::
oo 21 (.Ab 0 (.t 20))::
oo 22 (.Ab 5 (.t 21))::
oo 23 (.Ad (.t 22))::
om 24 1::
oo 25 (.AY (.t 24))::
oo 26 (.Ab 0 (.t 25))::
oo 27 (.Ab 4 (.t 26))::
oo 28 (.Ad (.t 27))::
oo 29 (.Ab 2 (.t 6))::
oo 30 (.Ad (.t 29))::
oo 31 (.int .mul (.t 28) (.t 30))::
oo 32 (.int .add (.t 23) (.t 31))::
oo 33 (.AY (.t 19))::
oo 34 (.Ab 0 (.t 33))::
oo 35 (.Ab 5 (.t 34))::
oz (.store 1 (.t 35) (.t 32))::[]) []) (.seq (.reg (
 om 36 1::
oo 37 (.AY (.t 36))::
oo 38 (.Ab 0 (.t 37))::
oo 39 (.Ab 4 (.t 38))::
oz (.store 1 (.t 39) z0)::[])) (.seq (.seq (.reg (
 om 40 0::
oo 41 (.AY (.t 40))::
oo 42 (.Ab 3 (.t 41))::
oo 43 (.Ad (.t 42))::
oo 44 (.EN (.t 43))::[])) (.block 0 (.loop (.seq (.next (.t 44) 45 46) (.seq (.cond (.t 46) .skip (.exit 0)) (.block 1 (.seq (.reg (
 oo 47 (.entry (.t 44))::
oo 48 (.extract (.t 47) 0)::
oo 49 (.extract (.t 47) 1)::
om 9 48::
om 10 49::[])) (.seq (.Ck (
 om 50 0::
oo 51 (.AY (.t 50))::
oo 52 (.Ab 4 (.t 51))::
oo 53 (.Ad (.t 52))::
om 54 9::
oo 55 (.lookup 3 (k0) false (.t 53) (.t 54))::
oo 56 (.Ab 1 (.t 6))::
oo 57 (.Ad (.t 56))::
oo 58 (.int .eql (.t 55) (.t 57))::
om 59 58::
og 60 59 true (.mv (.t 10))::
og 61 59 true (.int .eql (.t 60) z0)::
oo 62 (.pick (.t 59) (.t 61) (.c (Value.bool false)))::[]) []) (.cond (.t 62) (.Ck (
 om 63 0::
oo 64 (.AY (.t 63))::
oo 65 (.Ab 3 (.t 64))::
oo 66 (.Ad (.t 65))::
om 67 9::
oo 68 (.Ab 2 (.t 6))::
oo 69 (.Ad (.t 68))::
oz (.Fs 3 (.t 66) (.t 67) (.t 69))::[]) []) .skip))))))))) (.seq (.reg (
 oo 8 (.mv (.c (Value.nilIface)))::[])) .ret))))))
def o6:List ResultVar:=[.tmp 8]
theorem ZE:Tl Tryz.prog 201 70 4 a201 o6:=
  ⟨rfl,Tryz.f201,_,rfl,rfl,rfl,by decide,rfl,rfl,rfl⟩
noncomputable def mW:Aj:=(.seq (.reg (
 oo 6 (.box (.t 2) 36)::
oo 8 (.mv (.c (Value.nilIface)))::[])) (.seq (.seq (.Ck (
 oo 9 (.Ab 2 (.t 6))::
oo 10 (.Ad (.t 9))::
om 11 1::
oc 12 276 [(.t 11)]::
oo 13 (.int .gtr (.t 10) (.t 12))::[]) []) (.cond (.t 13) (.seq (.reg (
 oo 14 (.build [k0] [(0,1,(.c (Value.int .i64 4)))])::
oo 15 (.Jw 422 (.t 14))::
om 8 15::[])) .ret) .skip)) (.seq (.Ck (
 om 16 1::
oo 17 (.AY (.t 16))::
oo 18 (.Ab 0 (.t 17))::
oo 19 (.Ab 7 (.t 18))::
oo 20 (.Ad (.t 19))::
oo 21 (.Ab 2 (.t 6))::
oo 22 (.Ad (.t 21))::
oo 23 (.int .add (.t 20) (.t 22))::
oo 24 (.AY (.t 16))::
oo 25 (.Ab 0 (.t 24))::
oo 26 (.Ab 7 (.t 25))::
oz (.store 1 (.t 26) (.t 23))::[]) []) (.seq (.reg (
 oo 8 (.mv (.c (Value.nilIface)))::[])) .ret))))
def oZ:List ResultVar:=[.tmp 8]
theorem ig:Eu Tryz.prog 202 27 4 mW oZ:=
  ⟨rfl,Tryz.f202,_,rfl,rfl,rfl,by decide,rfl,rfl,rfl⟩
noncomputable def a203:Aj:=(.seq (.reg (
 oo 6 (.box (.t 2) 36)::
oo 8 (.mv (.c (Value.nilIface)))::[])) (.seq (.reg (
 oo 12 (.Ab 2 (.t 6))::
oo 13 (.Ad (.t 12))::
om 9 13::[])) (.seq (.reg (
 om 15 0::
oo 16 (.AY (.t 15))::
oo 17 (.Ab 3 (.t 16))::
oo 18 (.Ad (.t 17))::
om 19 9::
oo 20 (.lookup 3 (k0) true (.t 18) (.t 19))::
om 14 20::
oo 21 (.extract (.t 14) 0)::
oo 22 (.extract (.t 14) 1)::
om 10 21::
om 11 22::[])) (.seq (.seq (.Ck (
 om 23 11::
oo 24 (.not (.t 23))::
om 25 24::
og 26 25 false (.mv (.t 10))::
og 27 25 false (.int .eql (.t 26) z0)::
oo 28 (.pick (.t 25) (.c (Value.bool true)) (.t 27))::
om 29 28::
og 30 29 false (.mv (.t 0))::
og 31 29 false (.AY (.t 30))::
og 32 29 false (.Ab 4 (.t 31))::
og 33 29 false (.Ad (.t 32))::
og 34 29 false (.mv (.t 9))::
og 35 29 false (.lookup 3 (k0) false (.t 33) (.t 34))::
og 36 29 false (.Ab 1 (.t 6))::
og 37 29 false (.Ad (.t 36))::
og 38 29 false (.int .neq (.t 35) (.t 37))::
oo 39 (.pick (.t 29) (.c (Value.bool true)) (.t 38))::[]) []) (.cond (.t 39) (.seq (.reg (
 oo 40 (.build [k0] [(0,1,(.c (Value.int .i64 23)))])::
oo 41 (.Jw 422 (.t 40))::
om 8 41::[])) .ret) .skip)) (.seq (.reg (
 om 42 1::
oo 43 (.AY (.t 42))::
oo 44 (.Ab 0 (.t 43))::
oo 45 (.Ab 6 (.t 44))::
oo 46 (.Ad (.t 45))::
om 47 10::
oo 48 (.int .add (.t 46) (.t 47))::
oo 49 (.AY (.t 42))::
oo 50 (.Ab 0 (.t 49))::
oo 51 (.Ab 6 (.t 50))::
oz (.store 1 (.t 51) (.t 48))::[])) (.seq (.reg (
 om 52 0::
oo 53 (.AY (.t 52))::
oo 54 (.Ab 3 (.t 53))::
oo 55 (.Ad (.t 54))::
om 56 9::
oz (.delete 3 (.t 55) (.t 56))::[])) (.seq (.reg (
 oo 8 (.mv (.c (Value.nilIface)))::[])) .ret)))))))
def oY:List ResultVar:=[.tmp 8]
theorem hY:Eu Tryz.prog 203 57 4 a203 oY:=
  ⟨rfl,Tryz.f203,_,rfl,rfl,rfl,by decide,rfl,rfl,rfl⟩
noncomputable def a212:Aj:=(.seq (.reg (
 oo 0 (.mv (.c (Value.bool false)))::[])) (.seq (.reg (
 oc 1 279 []::
om 2 1::
Kw 3 2 true 280 []::
oo 4 (.pick (.t 2) (.t 3) (.c (Value.bool false)))::
om 5 4::
Kw 6 5 true 281 []::
oo 7 (.pick (.t 5) (.t 6) (.c (Value.bool false)))::
om 8 7::
Kw 9 8 true 282 []::
oo 10 (.pick (.t 8) (.t 9) (.c (Value.bool false)))::
om 0 10::[])) .ret))
def oX:List ResultVar:=[.tmp 0]
theorem g9:Eu Tryz.prog 212 11 0 a212 oX:=
  ⟨rfl,Tryz.f212,_,rfl,rfl,rfl,by decide,rfl,rfl,rfl⟩
noncomputable def mV:Aj:=(.seq (.reg (
 oo 4 (.mv (.c (Value.bool false)))::[])) (.seq (.reg (
 om 5 0::
om 6 1::
oc 7 362 [(.t 5),(.t 6)]::
oo 8 (.int .geq (.t 7) z0)::
om 4 8::[])) .ret))
def oW:List ResultVar:=[.tmp 4]
theorem g7:Eu Tryz.prog 267 9 2 mV oW:=
  ⟨rfl,Tryz.f267,_,rfl,rfl,rfl,by decide,rfl,rfl,rfl⟩
noncomputable def mU:Aj:=(.seq (.reg (
 oo 3 (.box (.t 0) 23)::
oo 4 (.mv (.c (Value.bool false)))::[])) (.seq (.reg (
 oo 5 (.Ab 0 (.t 3))::
oo 6 (.Ad (.t 5))::
oo 7 (.Ad (.t 1))::
oo 8 (.int .lss (.t 6) (.t 7))::
om 9 8::
og 10 9 false (.Ab 0 (.t 3))::
og 11 9 false (.Ad (.t 10))::
og 12 9 false (.Ab 1 (.t 3))::
og 13 9 false (.Ad (.t 12))::
og 14 9 false (.int .gtr (.t 11) (.t 13))::
oo 15 (.pick (.t 9) (.c (Value.bool true)) (.t 14))::
om 16 15::
og 17 16 false (.Ab 1 (.t 3))::
og 18 16 false (.Ad (.t 17))::
og 19 16 false (.Ad (.t 2))::
og 20 16 false (.int .gtr (.t 18) (.t 19))::
oo 21 (.pick (.t 16) (.c (Value.bool true)) (.t 20))::
om 4 21::[])) .ret))
def oV:List ResultVar:=[.tmp 4]
theorem gZ:Eu Tryz.prog 268 22 3 mU oV:=
  ⟨rfl,Tryz.f268,_,rfl,rfl,rfl,by decide,rfl,rfl,rfl⟩
noncomputable def mT:Aj:=(.seq (.reg (
 oo 2 (.mv z0)::[])) (.seq (.Ck (
 om 3 0::
oo 4 (.AY (.t 3))::
oo 5 (.Ab 0 (.t 4))::
oo 6 (.Ab 5 (.t 5))::
oo 7 (.Ad (.t 6))::
om 8 0::
oo 9 (.AY (.t 8))::
oo 10 (.Ab 0 (.t 9))::
oo 11 (.Ab 6 (.t 10))::
oo 12 (.Ad (.t 11))::
oo 13 (.int .sub (.t 7) (.t 12))::
om 14 0::
oo 15 (.AY (.t 14))::
oo 16 (.Ab 0 (.t 15))::
oo 17 (.Ab 7 (.t 16))::
oo 18 (.Ad (.t 17))::
oo 19 (.int .sub (.t 13) (.t 18))::
om 2 19::[]) []) .ret))
def oU:List ResultVar:=[.tmp 2]
theorem gY:Eu Tryz.prog 276 20 1 mT oU:=
  ⟨rfl,Tryz.f276,_,rfl,rfl,rfl,by decide,rfl,rfl,rfl⟩
noncomputable def mR:Aj:=(.seq (.reg (
 oo 4 (.mv z0)::[])) (.seq (.seq (.reg (
 om 6 0::
oo 7 (.len (.t 6))::
oo 8 (.mv z0)::[])) (.block 0 (.loop (.seq (.reg (
 oo 9 (.int .lss (.t 8) (.t 7))::[])) (.seq (.cond (.t 9) .skip (.exit 0)) (.seq (.block 1 (.seq (.reg (
 om 10 8::
om 5 10::[])) (.seq (.reg (
 om 11 1::
om 12 0::
om 13 5::
oo 14 (.D4 2 (.t 12) (.t 13))::
oo 15 (.Bb 2 (.t 14))::
⟨(some 16),none,(.call (.t 11) [(.t 15)])⟩::[])) (.cond (.t 16) (.seq (.reg (
 om 17 5::
om 4 17::[])) .ret) .skip)))) (.reg (
 oo 18 (.int .add (.t 8) z1)::
om 8 18::[])))))))) (.seq (.reg (
 oo 4 (.mv (.c (Value.int .i64 (-1))))::[])) .ret)))
def oQ:List ResultVar:=[.tmp 4]
theorem gV:Eu Tryz.prog 362 19 2 mR oQ:=
  ⟨rfl,Tryz.f362,_,rfl,rfl,rfl,by decide,rfl,rfl,rfl⟩
end AE.Tryz
