/- Made by gen3.py: the code of the functions, compiled for the evaluator; each is that of the program, by evaluation. -/
import Derived.Test.YtneenfjffejnoaaGreatProg
import Derived.Test.YtneenfjffejnoaaGreatAEtwo
set_option linter.unusedVariables false
set_option linter.unusedSimpArgs false
set_option linter.unusedSectionVars false
namespace AE.Tryz
open Go AE Go.Proofs
set_option maxRecDepth 1000000
set_option maxHeartbeats 4000000
abbrev oo (d:Nat) (x:B9):A7:=⟨some d,none,.op x⟩
abbrev og (d g:Nat) (b:Bool) (x:B9):A7:=⟨some d,some (g,b),.op x⟩
abbrev oz (x:B9):A7:=⟨none,none,.op x⟩
abbrev oc (d f:Nat) (l:List BH):A7:=⟨some d,none,.call (.c (Value.func (.func f) #[] #[])) l⟩
abbrev F6 (d g:Nat) (b:Bool) (f:Nat) (l:List BH):A7:=⟨some d,some (g,b),.call (.c (Value.func (.func f) #[] #[])) l⟩
abbrev om (d s:Nat):A7:=⟨some d,none,.op (.mv (.t s))⟩
abbrev z0:BH:=.c (Value.int .i64 0)
abbrev z1:BH:=.c (Value.int .i64 1)
abbrev k0:Value:=.int .i64 0
noncomputable def a3:Ay:=(.seq (.reg (
 oo 2 (.box (.t 0) 23)::
oo 4 (.mv (.c (Value.bool false)))::[])) (.seq (.seq (.reg (
 om 25 1::
oo 26 (.len (.t 25))::
oo 27 (.int .geq (.t 26) (.c (Value.int .i64 12)))::[])) (.cond (.t 27) (.seq (.reg (
 oc 28 7 []::
om 4 28::[])) .ret) .skip)) (.seq (.reg (
 oo 29 (.Az 2 (.t 2))::
oo 30 (.build [k0,k0,k0,k0] [(0,1,z1),(2,2,(.t 29))])::
oo 31 (.BF [k0,k0,k0,k0] [(0,4,(.t 30))] 1 27)::
om 5 31::[])) (.seq (.reg (
 oo 32 (.Az 2 (.t 2))::
oo 33 (.build [k0,k0,k0,k0,Value.slice none 0 0] [(0,1,z1),(1,1,z1),(2,2,(.t 32))])::
oo 6 (.alloc [k0,k0,k0,k0,Value.slice none 0 0] 31)::
oz (.store 5 (.t 6) (.t 33))::[])) (.seq (.seq (.reg (
 oo 7 (.mv z0)::[])) (.block 0 (.loop (.seq (.seq (.reg (
 om 34 7::
om 35 1::
oo 36 (.len (.t 35))::
oo 37 (.int .lss (.t 34) (.t 36))::[])) (.cond (.t 37) .skip (.exit 0))) (.seq (.block 1 (.seq (.reg (
 om 40 5::
om 41 1::
om 42 7::
oo 43 (.Bb 2 (.t 41) (.t 42))::
oo 44 (.Az 2 (.t 43))::
oo 45 (.build [k0,k0,k0,k0] [(0,1,z1),(1,1,z1),(2,2,(.t 44))])::
oo 46 (.BF [k0,k0,k0,k0] [(0,4,(.t 45))] 1 27)::
oo 47 (.append 27 4 32 (.t 40) (.t 46))::
om 5 47::[])) (.BN (
 oo 48 (.Ai 4 (.t 6))::
oo 49 (.Af (.t 48))::
om 50 1::
om 51 7::
oo 52 (.Bb 2 (.t 50) (.t 51))::
oo 53 (.Az 2 (.t 52))::
oo 54 (.build [k0,k0,k0,k0] [(2,2,(.t 53))])::
oo 55 (.BF [k0,k0,k0,k0] [(0,4,(.t 54))] 1 33)::
oo 56 (.append 33 4 32 (.t 49) (.t 55))::
oo 57 (.Ai 4 (.t 6))::
oz (.store 1 (.t 57) (.t 56))::[]) []))) (.reg (
 om 38 7::
oo 39 (.int .add (.t 38) z1)::
om 7 39::[]))))))) (.seq (.seq (.reg (
 om 58 5::
oc 59 8 [(.t 58)]::
oo 60 (.int .neq (.t 59) z0)::
om 61 60::
og 62 61 false (.Az 5 (.t 6))::
F6 63 61 false 9 [(.t 62)]::
og 64 61 false (.int .neq (.t 63) z0)::
oo 65 (.pick (.t 61) (.c (Value.bool true)) (.t 64))::[])) (.cond (.t 65) (.seq (.reg (
 oc 66 7 []::
om 4 66::[])) .ret) .skip)) (.seq (.reg (
 oo 68 (.Az 5 (.t 6))::
oc 69 10 [(.t 68)]::
om 67 69::
oo 70 (.extract (.t 67) 0)::
oo 71 (.extract (.t 67) 1)::
oo 8 (.alloc [Value.slice none 0 0,Value.slice none 0 0] 39)::
oz (.store 2 (.t 8) (.t 70))::
om 9 71::[])) (.seq (.reg (
 om 73 5::
oc 74 11 [(.t 73)]::
om 72 74::
oo 75 (.extract (.t 72) 0)::
oo 76 (.extract (.t 72) 1)::
oo 10 (.alloc [k0,k0,k0] 43)::
oz (.store 3 (.t 10) (.t 75))::
om 11 76::[])) (.seq (.seq (.reg (
 om 77 9::
om 78 11::
oo 79 (.int .neq (.t 77) (.t 78))::[])) (.cond (.t 79) (.seq (.reg (
 oo 4 (.mv (.c (Value.bool false)))::[])) .ret) .skip)) (.seq (.seq (.reg (
 om 80 9::
oo 81 (.int .neq (.t 80) z0)::[])) (.cond (.t 81) (.seq (.reg (
 oo 83 (.Az 5 (.t 6))::
oc 84 12 [(.t 83)]::
om 82 84::
oo 85 (.extract (.t 82) 0)::
oo 86 (.extract (.t 82) 1)::
om 12 85::
om 13 86::[])) (.seq (.reg (
 om 88 5::
oc 89 13 [(.t 88)]::
om 87 89::
oo 90 (.extract (.t 87) 0)::
oo 91 (.extract (.t 87) 1)::
oo 14 (.alloc [Value.slice none 0 0,k0] 51)::
oz (.store 2 (.t 14) (.t 90))::
om 15 91::[])) (.seq (.reg (
 oo 93 (.Az 5 (.t 6))::
om 94 12::
oc 95 14 [(.t 93),(.t 94)]::
om 92 95::
oo 96 (.extract (.t 92) 0)::
oo 97 (.extract (.t 92) 1)::
om 16 96::
om 17 97::[])) (.seq (.reg (
 om 99 5::
oo 100 (.Az 2 (.t 14))::
oc 101 15 [(.t 99),z0,z0,(.t 100)]::
om 98 101::
oo 102 (.extract (.t 98) 0)::
oo 103 (.extract (.t 98) 1)::
oo 18 (.alloc [k0,k0] 57)::
oz (.store 2 (.t 18) (.t 102))::
om 19 103::[])) (.seq (.reg (
 om 104 9::
oo 105 (.int .eql (.t 104) (.c (Value.int .i64 20)))::
om 106 105::
og 107 106 true (.mv (.t 13))::
og 108 106 true (.int .eql (.t 107) z0)::
oo 109 (.pick (.t 106) (.t 108) (.c (Value.bool false)))::
om 110 109::
og 111 110 true (.mv (.t 15))::
og 112 110 true (.int .eql (.t 111) z0)::
oo 113 (.pick (.t 110) (.t 112) (.c (Value.bool false)))::
om 114 113::
og 115 114 true (.mv (.t 17))::
og 116 114 true (.int .eql (.t 115) z0)::
oo 117 (.pick (.t 114) (.t 116) (.c (Value.bool false)))::
om 118 117::
og 119 118 true (.mv (.t 19))::
og 120 118 true (.int .eql (.t 119) z0)::
oo 121 (.pick (.t 118) (.t 120) (.c (Value.bool false)))::
om 122 121::
og 123 122 true (.Ai 0 (.t 18))::
og 124 122 true (.Af (.t 123))::
og 125 122 true (.int .gtr (.t 124) z0)::
oo 126 (.pick (.t 122) (.t 125) (.c (Value.bool false)))::
om 127 126::
F6 128 127 true 7 []::
oo 129 (.pick (.t 127) (.t 128) (.c (Value.bool false)))::
om 4 129::[])) .ret))))) .skip)) (.seq (.seq (.BN (
 oo 130 (.Az 5 (.t 6))::
oo 131 (.Az 2 (.t 8))::
oc 132 16 [(.t 130),(.t 131)]::
oo 133 (.int .neq (.t 132) z0)::
om 134 133::
og 135 134 false (.mv (.t 5))::
og 136 134 false (.Az 3 (.t 10))::
F6 137 134 false 17 [(.t 135),(.t 136)]::
og 138 134 false (.int .neq (.t 137) z0)::
oo 139 (.pick (.t 134) (.c (Value.bool true)) (.t 138))::
om 140 139::
og 141 140 false (.mv (.t 5))::
og 142 140 false (.Ai 0 (.t 8))::
og 143 140 false (.Af (.t 142))::
og 144 140 false (.Bb 1 (.t 143) z0)::
og 145 140 false (.Af (.t 144))::
og 146 140 false (.Ai 1 (.t 8))::
og 147 140 false (.Af (.t 146))::
og 148 140 false (.Bb 1 (.t 147) z0)::
og 149 140 false (.Af (.t 148))::
og 150 140 false (.build [k0,k0,k0] [(0,1,(.t 145)),(1,1,(.t 149)),(2,1,z1)])::
F6 151 140 false 18 [(.t 141),(.t 150)]::
og 152 140 false (.int .neq (.t 151) z0)::
oo 153 (.pick (.t 140) (.c (Value.bool true)) (.t 152))::[]) []) (.cond (.t 153) (.seq (.reg (
 oo 4 (.mv (.c (Value.bool false)))::[])) .ret) .skip)) (.seq (.reg (
 oo 155 (.Az 5 (.t 6))::
oc 156 19 [(.t 155),z0]::
om 154 156::
oo 157 (.extract (.t 154) 0)::
oo 158 (.extract (.t 154) 1)::
oo 20 (.alloc [k0,k0] 23)::
oz (.store 2 (.t 20) (.t 157))::
om 9 158::[])) (.seq (.reg (
 om 160 5::
oc 161 20 [(.t 160),z0,z1]::
om 159 161::
oo 162 (.extract (.t 159) 0)::
oo 163 (.extract (.t 159) 1)::
oo 21 (.alloc [k0,k0] 57)::
oz (.store 2 (.t 21) (.t 162))::
om 22 163::[])) (.seq (.reg (
 om 165 5::
oc 166 20 [(.t 165),z0,(.c (Value.int .i64 (-1)))]::
om 164 166::
oo 167 (.extract (.t 164) 0)::
oo 168 (.extract (.t 164) 1)::
oo 23 (.alloc [k0,k0] 57)::
oz (.store 2 (.t 23) (.t 167))::
om 24 168::[])) (.seq (.seq (.reg (
 om 169 1::
oo 170 (.len (.t 169))::
oo 171 (.int .eql (.t 170) z0)::[])) (.cond (.t 171) (.seq (.reg (
 om 172 9::
oo 173 (.int .eql (.t 172) (.c (Value.int .i64 5)))::
om 174 173::
og 175 174 true (.mv (.t 22))::
og 176 174 true (.int .eql (.t 175) (.c (Value.int .i64 5)))::
oo 177 (.pick (.t 174) (.t 176) (.c (Value.bool false)))::
om 178 177::
og 179 178 true (.mv (.t 24))::
og 180 178 true (.int .eql (.t 179) (.c (Value.int .i64 5)))::
oo 181 (.pick (.t 178) (.t 180) (.c (Value.bool false)))::
om 182 181::
F6 183 182 true 7 []::
oo 184 (.pick (.t 182) (.t 183) (.c (Value.bool false)))::
om 4 184::[])) .ret) .skip)) (.seq (.reg (
 om 185 9::
oo 186 (.int .eql (.t 185) z0)::
om 187 186::
og 188 187 true (.mv (.t 22))::
og 189 187 true (.int .eql (.t 188) z0)::
oo 190 (.pick (.t 187) (.t 189) (.c (Value.bool false)))::
om 191 190::
og 192 191 true (.mv (.t 24))::
og 193 191 true (.int .eql (.t 192) z0)::
oo 194 (.pick (.t 191) (.t 193) (.c (Value.bool false)))::
om 195 194::
og 196 195 true (.Az 2 (.t 21))::
og 197 195 true (.Ai 0 (.t 20))::
og 198 195 true (.Af (.t 197))::
og 199 195 true (.build [k0,k0] [(0,1,(.t 198)),(1,1,z1)])::
og 200 195 true (.pure (Fa Tryz.f3 29 15))::
oo 201 (.pick (.t 195) (.t 200) (.c (Value.bool false)))::
om 202 201::
og 203 202 true (.Az 2 (.t 23))::
og 204 202 true (.Ai 1 (.t 20))::
og 205 202 true (.Af (.t 204))::
og 206 202 true (.neg (.t 205))::
og 207 202 true (.build [k0,k0] [(0,1,(.t 206)),(1,1,z1)])::
og 208 202 true (.pure (Fa Tryz.f3 29 23))::
oo 209 (.pick (.t 202) (.t 208) (.c (Value.bool false)))::
om 210 209::
F6 211 210 true 7 []::
oo 212 (.pick (.t 210) (.t 211) (.c (Value.bool false)))::
om 4 212::[])) .ret))))))))))))))))
def r3:List ResultVar:=[.tmp 4]
theorem Ano:Cf Tryz.prog 3 213 2 a3 r3:=
  ⟨rfl,Tryz.f3,_,rfl,rfl,rfl,by decide,rfl,rfl,rfl⟩
noncomputable def a7:Ay:=(.seq (.reg (
 oo 0 (.mv (.c (Value.bool false)))::[])) (.seq (.reg (
 oc 1 32 []::
om 2 1::
F6 3 2 true 33 []::
oo 4 (.pick (.t 2) (.t 3) (.c (Value.bool false)))::
om 5 4::
F6 6 5 true 34 []::
oo 7 (.pick (.t 5) (.t 6) (.c (Value.bool false)))::
om 0 7::[])) .ret))
def r7:List ResultVar:=[.tmp 0]
theorem Ank:Cf Tryz.prog 7 8 0 a7 r7:=
  ⟨rfl,Tryz.f7,_,rfl,rfl,rfl,by decide,rfl,rfl,rfl⟩
noncomputable def a8:Ay:=(.seq (.reg (
 oo 2 (.mv z0)::[])) (.seq (.seq (.reg (
 om 4 0::
oo 5 (.len (.t 4))::
oo 6 (.int .gtr (.t 5) (.c (Value.int .i64 12)))::[])) (.cond (.t 6) (.seq (.reg (
 oo 2 (.mv (.c (Value.int .i64 6)))::[])) .ret) .skip)) (.seq (.seq (.reg (
 oo 3 (.mv z0)::[])) (.block 0 (.loop (.seq (.seq (.reg (
 om 7 3::
om 8 0::
oo 9 (.len (.t 8))::
oo 10 (.int .lss (.t 7) (.t 9))::[])) (.cond (.t 10) .skip (.exit 0))) (.seq (.block 1 (.seq (.reg (
 om 13 0::
om 14 3::
oo 15 (.Bb 4 (.t 13) (.t 14))::
oo 16 (.Ai 0 (.t 15))::
oo 17 (.Af (.t 16))::
oc 18 35 [(.t 17)]::
oo 19 (.not (.t 18))::
om 20 19::
og 21 20 false (.mv (.t 0))::
og 22 20 false (.mv (.t 3))::
og 23 20 false (.Bb 4 (.t 21) (.t 22))::
og 24 20 false (.Ai 1 (.t 23))::
og 25 20 false (.Af (.t 24))::
F6 26 20 false 35 [(.t 25)]::
og 27 20 false (.not (.t 26))::
oo 28 (.pick (.t 20) (.c (Value.bool true)) (.t 27))::
om 29 28::
og 30 29 false (.mv (.t 0))::
og 31 29 false (.mv (.t 3))::
og 32 29 false (.Bb 4 (.t 30) (.t 31))::
og 33 29 false (.Ai 0 (.t 32))::
og 34 29 false (.Af (.t 33))::
og 35 29 false (.int .eql (.t 34) z0)::
og 36 29 false (.mv (.t 35))::
og 37 36 true (.mv (.t 0))::
og 38 36 true (.mv (.t 3))::
og 39 36 true (.Bb 4 (.t 37) (.t 38))::
og 40 36 true (.Ai 1 (.t 39))::
og 41 36 true (.Af (.t 40))::
og 42 36 true (.int .eql (.t 41) z0)::
og 43 29 false (.pick (.t 36) (.t 42) (.c (Value.bool false)))::
oo 44 (.pick (.t 29) (.c (Value.bool true)) (.t 43))::
om 45 44::
og 46 45 false (.mv (.t 0))::
og 47 45 false (.mv (.t 3))::
og 48 45 false (.Bb 4 (.t 46) (.t 47))::
og 49 45 false (.Ai 2 (.t 48))::
og 50 45 false (.Az 2 (.t 49))::
F6 51 45 false 36 [(.t 50)]::
og 52 45 false (.not (.t 51))::
oo 53 (.pick (.t 45) (.c (Value.bool true)) (.t 52))::[])) (.cond (.t 53) (.seq (.reg (
 oo 2 (.mv (.c (Value.int .i64 2)))::[])) .ret) .skip))) (.reg (
 om 11 3::
oo 12 (.int .add (.t 11) z1)::
om 3 12::[]))))))) (.seq (.reg (
 oo 2 (.mv z0)::[])) .ret))))
def r8:List ResultVar:=[.tmp 2]
theorem Anj:Cf Tryz.prog 8 54 1 a8 r8:=
  ⟨rfl,Tryz.f8,_,rfl,rfl,rfl,by decide,rfl,rfl,rfl⟩
noncomputable def a9:Ay:=(.seq (.reg (
 oo 1 (.box (.t 0) 31)::
oo 2 (.mv z0)::[])) (.seq (.seq (.reg (
 oo 6 (.Ai 4 (.t 1))::
oo 7 (.Af (.t 6))::
oo 8 (.len (.t 7))::
oo 9 (.int .gtr (.t 8) (.c (Value.int .i64 24)))::[])) (.cond (.t 9) (.seq (.reg (
 oo 2 (.mv (.c (Value.int .i64 6)))::[])) .ret) .skip)) (.seq (.seq (.reg (
 oo 10 (.Ai 0 (.t 1))::
oo 11 (.Af (.t 10))::
oo 12 (.int .lss (.t 11) z1)::
om 13 12::
og 14 13 false (.Ai 0 (.t 1))::
og 15 13 false (.Af (.t 14))::
og 16 13 false (.int .gtr (.t 15) (.c (Value.int .i64 6)))::
oo 17 (.pick (.t 13) (.c (Value.bool true)) (.t 16))::
om 18 17::
og 19 18 false (.Ai 1 (.t 1))::
og 20 18 false (.Af (.t 19))::
og 21 18 false (.int .lss (.t 20) z1)::
oo 22 (.pick (.t 18) (.c (Value.bool true)) (.t 21))::
om 23 22::
og 24 23 false (.Ai 1 (.t 1))::
og 25 23 false (.Af (.t 24))::
og 26 23 false (.int .gtr (.t 25) (.c (Value.int .i64 6)))::
oo 27 (.pick (.t 23) (.c (Value.bool true)) (.t 26))::
om 28 27::
og 29 28 false (.Ai 2 (.t 1))::
og 30 28 false (.Az 2 (.t 29))::
F6 31 28 false 37 [(.t 30)]::
og 32 28 false (.not (.t 31))::
oo 33 (.pick (.t 28) (.c (Value.bool true)) (.t 32))::[])) (.cond (.t 33) (.seq (.reg (
 oo 2 (.mv (.c (Value.int .i64 2)))::[])) .ret) .skip)) (.seq (.seq (.reg (
 oo 3 (.mv z0)::[])) (.block 0 (.loop (.seq (.seq (.reg (
 om 34 3::
oo 35 (.Ai 4 (.t 1))::
oo 36 (.Af (.t 35))::
oo 37 (.len (.t 36))::
oo 38 (.int .lss (.t 34) (.t 37))::[])) (.cond (.t 38) .skip (.exit 0))) (.seq (.block 1 (.seq (.reg (
 oo 41 (.Ai 4 (.t 1))::
oo 42 (.Af (.t 41))::
om 43 3::
oo 44 (.Bb 4 (.t 42) (.t 43))::
oo 45 (.Az 4 (.t 44))::
oo 4 (.alloc [k0,k0,k0,k0] 33)::
oz (.store 4 (.t 4) (.t 45))::[])) (.seq (.reg (
 oo 46 (.Ai 0 (.t 4))::
oo 47 (.Af (.t 46))::
oo 48 (.int .lss (.t 47) z0)::
om 49 48::
og 50 49 false (.Ai 0 (.t 4))::
og 51 49 false (.Af (.t 50))::
og 52 49 false (.Ai 0 (.t 1))::
og 53 49 false (.Af (.t 52))::
og 54 49 false (.int .geq (.t 51) (.t 53))::
oo 55 (.pick (.t 49) (.c (Value.bool true)) (.t 54))::
om 56 55::
og 57 56 false (.Ai 1 (.t 4))::
og 58 56 false (.Af (.t 57))::
og 59 56 false (.int .lss (.t 58) z0)::
oo 60 (.pick (.t 56) (.c (Value.bool true)) (.t 59))::
om 61 60::
og 62 61 false (.Ai 1 (.t 4))::
og 63 61 false (.Af (.t 62))::
og 64 61 false (.Ai 1 (.t 1))::
og 65 61 false (.Af (.t 64))::
og 66 61 false (.int .geq (.t 63) (.t 65))::
oo 67 (.pick (.t 61) (.c (Value.bool true)) (.t 66))::[])) (.cond (.t 67) (.seq (.reg (
 oo 2 (.mv (.c (Value.int .i64 3)))::[])) .ret) .skip)))) (.reg (
 om 39 3::
oo 40 (.int .add (.t 39) z1)::
om 3 40::[]))))))) (.seq (.seq (.reg (
 oo 5 (.mv z0)::[])) (.block 2 (.loop (.seq (.seq (.reg (
 om 68 5::
oo 69 (.Ai 4 (.t 1))::
oo 70 (.Af (.t 69))::
oo 71 (.len (.t 70))::
oo 72 (.int .lss (.t 68) (.t 71))::[])) (.cond (.t 72) .skip (.exit 2))) (.seq (.block 3 (.seq (.reg (
 oo 75 (.Ai 4 (.t 1))::
oo 76 (.Af (.t 75))::
om 77 5::
oo 78 (.Bb 4 (.t 76) (.t 77))::
oo 79 (.Ai 2 (.t 78))::
oo 80 (.Az 2 (.t 79))::
oc 81 37 [(.t 80)]::
oo 82 (.not (.t 81))::[])) (.cond (.t 82) (.seq (.reg (
 oo 2 (.mv (.c (Value.int .i64 2)))::[])) .ret) .skip))) (.reg (
 om 73 5::
oo 74 (.int .add (.t 73) z1)::
om 5 74::[]))))))) (.seq (.reg (
 oo 2 (.mv z0)::[])) .ret))))))
def r9:List ResultVar:=[.tmp 2]
theorem Ani:Cf Tryz.prog 9 83 1 a9 r9:=
  ⟨rfl,Tryz.f9,_,rfl,rfl,rfl,by decide,rfl,rfl,rfl⟩
noncomputable def a10:Ay:=(.seq (.reg (
 oo 1 (.box (.t 0) 31)::
oo 2 (.alloc [Value.slice none 0 0,Value.slice none 0 0] 39)::
oo 3 (.mv z0)::[])) (.seq (.seq (.reg (
 oo 7 (.Az 5 (.t 1))::
oc 8 38 [(.t 7)]::
om 4 8::[])) (.seq (.reg (
 om 9 4::
oo 10 (.int .neq (.t 9) z0)::[])) (.cond (.t 10) (.seq (.reg (
 oo 11 (.build [Value.slice none 0 0,Value.slice none 0 0] [])::
om 12 4::
oz (.store 2 (.t 2) (.t 11))::
om 3 12::[])) .ret) .skip))) (.seq (.reg (
 oo 14 (.Az 5 (.t 1))::
oc 15 39 [(.t 14)]::
oc 16 40 [(.t 15)]::
om 13 16::
oo 17 (.extract (.t 13) 0)::
oo 18 (.extract (.t 13) 1)::
om 5 17::
om 6 18::[])) (.seq (.seq (.reg (
 om 19 6::
oo 20 (.not (.t 19))::[])) (.cond (.t 20) (.seq (.reg (
 oo 21 (.build [Value.slice none 0 0,Value.slice none 0 0] [])::
oz (.store 2 (.t 2) (.t 21))::
oo 3 (.mv (.c (Value.int .i64 20)))::[])) .ret) .skip)) (.seq (.reg (
 om 22 5::
oc 23 41 [(.t 22),z1]::
oz (.store 2 (.t 2) (.t 23))::
oo 3 (.mv z0)::[])) .ret)))))
def r10:List ResultVar:=[.cell 2 39,.tmp 3]
theorem Ags:Cf Tryz.prog 10 24 1 a10 r10:=
  ⟨rfl,Tryz.f10,_,rfl,rfl,rfl,by decide,rfl,rfl,rfl⟩
noncomputable def a11:Ay:=(.seq (.reg (
 oo 2 (.alloc [k0,k0,k0] 43)::
oo 3 (.mv z0)::[])) (.seq (.reg (
 om 4 0::
oc 5 42 [(.t 4),z0,z0]::
oo 6 (.extract (.t 5) 0)::
oo 7 (.extract (.t 5) 1)::
oz (.store 3 (.t 2) (.t 6))::
om 3 7::[])) .ret))
def r11:List ResultVar:=[.cell 2 43,.tmp 3]
theorem Agq:Cf Tryz.prog 11 8 1 a11 r11:=
  ⟨rfl,Tryz.f11,_,rfl,rfl,rfl,by decide,rfl,rfl,rfl⟩
noncomputable def a12:Ay:=(.seq (.reg (
 oo 1 (.box (.t 0) 31)::
oo 2 (.mv (.c (Value.slice none 0 0)))::
oo 3 (.mv z0)::[])) (.seq (.seq (.reg (
 oo 7 (.Az 5 (.t 1))::
oc 8 38 [(.t 7)]::
om 4 8::[])) (.seq (.reg (
 om 9 4::
oo 10 (.int .neq (.t 9) z0)::[])) (.cond (.t 10) (.seq (.reg (
 om 11 4::
oo 2 (.mv (.c (Value.slice none 0 0)))::
om 3 11::[])) .ret) .skip))) (.seq (.reg (
 oo 13 (.Az 5 (.t 1))::
oc 14 39 [(.t 13)]::
oc 15 40 [(.t 14)]::
om 12 15::
oo 16 (.extract (.t 12) 0)::
oo 17 (.extract (.t 12) 1)::
om 5 16::
om 6 17::[])) (.seq (.seq (.reg (
 om 18 6::[])) (.cond (.t 18) (.seq (.reg (
 oo 2 (.mv (.c (Value.slice none 0 0)))::
oo 3 (.mv (.c (Value.int .i64 5)))::[])) .ret) .skip)) (.seq (.reg (
 om 19 5::
oc 20 43 [(.t 19)]::
om 2 20::
oo 3 (.mv z0)::[])) .ret)))))
def r12:List ResultVar:=[.tmp 2,.tmp 3]
theorem Agp:Cf Tryz.prog 12 21 1 a12 r12:=
  ⟨rfl,Tryz.f12,_,rfl,rfl,rfl,by decide,rfl,rfl,rfl⟩
noncomputable def a13:Ay:=(.seq (.reg (
 oo 2 (.alloc [Value.slice none 0 0,k0] 51)::
oo 3 (.mv z0)::[])) (.seq (.seq (.reg (
 om 7 0::
oc 8 44 [(.t 7)]::
om 4 8::[])) (.seq (.reg (
 om 9 4::
oo 10 (.int .neq (.t 9) z0)::[])) (.cond (.t 10) (.seq (.reg (
 oo 11 (.build [Value.slice none 0 0,k0] [])::
om 12 4::
oz (.store 2 (.t 2) (.t 11))::
om 3 12::[])) .ret) .skip))) (.seq (.seq (.reg (
 om 14 0::
oc 15 45 [(.t 14)]::
oc 16 46 [(.t 15)]::
om 13 16::
oo 17 (.extract (.t 13) 0)::
oo 18 (.extract (.t 13) 1)::
oo 5 (.alloc [Value.map none,k0,k0,k0,k0] 111)::
oz (.store 5 (.t 5) (.t 17))::
om 6 18::[])) (.seq (.reg (
 om 19 6::[])) (.cond (.t 19) (.seq (.reg (
 oo 20 (.Az 5 (.t 5))::
oc 21 47 [(.t 20)]::
oz (.store 2 (.t 2) (.t 21))::
oo 3 (.mv z0)::[])) .ret) .skip))) (.seq (.reg (
 oo 22 (.build [Value.slice none 0 0,k0] [])::
oz (.store 2 (.t 2) (.t 22))::
oo 3 (.mv (.c (Value.int .i64 5)))::[])) .ret))))
def r13:List ResultVar:=[.cell 2 51,.tmp 3]
theorem Ago:Cf Tryz.prog 13 23 1 a13 r13:=
  ⟨rfl,Tryz.f13,_,rfl,rfl,rfl,by decide,rfl,rfl,rfl⟩
noncomputable def a14:Ay:=(.seq (.reg (
 oo 2 (.box (.t 0) 31)::
oo 4 (.mv z0)::
oo 5 (.mv z0)::[])) (.seq (.seq (.reg (
 oo 11 (.Az 5 (.t 2))::
oc 12 9 [(.t 11)]::
oo 13 (.int .neq (.t 12) z0)::[])) (.cond (.t 13) (.seq (.reg (
 oo 14 (.Az 5 (.t 2))::
oc 15 9 [(.t 14)]::
oo 4 (.mv z0)::
om 5 15::[])) .ret) .skip)) (.seq (.seq (.reg (
 om 16 1::
oo 17 (.len (.t 16))::
oo 18 (.int .lss (.t 17) (.c (Value.int .i64 2)))::
om 19 18::
og 20 19 false (.mv (.t 1))::
og 21 19 false (.len (.t 20))::
og 22 19 false (.int .gtr (.t 21) (.c (Value.int .i64 4096)))::
oo 23 (.pick (.t 19) (.c (Value.bool true)) (.t 22))::[])) (.cond (.t 23) (.seq (.reg (
 oo 4 (.mv z0)::
oo 5 (.mv (.c (Value.int .i64 6)))::[])) .ret) .skip)) (.seq (.reg (
 oo 24 (.Az 5 (.t 2))::
oc 25 48 [(.t 24)]::
om 6 25::[])) (.seq (.seq (.reg (
 oo 7 (.mv z0)::[])) (.block 0 (.loop (.seq (.seq (.reg (
 om 26 7::
om 27 1::
oo 28 (.len (.t 27))::
oo 29 (.int .lss (.t 26) (.t 28))::[])) (.cond (.t 29) .skip (.exit 0))) (.seq (.block 1 (.seq (.reg (
 om 32 1::
om 33 7::
oo 34 (.Bb 1 (.t 32) (.t 33))::
oo 35 (.Af (.t 34))::
oo 36 (.int .lss (.t 35) z0)::
om 37 36::
og 38 37 false (.mv (.t 1))::
og 39 37 false (.mv (.t 7))::
og 40 37 false (.Bb 1 (.t 38) (.t 39))::
og 41 37 false (.Af (.t 40))::
og 42 37 false (.mv (.t 6))::
og 43 37 false (.len (.t 42))::
og 44 37 false (.int .geq (.t 41) (.t 43))::
oo 45 (.pick (.t 37) (.c (Value.bool true)) (.t 44))::[])) (.cond (.t 45) (.seq (.reg (
 oo 4 (.mv z0)::
oo 5 (.mv (.c (Value.int .i64 3)))::[])) .ret) .skip))) (.reg (
 om 30 7::
oo 31 (.int .add (.t 30) z1)::
om 7 31::[]))))))) (.seq (.reg (
 oo 8 (.mv z0)::[])) (.seq (.seq (.reg (
 oo 9 (.mv z1)::[])) (.block 2 (.loop (.seq (.seq (.reg (
 om 46 9::
om 47 1::
oo 48 (.len (.t 47))::
oo 49 (.int .lss (.t 46) (.t 48))::[])) (.cond (.t 49) .skip (.exit 2))) (.seq (.block 3 (.seq (.BN (
 om 52 6::
om 53 1::
om 54 9::
oo 55 (.int .sub (.t 54) z1)::
oo 56 (.Bb 1 (.t 53) (.t 55))::
oo 57 (.Af (.t 56))::
oo 58 (.Bb 1 (.t 52) (.t 57))::
oo 59 (.Af (.t 58))::
om 60 1::
om 61 9::
oo 62 (.Bb 1 (.t 60) (.t 61))::
oo 63 (.Af (.t 62))::
oo 64 (.Bb 1 (.t 59) (.t 63))::
oo 65 (.Af (.t 64))::
om 10 65::[]) []) (.seq (.seq (.reg (
 om 66 10::
oo 67 (.int .eql (.t 66) (.c (Value.int .i64 1125899906842624)))::[])) (.cond (.t 67) (.seq (.reg (
 oo 4 (.mv z0)::
oo 5 (.mv (.c (Value.int .i64 16)))::[])) .ret) .skip)) (.reg (
 om 68 8::
om 69 10::
oo 70 (.int .add (.t 68) (.t 69))::
om 8 70::[]))))) (.reg (
 om 50 9::
oo 51 (.int .add (.t 50) z1)::
om 9 51::[]))))))) (.seq (.seq (.BN (
 om 71 1::
oo 72 (.Bb 1 (.t 71) z0)::
oo 73 (.Af (.t 72))::
om 74 1::
om 75 1::
oo 76 (.len (.t 75))::
oo 77 (.int .sub (.t 76) z1)::
oo 78 (.Bb 1 (.t 74) (.t 77))::
oo 79 (.Af (.t 78))::
oo 80 (.int .neq (.t 73) (.t 79))::[]) []) (.cond (.t 80) (.seq (.reg (
 oo 4 (.mv z0)::
oo 5 (.mv (.c (Value.int .i64 16)))::[])) .ret) .skip)) (.seq (.seq (.reg (
 om 81 8::
oo 82 (.int .geq (.t 81) z0)::[])) (.cond (.t 82) (.seq (.reg (
 oo 4 (.mv z0)::
oo 5 (.mv (.c (Value.int .i64 14)))::[])) .ret) .skip)) (.seq (.reg (
 om 83 8::
om 4 83::
oo 5 (.mv z0)::[])) .ret))))))))))
def r14:List ResultVar:=[.tmp 4,.tmp 5]
theorem Agn:Cf Tryz.prog 14 84 2 a14 r14:=
  ⟨rfl,Tryz.f14,_,rfl,rfl,rfl,by decide,rfl,rfl,rfl⟩
noncomputable def a15:Ay:=(.seq (.reg (
 oo 7 (.box (.t 3) 51)::
oo 8 (.alloc [k0,k0] 57)::
oo 9 (.mv z0)::[])) (.seq (.seq (.reg (
 om 18 0::
om 19 1::
om 20 2::
oc 21 49 [(.t 18),(.t 19),(.t 20)]::
oo 22 (.int .neq (.t 21) z0)::[])) (.cond (.t 22) (.seq (.reg (
 oo 23 (.build [k0,k0] [])::
om 24 0::
om 25 1::
om 26 2::
oc 27 49 [(.t 24),(.t 25),(.t 26)]::
oz (.store 2 (.t 8) (.t 23))::
om 9 27::[])) .ret) .skip)) (.seq (.seq (.reg (
 oo 28 (.Ai 0 (.t 7))::
oo 29 (.Af (.t 28))::
oo 30 (.len (.t 29))::
oo 31 (.int .gtr (.t 30) (.c (Value.int .i64 24)))::[])) (.cond (.t 31) (.seq (.reg (
 oo 32 (.build [k0,k0] [])::
oz (.store 2 (.t 8) (.t 32))::
oo 9 (.mv (.c (Value.int .i64 6)))::[])) .ret) .skip)) (.seq (.seq (.reg (
 oo 10 (.mv z0)::[])) (.block 0 (.loop (.seq (.seq (.reg (
 om 33 10::
oo 34 (.Ai 0 (.t 7))::
oo 35 (.Af (.t 34))::
oo 36 (.len (.t 35))::
oo 37 (.int .lss (.t 33) (.t 36))::[])) (.cond (.t 37) .skip (.exit 0))) (.seq (.block 1 (.seq (.reg (
 oo 40 (.Ai 0 (.t 7))::
oo 41 (.Af (.t 40))::
om 42 10::
oo 43 (.Bb 3 (.t 41) (.t 42))::
oo 44 (.Az 3 (.t 43))::
oo 11 (.alloc [k0,Value.bool false,k0] 120)::
oz (.store 3 (.t 11) (.t 44))::[])) (.seq (.reg (
 oo 45 (.Ai 0 (.t 11))::
oo 46 (.Af (.t 45))::
oo 47 (.int .lss (.t 46) z0)::
om 48 47::
og 49 48 false (.Ai 0 (.t 11))::
og 50 48 false (.Af (.t 49))::
og 51 48 false (.mv (.t 0))::
og 52 48 false (.len (.t 51))::
og 53 48 false (.int .geq (.t 50) (.t 52))::
oo 54 (.pick (.t 48) (.c (Value.bool true)) (.t 53))::
om 55 54::
og 56 55 false (.Ai 2 (.t 11))::
og 57 55 false (.Af (.t 56))::
og 58 55 false (.int .lss (.t 57) z1)::
oo 59 (.pick (.t 55) (.c (Value.bool true)) (.t 58))::
om 60 59::
og 61 60 false (.Ai 2 (.t 11))::
og 62 60 false (.Af (.t 61))::
og 63 60 false (.int .gtr (.t 62) (.c (Value.int .i64 1000000)))::
oo 64 (.pick (.t 60) (.c (Value.bool true)) (.t 63))::[])) (.cond (.t 64) (.seq (.reg (
 oo 65 (.build [k0,k0] [])::
oz (.store 2 (.t 8) (.t 65))::
oo 9 (.mv (.c (Value.int .i64 3)))::[])) .ret) .skip)))) (.reg (
 om 38 10::
oo 39 (.int .add (.t 38) z1)::
om 10 39::[]))))))) (.seq (.seq (.reg (
 oo 66 (.Ai 1 (.t 7))::
oo 67 (.Af (.t 66))::
oo 68 (.int .lss (.t 67) z1)::
om 69 68::
og 70 69 false (.Ai 1 (.t 7))::
og 71 69 false (.Af (.t 70))::
og 72 69 false (.int .gtr (.t 71) (.c (Value.int .i64 1099511627776)))::
oo 73 (.pick (.t 69) (.c (Value.bool true)) (.t 72))::[])) (.cond (.t 73) (.seq (.reg (
 oo 74 (.build [k0,k0] [])::
oz (.store 2 (.t 8) (.t 74))::
oo 9 (.mv (.c (Value.int .i64 3)))::[])) .ret) .skip)) (.seq (.reg (
 oo 12 (.mv z0)::
oo 13 (.mv z0)::
oo 14 (.mv z0)::[])) (.seq (.seq (.reg (
 oo 15 (.mv z0)::[])) (.block 2 (.loop (.seq (.seq (.reg (
 om 75 15::
oo 76 (.Ai 0 (.t 7))::
oo 77 (.Af (.t 76))::
oo 78 (.len (.t 77))::
oo 79 (.int .lss (.t 75) (.t 78))::[])) (.cond (.t 79) .skip (.exit 2))) (.seq (.block 3 (.seq (.reg (
 oo 82 (.Ai 0 (.t 7))::
oo 83 (.Af (.t 82))::
om 84 15::
oo 85 (.Bb 3 (.t 83) (.t 84))::
oo 86 (.Az 3 (.t 85))::
oo 16 (.alloc [k0,Value.bool false,k0] 120)::
oz (.store 3 (.t 16) (.t 86))::[])) (.seq (.reg (
 om 87 0::
oo 88 (.Ai 0 (.t 16))::
oo 89 (.Af (.t 88))::
oo 90 (.Bb 4 (.t 87) (.t 89))::
oo 91 (.Az 4 (.t 90))::
oo 17 (.alloc [k0,k0,k0,k0] 27)::
oz (.store 4 (.t 17) (.t 91))::[])) (.seq (.reg (
 oo 92 (.Ai 1 (.t 16))::
oo 93 (.Af (.t 92))::[])) (.cond (.t 93) (.seq (.reg (
 om 94 12::
oo 95 (.Ai 0 (.t 17))::
oo 96 (.Af (.t 95))::
oo 97 (.Ai 2 (.t 16))::
oo 98 (.Af (.t 97))::
oo 99 (.int .mul (.t 96) (.t 98))::
oo 100 (.int .sub (.t 94) (.t 99))::
om 12 100::[])) (.seq (.reg (
 om 101 13::
oo 102 (.Ai 1 (.t 17))::
oo 103 (.Af (.t 102))::
oo 104 (.Ai 2 (.t 16))::
oo 105 (.Af (.t 104))::
oo 106 (.int .mul (.t 103) (.t 105))::
oo 107 (.int .sub (.t 101) (.t 106))::
om 13 107::[])) (.reg (
 om 108 14::
oo 109 (.Ai 2 (.t 17))::
oo 110 (.Ai 1 (.t 109))::
oo 111 (.Af (.t 110))::
oo 112 (.Ai 2 (.t 16))::
oo 113 (.Af (.t 112))::
oo 114 (.int .mul (.t 111) (.t 113))::
oo 115 (.int .sub (.t 108) (.t 114))::
om 14 115::[])))) (.seq (.reg (
 om 116 12::
oo 117 (.Ai 0 (.t 17))::
oo 118 (.Af (.t 117))::
oo 119 (.Ai 2 (.t 16))::
oo 120 (.Af (.t 119))::
oo 121 (.int .mul (.t 118) (.t 120))::
oo 122 (.int .add (.t 116) (.t 121))::
om 12 122::[])) (.seq (.reg (
 om 123 13::
oo 124 (.Ai 1 (.t 17))::
oo 125 (.Af (.t 124))::
oo 126 (.Ai 2 (.t 16))::
oo 127 (.Af (.t 126))::
oo 128 (.int .mul (.t 125) (.t 127))::
oo 129 (.int .add (.t 123) (.t 128))::
om 13 129::[])) (.reg (
 om 130 14::
oo 131 (.Ai 2 (.t 17))::
oo 132 (.Ai 0 (.t 131))::
oo 133 (.Af (.t 132))::
oo 134 (.Ai 2 (.t 16))::
oo 135 (.Af (.t 134))::
oo 136 (.int .mul (.t 133) (.t 135))::
oo 137 (.int .add (.t 130) (.t 136))::
om 14 137::[]))))))))) (.reg (
 om 80 15::
oo 81 (.int .add (.t 80) z1)::
om 15 81::[]))))))) (.seq (.seq (.reg (
 om 138 12::
om 139 1::
oo 140 (.Ai 1 (.t 7))::
oo 141 (.Af (.t 140))::
oo 142 (.int .mul (.t 139) (.t 141))::
oo 143 (.int .neq (.t 138) (.t 142))::
om 144 143::
og 145 144 false (.mv (.t 13))::
og 146 144 false (.mv (.t 2))::
og 147 144 false (.Ai 1 (.t 7))::
og 148 144 false (.Af (.t 147))::
og 149 144 false (.int .mul (.t 146) (.t 148))::
og 150 144 false (.int .neq (.t 145) (.t 149))::
oo 151 (.pick (.t 144) (.c (Value.bool true)) (.t 150))::[])) (.cond (.t 151) (.seq (.reg (
 oo 152 (.build [k0,k0] [])::
oz (.store 2 (.t 8) (.t 152))::
oo 9 (.mv (.c (Value.int .i64 14)))::[])) .ret) .skip)) (.seq (.reg (
 om 153 14::
oo 154 (.Ai 1 (.t 7))::
oo 155 (.Af (.t 154))::
oc 156 50 [(.t 153),(.t 155)]::
oz (.store 2 (.t 8) (.t 156))::
oo 9 (.mv z0)::[])) .ret)))))))))
def r15:List ResultVar:=[.cell 8 57,.tmp 9]
theorem Agm:Cf Tryz.prog 15 157 4 a15 r15:=
  ⟨rfl,Tryz.f15,_,rfl,rfl,rfl,by decide,rfl,rfl,rfl⟩
noncomputable def a16:Ay:=(.seq (.reg (
 oo 2 (.box (.t 0) 31)::
oo 3 (.box (.t 1) 39)::
oo 4 (.mv z0)::[])) (.seq (.seq (.reg (
 oo 9 (.Az 5 (.t 2))::
oc 10 9 [(.t 9)]::
oo 11 (.int .neq (.t 10) z0)::[])) (.cond (.t 11) (.seq (.reg (
 oo 12 (.Az 5 (.t 2))::
oc 13 9 [(.t 12)]::
om 4 13::[])) .ret) .skip)) (.seq (.seq (.reg (
 oo 14 (.Ai 0 (.t 3))::
oo 15 (.Af (.t 14))::
oo 16 (.len (.t 15))::
oo 17 (.Ai 0 (.t 2))::
oo 18 (.Af (.t 17))::
oo 19 (.int .neq (.t 16) (.t 18))::
om 20 19::
og 21 20 false (.Ai 1 (.t 3))::
og 22 20 false (.Af (.t 21))::
og 23 20 false (.len (.t 22))::
og 24 20 false (.Ai 1 (.t 2))::
og 25 20 false (.Af (.t 24))::
og 26 20 false (.int .neq (.t 23) (.t 25))::
oo 27 (.pick (.t 20) (.c (Value.bool true)) (.t 26))::[])) (.cond (.t 27) (.seq (.reg (
 oo 4 (.mv (.c (Value.int .i64 15)))::[])) .ret) .skip)) (.seq (.seq (.reg (
 oo 28 (.Ai 0 (.t 3))::
oo 29 (.Af (.t 28))::
oc 30 51 [(.t 29)]::
oo 31 (.not (.t 30))::
om 32 31::
og 33 32 false (.Ai 1 (.t 3))::
og 34 32 false (.Af (.t 33))::
F6 35 32 false 51 [(.t 34)]::
og 36 32 false (.not (.t 35))::
oo 37 (.pick (.t 32) (.c (Value.bool true)) (.t 36))::[])) (.cond (.t 37) (.seq (.reg (
 oo 4 (.mv (.c (Value.int .i64 3)))::[])) .ret) .skip)) (.seq (.seq (.reg (
 oo 5 (.mv z0)::[])) (.block 0 (.loop (.seq (.seq (.reg (
 om 38 5::
oo 39 (.Ai 0 (.t 2))::
oo 40 (.Af (.t 39))::
oo 41 (.int .lss (.t 38) (.t 40))::[])) (.cond (.t 41) .skip (.exit 0))) (.seq (.block 1 (.seq (.BN (
 oo 44 (.Ai 0 (.t 3))::
oo 45 (.Af (.t 44))::
om 46 5::
oo 47 (.Bb 1 (.t 45) (.t 46))::
oo 48 (.Af (.t 47))::
oo 49 (.Ai 2 (.t 2))::
oo 50 (.Ai 0 (.t 49))::
oo 51 (.Af (.t 50))::
oo 52 (.int .lss (.t 48) (.t 51))::
om 53 52::
og 54 53 false (.Ai 0 (.t 3))::
og 55 53 false (.Af (.t 54))::
og 56 53 false (.mv (.t 5))::
og 57 53 false (.Bb 1 (.t 55) (.t 56))::
og 58 53 false (.Af (.t 57))::
og 59 53 false (.Ai 2 (.t 2))::
og 60 53 false (.Ai 1 (.t 59))::
og 61 53 false (.Af (.t 60))::
og 62 53 false (.int .gtr (.t 58) (.t 61))::
oo 63 (.pick (.t 53) (.c (Value.bool true)) (.t 62))::[]) []) (.cond (.t 63) (.seq (.reg (
 oo 4 (.mv (.c (Value.int .i64 20)))::[])) .ret) .skip))) (.reg (
 om 42 5::
oo 43 (.int .add (.t 42) z1)::
om 5 43::[]))))))) (.seq (.seq (.reg (
 oo 6 (.mv z0)::[])) (.block 2 (.loop (.seq (.seq (.reg (
 om 64 6::
oo 65 (.Ai 4 (.t 2))::
oo 66 (.Af (.t 65))::
oo 67 (.len (.t 66))::
oo 68 (.int .lss (.t 64) (.t 67))::[])) (.cond (.t 68) .skip (.exit 2))) (.seq (.block 3 (.seq (.reg (
 oo 71 (.Ai 4 (.t 2))::
oo 72 (.Af (.t 71))::
om 73 6::
oo 74 (.Bb 4 (.t 72) (.t 73))::
oo 75 (.Az 4 (.t 74))::
oo 7 (.alloc [k0,k0,k0,k0] 33)::
oz (.store 4 (.t 7) (.t 75))::[])) (.seq (.BN (
 oo 76 (.Ai 0 (.t 3))::
oo 77 (.Af (.t 76))::
oo 78 (.Ai 0 (.t 7))::
oo 79 (.Af (.t 78))::
oo 80 (.Bb 1 (.t 77) (.t 79))::
oo 81 (.Af (.t 80))::
oo 82 (.Ai 1 (.t 3))::
oo 83 (.Af (.t 82))::
oo 84 (.Ai 1 (.t 7))::
oo 85 (.Af (.t 84))::
oo 86 (.Bb 1 (.t 83) (.t 85))::
oo 87 (.Af (.t 86))::
oo 88 (.int .add (.t 81) (.t 87))::
om 8 88::[]) []) (.seq (.reg (
 om 89 8::
oo 90 (.Ai 2 (.t 7))::
oo 91 (.Ai 0 (.t 90))::
oo 92 (.Af (.t 91))::
oo 93 (.int .lss (.t 89) (.t 92))::
om 94 93::
og 95 94 false (.mv (.t 8))::
og 96 94 false (.Ai 2 (.t 7))::
og 97 94 false (.Ai 1 (.t 96))::
og 98 94 false (.Af (.t 97))::
og 99 94 false (.int .gtr (.t 95) (.t 98))::
oo 100 (.pick (.t 94) (.c (Value.bool true)) (.t 99))::[])) (.cond (.t 100) (.seq (.reg (
 oo 4 (.mv (.c (Value.int .i64 20)))::[])) .ret) .skip))))) (.reg (
 om 69 6::
oo 70 (.int .add (.t 69) z1)::
om 6 70::[]))))))) (.seq (.reg (
 oo 4 (.mv z0)::[])) .ret)))))))
def r16:List ResultVar:=[.tmp 4]
theorem Agl:Cf Tryz.prog 16 101 2 a16 r16:=
  ⟨rfl,Tryz.f16,_,rfl,rfl,rfl,by decide,rfl,rfl,rfl⟩
noncomputable def a17:Ay:=(.seq (.reg (
 oo 3 (.box (.t 1) 43)::
oo 4 (.mv z0)::[])) (.seq (.seq (.reg (
 om 5 0::
oc 6 8 [(.t 5)]::
oo 7 (.int .neq (.t 6) z0)::[])) (.cond (.t 7) (.seq (.reg (
 om 8 0::
oc 9 8 [(.t 8)]::
om 4 9::[])) .ret) .skip)) (.seq (.seq (.reg (
 oo 10 (.Az 3 (.t 3))::
oc 11 52 [(.t 10)]::
oo 12 (.not (.t 11))::[])) (.cond (.t 12) (.seq (.reg (
 oo 4 (.mv (.c (Value.int .i64 2)))::[])) .ret) .skip)) (.seq (.seq (.reg (
 om 13 0::
oo 14 (.Az 3 (.t 3))::
oc 15 53 [(.t 13),(.t 14)]::
oo 16 (.not (.t 15))::[])) (.cond (.t 16) (.seq (.reg (
 oo 4 (.mv (.c (Value.int .i64 20)))::[])) .ret) .skip)) (.seq (.reg (
 oo 4 (.mv z0)::[])) .ret)))))
def r17:List ResultVar:=[.tmp 4]
theorem Agk:Cf Tryz.prog 17 17 2 a17 r17:=
  ⟨rfl,Tryz.f17,_,rfl,rfl,rfl,by decide,rfl,rfl,rfl⟩
noncomputable def a18:Ay:=(.seq (.reg (
 oo 3 (.box (.t 1) 43)::
oo 4 (.mv z0)::[])) (.seq (.seq (.reg (
 om 8 0::
oc 9 44 [(.t 8)]::
om 5 9::[])) (.seq (.reg (
 om 10 5::
oo 11 (.int .neq (.t 10) z0)::[])) (.cond (.t 11) (.seq (.reg (
 om 12 5::
om 4 12::[])) .ret) .skip))) (.seq (.seq (.reg (
 oo 13 (.Ai 2 (.t 3))::
oo 14 (.Af (.t 13))::
oo 15 (.BF [k0] [(0,1,(.t 14))] 1 2)::
oc 16 54 [z1,(.c (Value.int .i64 1099511627776)),(.t 15)]::
oo 17 (.not (.t 16))::
om 18 17::
og 19 18 false (.Ai 0 (.t 3))::
og 20 18 false (.Af (.t 19))::
og 21 18 false (.Ai 1 (.t 3))::
og 22 18 false (.Af (.t 21))::
og 23 18 false (.BF [k0,k0] [(0,1,(.t 20)),(1,1,(.t 22))] 2 2)::
F6 24 18 false 54 [(.c (Value.int .i64 (-1099511627776))),(.c (Value.int .i64 1099511627776)),(.t 23)]::
og 25 18 false (.not (.t 24))::
oo 26 (.pick (.t 18) (.c (Value.bool true)) (.t 25))::[])) (.cond (.t 26) (.seq (.reg (
 oo 4 (.mv (.c (Value.int .i64 2)))::[])) .ret) .skip)) (.seq (.seq (.reg (
 om 27 0::
oo 28 (.len (.t 27))::
oo 29 (.mv z0)::[])) (.block 0 (.loop (.seq (.reg (
 oo 30 (.int .lss (.t 29) (.t 28))::[])) (.seq (.cond (.t 30) .skip (.exit 0)) (.seq (.block 1 (.seq (.reg (
 oo 31 (.Bb 4 (.t 27) (.t 29))::
oo 32 (.Az 4 (.t 31))::
oo 7 (.alloc [k0,k0,k0,k0] 27)::
oz (.store 4 (.t 7) (.t 32))::[])) (.seq (.reg (
 oo 33 (.Ai 2 (.t 7))::
oo 34 (.Ai 0 (.t 33))::
oo 35 (.Af (.t 34))::
oo 36 (.Ai 2 (.t 3))::
oo 37 (.Af (.t 36))::
oo 38 (.int .mul (.t 35) (.t 37))::
oo 39 (.Ai 2 (.t 7))::
oo 40 (.Ai 1 (.t 39))::
oo 41 (.Af (.t 40))::
oo 42 (.Ai 2 (.t 3))::
oo 43 (.Af (.t 42))::
oo 44 (.int .mul (.t 41) (.t 43))::
oo 45 (.Ai 0 (.t 7))::
oo 46 (.Af (.t 45))::
oo 47 (.Ai 0 (.t 3))::
oo 48 (.Af (.t 47))::
oo 49 (.int .mul (.t 46) (.t 48))::
oo 50 (.Ai 1 (.t 7))::
oo 51 (.Af (.t 50))::
oo 52 (.Ai 1 (.t 3))::
oo 53 (.Af (.t 52))::
oo 54 (.int .mul (.t 51) (.t 53))::
oo 55 (.int .add (.t 49) (.t 54))::
oo 56 (.BF [k0] [(0,1,(.t 55))] 1 2)::
oc 57 54 [(.t 38),(.t 44),(.t 56)]::
oo 58 (.not (.t 57))::[])) (.cond (.t 58) (.seq (.reg (
 oo 4 (.mv (.c (Value.int .i64 20)))::[])) .ret) .skip)))) (.reg (
 oo 59 (.int .add (.t 29) z1)::
om 29 59::[])))))))) (.seq (.reg (
 oo 4 (.mv z0)::[])) .ret)))))
def r18:List ResultVar:=[.tmp 4]
theorem Agj:Cf Tryz.prog 18 60 2 a18 r18:=
  ⟨rfl,Tryz.f18,_,rfl,rfl,rfl,by decide,rfl,rfl,rfl⟩
noncomputable def a19:Ay:=(.seq (.reg (
 oo 2 (.box (.t 0) 31)::
oo 4 (.alloc [k0,k0] 23)::
oo 5 (.mv z0)::[])) (.seq (.reg (
 oo 12 (.Az 5 (.t 2))::
om 13 1::
oo 14 (.BF [k0] [(0,1,(.t 13))] 1 3)::
oc 15 55 [(.t 12),(.t 14)]::
om 11 15::
oo 16 (.extract (.t 11) 0)::
oo 17 (.extract (.t 11) 1)::
oo 18 (.extract (.t 11) 2)::
om 6 16::
om 7 17::
om 8 18::[])) (.seq (.seq (.reg (
 om 19 8::
oo 20 (.int .neq (.t 19) z0)::[])) (.cond (.t 20) (.seq (.reg (
 oo 21 (.build [k0,k0] [])::
om 22 8::
oz (.store 2 (.t 4) (.t 21))::
om 5 22::[])) .ret) .skip)) (.seq (.reg (
 om 24 6::
oc 25 56 [(.t 24)]::
oc 26 40 [(.t 25)]::
om 23 26::
oo 27 (.extract (.t 23) 0)::
oo 28 (.extract (.t 23) 1)::
om 9 27::
om 10 28::[])) (.seq (.BN (
 om 29 7::
oc 30 41 [(.t 29),z1]::
oo 31 (.field1 1 (.t 30))::
om 32 1::
oo 33 (.Bb 1 (.t 31) (.t 32))::
oo 34 (.Af (.t 33))::
om 35 9::
oc 36 41 [(.t 35),(.c (Value.int .i64 (-1)))]::
oo 37 (.field1 1 (.t 36))::
om 38 1::
oo 39 (.Bb 1 (.t 37) (.t 38))::
oo 40 (.Af (.t 39))::
oo 41 (.build [k0,k0] [(0,1,(.t 34)),(1,1,(.t 40))])::
oz (.store 2 (.t 4) (.t 41))::
oo 5 (.mv z0)::[]) []) .ret)))))
def r19:List ResultVar:=[.cell 4 23,.tmp 5]
theorem Agi:Cf Tryz.prog 19 42 2 a19 r19:=
  ⟨rfl,Tryz.f19,_,rfl,rfl,rfl,by decide,rfl,rfl,rfl⟩
noncomputable def a20:Ay:=(.seq (.reg (
 oo 6 (.alloc [k0,k0] 57)::
oo 7 (.mv z0)::[])) (.seq (.reg (
 om 11 0::
om 12 1::
om 13 2::
oc 14 57 [(.t 11),(.t 12),(.t 13)]::
om 10 14::
oo 15 (.extract (.t 10) 0)::
oo 16 (.extract (.t 10) 1)::
oo 8 (.alloc [Value.map none,k0,k0,k0,k0] 111)::
oz (.store 5 (.t 8) (.t 15))::
om 9 16::[])) (.seq (.seq (.reg (
 om 17 9::
oo 18 (.int .neq (.t 17) z0)::[])) (.cond (.t 18) (.seq (.reg (
 oo 19 (.build [k0,k0] [])::
om 20 9::
oz (.store 2 (.t 6) (.t 19))::
om 7 20::[])) .ret) .skip)) (.seq (.reg (
 oo 21 (.Az 5 (.t 8))::
oc 22 58 [(.t 21)]::
oz (.store 2 (.t 6) (.t 22))::
oo 7 (.mv z0)::[])) .ret))))
def r20:List ResultVar:=[.cell 6 57,.tmp 7]
theorem Agh:Cf Tryz.prog 20 23 3 a20 r20:=
  ⟨rfl,Tryz.f20,_,rfl,rfl,rfl,by decide,rfl,rfl,rfl⟩
noncomputable def a32:Ay:=(.seq (.reg (
 oo 0 (.mv (.c (Value.bool false)))::[])) (.seq (.reg (
 oc 1 76 []::
om 2 1::
F6 3 2 true 77 []::
oo 4 (.pick (.t 2) (.t 3) (.c (Value.bool false)))::
om 5 4::
F6 6 5 true 78 []::
oo 7 (.pick (.t 5) (.t 6) (.c (Value.bool false)))::
om 0 7::[])) .ret))
def r32:List ResultVar:=[.tmp 0]
theorem Af5:Cf Tryz.prog 32 8 0 a32 r32:=
  ⟨rfl,Tryz.f32,_,rfl,rfl,rfl,by decide,rfl,rfl,rfl⟩
noncomputable def a35:Ay:=(.seq (.reg (
 oo 2 (.mv (.c (Value.bool false)))::[])) (.seq (.reg (
 om 3 0::
oo 4 (.int .geq (.t 3) (.c (Value.int .i64 (-20))))::
om 5 4::
og 6 5 true (.mv (.t 0))::
og 7 5 true (.int .leq (.t 6) (.c (Value.int .i64 20)))::
oo 8 (.pick (.t 5) (.t 7) (.c (Value.bool false)))::
om 2 8::[])) .ret))
def r35:List ResultVar:=[.tmp 2]
theorem Af4:Cf Tryz.prog 35 9 1 a35 r35:=
  ⟨rfl,Tryz.f35,_,rfl,rfl,rfl,by decide,rfl,rfl,rfl⟩
noncomputable def a36:Ay:=(.seq (.reg (
 oo 1 (.box (.t 0) 23)::
oo 2 (.mv (.c (Value.bool false)))::[])) (.seq (.reg (
 oo 3 (.Ai 0 (.t 1))::
oo 4 (.Af (.t 3))::
oo 5 (.int .geq (.t 4) (.c (Value.int .i64 (-100000))))::
om 6 5::
og 7 6 true (.Ai 0 (.t 1))::
og 8 6 true (.Af (.t 7))::
og 9 6 true (.Ai 1 (.t 1))::
og 10 6 true (.Af (.t 9))::
og 11 6 true (.int .leq (.t 8) (.t 10))::
oo 12 (.pick (.t 6) (.t 11) (.c (Value.bool false)))::
om 13 12::
og 14 13 true (.Ai 1 (.t 1))::
og 15 13 true (.Af (.t 14))::
og 16 13 true (.int .leq (.t 15) (.c (Value.int .i64 100000)))::
oo 17 (.pick (.t 13) (.t 16) (.c (Value.bool false)))::
om 2 17::[])) .ret))
def r36:List ResultVar:=[.tmp 2]
theorem Af3:Cf Tryz.prog 36 18 1 a36 r36:=
  ⟨rfl,Tryz.f36,_,rfl,rfl,rfl,by decide,rfl,rfl,rfl⟩
noncomputable def a37:Ay:=(.seq (.reg (
 oo 1 (.box (.t 0) 23)::
oo 2 (.mv (.c (Value.bool false)))::[])) (.seq (.reg (
 oo 3 (.Ai 0 (.t 1))::
oo 4 (.Af (.t 3))::
oo 5 (.int .geq (.t 4) (.c (Value.int .i64 (-1000000))))::
om 6 5::
og 7 6 true (.Ai 0 (.t 1))::
og 8 6 true (.Af (.t 7))::
og 9 6 true (.Ai 1 (.t 1))::
og 10 6 true (.Af (.t 9))::
og 11 6 true (.int .leq (.t 8) (.t 10))::
oo 12 (.pick (.t 6) (.t 11) (.c (Value.bool false)))::
om 13 12::
og 14 13 true (.Ai 1 (.t 1))::
og 15 13 true (.Af (.t 14))::
og 16 13 true (.int .leq (.t 15) (.c (Value.int .i64 1000000)))::
oo 17 (.pick (.t 13) (.t 16) (.c (Value.bool false)))::
om 2 17::[])) .ret))
def r37:List ResultVar:=[.tmp 2]
theorem Af2:Cf Tryz.prog 37 18 1 a37 r37:=
  ⟨rfl,Tryz.f37,_,rfl,rfl,rfl,by decide,rfl,rfl,rfl⟩
noncomputable def a38:Ay:=(.seq (.reg (
 oo 1 (.box (.t 0) 31)::
oo 2 (.mv z0)::[])) (.seq (.reg (
 oo 3 (.alloc [Value.nilFunc] 178)::
oz (.store 1 (.t 3) (.c (Value.func (.func 96) #[] #[])))::[])) (.seq (.block 0 (.seq (.reg (
 oo 5 (.Ai 4 (.t 1))::
oo 6 (.Af (.t 5))::
oo 7 (.len (.t 6))::
oo 8 (.int .gtr (.t 7) (.c (Value.int .i64 24)))::
om 4 8::[])) (.cond (.t 4) (.seq (.reg (
 oo 2 (.mv (.c (Value.int .i64 6)))::[])) .ret) (.seq (.reg (
 oo 10 (.Ai 0 (.t 1))::
oo 11 (.Af (.t 10))::
oo 12 (.int .lss (.t 11) z1)::
om 13 12::
og 14 13 false (.Ai 0 (.t 1))::
og 15 13 false (.Af (.t 14))::
og 16 13 false (.int .gtr (.t 15) (.c (Value.int .i64 6)))::
oo 17 (.pick (.t 13) (.c (Value.bool true)) (.t 16))::
om 18 17::
og 19 18 false (.Ai 1 (.t 1))::
og 20 18 false (.Af (.t 19))::
og 21 18 false (.int .lss (.t 20) z1)::
oo 22 (.pick (.t 18) (.c (Value.bool true)) (.t 21))::
om 23 22::
og 24 23 false (.Ai 1 (.t 1))::
og 25 23 false (.Af (.t 24))::
og 26 23 false (.int .gtr (.t 25) (.c (Value.int .i64 6)))::
oo 27 (.pick (.t 23) (.c (Value.bool true)) (.t 26))::
om 28 27::
og 29 28 false (.Ai 2 (.t 1))::
og 30 28 false (.Az 2 (.t 29))::
F6 31 28 false 97 [(.t 30)]::
og 32 28 false (.not (.t 31))::
oo 33 (.pick (.t 28) (.c (Value.bool true)) (.t 32))::
om 9 33::[])) (.cond (.t 9) (.seq (.reg (
 oo 2 (.mv (.c (Value.int .i64 2)))::[])) .ret) (.seq (.reg (
 oo 35 (.Ai 4 (.t 1))::
oo 36 (.Af (.t 35))::
oo 37 (.Hf (Fn.func 99) [] [(.t 3),(.t 1)])::
oc 38 98 [(.t 36),(.t 37)]::
om 34 38::[])) (.cond (.t 34) (.seq (.reg (
 oo 2 (.mv (.c (Value.int .i64 3)))::[])) .ret) (.seq (.reg (
 oo 40 (.Ai 4 (.t 1))::
oo 41 (.Af (.t 40))::
oc 42 98 [(.t 41),(.c (Value.func (.func 100) #[] #[]))]::
om 39 42::[])) (.cond (.t 39) (.seq (.reg (
 oo 2 (.mv (.c (Value.int .i64 2)))::[])) .ret) .skip))))))))) (.seq (.reg (
 oo 2 (.mv z0)::[])) .ret))))
def r38:List ResultVar:=[.tmp 2]
theorem Af1:Cf Tryz.prog 38 43 1 a38 r38:=
  ⟨rfl,Tryz.f38,_,rfl,rfl,rfl,by decide,rfl,rfl,rfl⟩
noncomputable def a39:Ay:=(.seq (.reg (
 oo 1 (.box (.t 0) 31)::
oo 2 (.mv (.c (Value.pointer none)))::[])) (.seq (.reg (
 oo 9 (.Az 5 (.t 1))::
oo 10 (.Ai 0 (.t 1))::
oo 11 (.Af (.t 10))::
oo 12 (.int .add z1 (.t 11))::
oo 13 (.Ai 1 (.t 1))::
oo 14 (.Af (.t 13))::
oo 15 (.int .add (.t 12) (.t 14))::
oo 16 (.build [k0,k0,k0,k0,Value.slice none 0 0,k0,Value.bool false,k0,Value.bool false,k0,Value.bool false,k0,Value.bool false,k0,Value.bool false,k0,Value.bool false,k0,Value.bool false,k0,Value.bool false,k0,Value.bool false,k0,Value.bool false,k0,Value.bool false,k0,Value.bool false,k0,Value.bool false,k0,Value.bool false,k0,Value.bool false,k0,Value.bool false,k0,Value.bool false,k0,Value.bool false,k0,Value.bool false,k0,Value.bool false,k0,Value.bool false,k0,Value.bool false,k0,Value.bool false,k0,Value.bool false,k0,Value.bool false,k0,Value.bool false,k0,Value.bool false,k0,Value.bool false,k0,Value.bool false,k0,Value.bool false,k0,Value.bool false,k0,Value.bool false,k0,Value.bool false,k0,Value.bool false,k0,Value.bool false,k0,Value.bool false,k0,Value.bool false,k0,Value.bool false,k0,Value.bool false,k0,Value.bool false,k0,Value.bool false,k0,Value.bool false,k0,Value.bool false,k0,Value.bool false,k0,Value.bool false,k0,Value.bool false,k0,Value.bool false,k0,Value.bool false,k0,Value.bool false,k0,Value.bool false,k0,Value.bool false,k0,Value.bool false,k0,Value.bool false,k0,Value.bool false,k0,Value.bool false,k0,Value.bool false,k0,Value.bool false,k0,Value.bool false,k0,Value.bool false,k0,Value.bool false,k0,Value.bool false,k0,Value.bool false,k0,Value.bool false,k0,Value.bool false,k0,Value.bool false,k0,Value.bool false,k0,Value.bool false,k0,Value.bool false,k0,Value.bool false,k0,Value.bool false,k0,Value.bool false,k0,Value.bool false,k0,Value.bool false,k0,Value.bool false,k0,Value.bool false,k0,Value.bool false,k0,Value.bool false,k0,Value.bool false,k0,Value.bool false,k0,Value.bool false,k0,Value.bool false,k0,Value.bool false,k0,Value.bool false,k0,Value.bool false,k0,Value.bool false,k0,Value.bool false,k0,Value.bool false,k0,Value.bool false,k0,Value.bool false,k0,Value.bool false,k0,Value.bool false,k0,Value.bool false,k0,Value.bool false,k0,Value.bool false,k0,Value.bool false,k0,Value.bool false,k0,Value.bool false,k0,Value.bool false,k0,Value.bool false,k0,Value.bool false,k0,Value.bool false,k0,Value.bool false,k0,Value.bool false,k0,Value.bool false,k0,Value.bool false,k0,Value.bool false,k0,Value.bool false,k0,Value.bool false,k0,Value.bool false,k0,Value.bool false,k0,Value.bool false,k0,Value.bool false,k0,Value.bool false,k0,Value.bool false,k0,Value.bool false,k0,Value.bool false,k0,Value.bool false,k0,Value.bool false,k0,Value.bool false,k0,Value.bool false,k0,Value.bool false,k0,Value.bool false,k0,Value.bool false,k0,Value.bool false,k0,Value.bool false,k0,Value.bool false,k0,Value.bool false,k0,Value.bool false,k0,Value.bool false,k0,Value.bool false,k0,Value.bool false,k0,Value.bool false,k0,Value.bool false,k0,Value.bool false,k0,Value.bool false,k0,Value.bool false,k0,Value.bool false,k0,Value.bool false,k0,Value.bool false,k0,Value.bool false,k0,Value.bool false,k0,Value.bool false,k0,Value.bool false,k0,Value.bool false,k0,Value.bool false,k0,Value.bool false,k0,Value.bool false,k0,Value.bool false,k0,Value.bool false,k0,Value.bool false,k0,Value.bool false,k0,Value.bool false,k0,Value.bool false,k0,Value.bool false,k0,Value.bool false,k0,Value.bool false,k0,Value.bool false,k0,Value.bool false,k0,Value.bool false,k0,Value.bool false,k0,Value.bool false,k0,Value.bool false,k0,Value.bool false,k0,Value.bool false,k0,Value.bool false,k0,Value.bool false,k0,Value.bool false,k0,Value.bool false,k0,Value.bool false,k0] [(0,5,(.t 9)),(5,1,(.t 15))])::
oo 17 (.box (.t 16) 187)::
om 3 17::[])) (.seq (.seq (.reg (
 om 18 3::
oo 19 (.BP (.t 18))::
oo 20 (.Ai 0 (.t 19))::
oo 21 (.Ai 0 (.t 20))::
oo 22 (.Af (.t 21))::
oo 23 (.mv z0)::[])) (.block 0 (.loop (.seq (.reg (
 oo 24 (.int .lss (.t 23) (.t 22))::[])) (.seq (.cond (.t 24) .skip (.exit 0)) (.seq (.block 1 (.seq (.reg (
 om 25 23::
om 4 25::[])) (.seq (.reg (
 om 26 3::
om 27 4::
oo 28 (.int .add z1 (.t 27))::
om 29 3::
oo 30 (.BP (.t 29))::
oo 31 (.Ai 0 (.t 30))::
oo 32 (.Ai 2 (.t 31))::
oo 33 (.Ai 1 (.t 32))::
oo 34 (.Af (.t 33))::
oc 35 101 [(.t 26),z0,(.t 28),(.t 34)]::[])) (.reg (
 om 36 3::
om 37 4::
oo 38 (.int .add z1 (.t 37))::
om 39 3::
oo 40 (.BP (.t 39))::
oo 41 (.Ai 0 (.t 40))::
oo 42 (.Ai 2 (.t 41))::
oo 43 (.Ai 0 (.t 42))::
oo 44 (.Af (.t 43))::
oo 45 (.neg (.t 44))::
oc 46 101 [(.t 36),(.t 38),z0,(.t 45)]::[]))))) (.reg (
 oo 47 (.int .add (.t 23) z1)::
om 23 47::[])))))))) (.seq (.seq (.reg (
 om 48 3::
oo 49 (.BP (.t 48))::
oo 50 (.Ai 0 (.t 49))::
oo 51 (.Ai 4 (.t 50))::
oo 52 (.Af (.t 51))::
oo 53 (.len (.t 52))::
oo 54 (.mv z0)::[])) (.block 2 (.loop (.seq (.reg (
 oo 55 (.int .lss (.t 54) (.t 53))::[])) (.seq (.cond (.t 55) .skip (.exit 2)) (.seq (.block 3 (.seq (.reg (
 oo 56 (.Bb 4 (.t 52) (.t 54))::
oo 57 (.Az 4 (.t 56))::
oo 6 (.alloc [k0,k0,k0,k0] 33)::
oz (.store 4 (.t 6) (.t 57))::[])) (.seq (.BN (
 oo 58 (.Ai 0 (.t 6))::
oo 59 (.Af (.t 58))::
oo 60 (.int .add z1 (.t 59))::
oo 61 (.Ai 0 (.t 1))::
oo 62 (.Af (.t 61))::
oo 63 (.int .add z1 (.t 62))::
oo 64 (.Ai 1 (.t 6))::
oo 65 (.Af (.t 64))::
oo 66 (.int .add (.t 63) (.t 65))::
om 7 60::
om 8 66::[]) []) (.seq (.reg (
 om 67 3::
om 68 8::
om 69 7::
oo 70 (.Ai 2 (.t 6))::
oo 71 (.Ai 1 (.t 70))::
oo 72 (.Af (.t 71))::
oc 73 101 [(.t 67),(.t 68),(.t 69),(.t 72)]::[])) (.reg (
 om 74 3::
om 75 7::
om 76 8::
oo 77 (.Ai 2 (.t 6))::
oo 78 (.Ai 0 (.t 77))::
oo 79 (.Af (.t 78))::
oo 80 (.neg (.t 79))::
oc 81 101 [(.t 74),(.t 75),(.t 76),(.t 80)]::[])))))) (.reg (
 oo 82 (.int .add (.t 54) z1)::
om 54 82::[])))))))) (.seq (.reg (
 om 83 3::
om 2 83::[])) .ret)))))
def r39:List ResultVar:=[.tmp 2]
theorem Af0:Cf Tryz.prog 39 84 1 a39 r39:=
  ⟨rfl,Tryz.f39,_,rfl,rfl,rfl,by decide,rfl,rfl,rfl⟩
noncomputable def a40:Ay:=(.seq (.reg (
 oo 2 (.mv (.c (Value.pointer none)))::
oo 3 (.mv (.c (Value.bool false)))::[])) (.seq (.reg (
 om 4 0::
oc 5 102 [(.t 4),z0]::
oo 6 (.extract (.t 5) 0)::
oo 7 (.extract (.t 5) 1)::
om 2 6::
om 3 7::[])) .ret))
def r40:List ResultVar:=[.tmp 2,.tmp 3]
theorem Afz:Cf Tryz.prog 40 8 1 a40 r40:=
  ⟨rfl,Tryz.f40,_,rfl,rfl,rfl,by decide,rfl,rfl,rfl⟩
noncomputable def a41:Ay:=(.seq (.reg (
 oo 4 (.alloc [Value.slice none 0 0,Value.slice none 0 0] 39)::[])) (.seq (.reg (
 om 10 0::
oo 11 (.BP (.t 10))::
oo 12 (.Ai 0 (.t 11))::
oo 13 (.Af (.t 12))::
oo 14 (.BP (.t 13))::
oo 15 (.Ai 5 (.t 14))::
oo 16 (.Af (.t 15))::
oo 17 (.FP [k0] 8 2 (.t 16) (.t 16))::
om 5 17::[])) (.seq (.seq (.reg (
 om 18 5::
oo 19 (.len (.t 18))::
oo 20 (.mv z0)::[])) (.block 0 (.loop (.seq (.reg (
 oo 21 (.int .lss (.t 20) (.t 19))::[])) (.seq (.cond (.t 21) .skip (.exit 0)) (.seq (.block 1 (.seq (.reg (
 om 22 20::
om 6 22::[])) (.reg (
 om 23 5::
om 24 6::
om 25 1::
om 26 0::
om 27 6::
oc 28 103 [(.t 26),(.t 27)]::
oo 29 (.int .mul (.t 25) (.t 28))::
oo 30 (.Bb 1 (.t 23) (.t 24))::
oz (.store 1 (.t 30) (.t 29))::[])))) (.reg (
 oo 31 (.int .add (.t 20) z1)::
om 20 31::[])))))))) (.seq (.reg (
 om 32 0::
oo 33 (.BP (.t 32))::
oo 34 (.Ai 0 (.t 33))::
oo 35 (.Af (.t 34))::
oo 36 (.BP (.t 35))::
oo 37 (.Ai 0 (.t 36))::
oo 38 (.Ai 0 (.t 37))::
oo 39 (.Af (.t 38))::
oo 40 (.FP [k0] 8 2 (.t 39) (.t 39))::
oo 41 (.build [Value.slice none 0 0,Value.slice none 0 0] [(0,1,(.t 40))])::
oo 7 (.alloc [Value.slice none 0 0,Value.slice none 0 0] 39)::
oz (.store 2 (.t 7) (.t 41))::[])) (.seq (.BN (
 oo 42 (.Ai 0 (.t 7))::
oo 43 (.Af (.t 42))::
om 44 5::
oo 45 (.HL 1 (.t 44) (some z1) none none)::
oo 46 (.copy 1 (.t 43) (.t 45))::[]) []) (.seq (.seq (.reg (
 om 47 5::
om 48 0::
oo 49 (.BP (.t 48))::
oo 50 (.Ai 0 (.t 49))::
oo 51 (.Af (.t 50))::
oo 52 (.BP (.t 51))::
oo 53 (.Ai 0 (.t 52))::
oo 54 (.Ai 0 (.t 53))::
oo 55 (.Af (.t 54))::
oo 56 (.int .add z1 (.t 55))::
oo 57 (.HL 1 (.t 47) (some (.t 56)) none none)::
oo 58 (.len (.t 57))::
oo 59 (.mv z0)::[])) (.block 2 (.loop (.seq (.reg (
 oo 60 (.int .lss (.t 59) (.t 58))::[])) (.seq (.cond (.t 60) .skip (.exit 2)) (.seq (.block 3 (.seq (.reg (
 oo 61 (.Bb 1 (.t 57) (.t 59))::
oo 62 (.Af (.t 61))::
om 9 62::[])) (.reg (
 oo 63 (.Ai 1 (.t 7))::
oo 64 (.Af (.t 63))::
om 65 9::
oo 66 (.neg (.t 65))::
oo 67 (.BF [k0] [(0,1,(.t 66))] 1 2)::
oo 68 (.append 2 1 8 (.t 64) (.t 67))::
oo 69 (.Ai 1 (.t 7))::
oz (.store 1 (.t 69) (.t 68))::[])))) (.reg (
 oo 70 (.int .add (.t 59) z1)::
om 59 70::[])))))))) (.seq (.reg (
 oo 71 (.Az 2 (.t 7))::
oz (.store 2 (.t 4) (.t 71))::[])) .ret)))))))
def r41:List ResultVar:=[.cell 4 39]
theorem Afy:Cf Tryz.prog 41 72 2 a41 r41:=
  ⟨rfl,Tryz.f41,_,rfl,rfl,rfl,by decide,rfl,rfl,rfl⟩
noncomputable def gD:Ay:=(.reg (
 oo 11 (.alloc [k0,k0,k0] 43)::
oz (.store 3 (.t 11) (.t 28))::[]))
noncomputable def gy:Ay:=(.block 1 (.seq (.BN (
 oo 29 (.Af (.t 3))::
oo 30 (.Az 3 (.t 11))::
oc 31 18 [(.t 29),(.t 30)]::
oo 32 (.int .eql (.t 31) z0)::
om 33 32::
og 34 33 true (.Af (.t 4))::
og 35 33 true (.Ai 0 (.t 11))::
og 36 33 true (.Af (.t 35))::
og 37 33 true (.int .mul (.t 34) (.t 36))::
og 38 33 true (.Af (.t 5))::
og 39 33 true (.Ai 1 (.t 11))::
og 40 33 true (.Af (.t 39))::
og 41 33 true (.int .mul (.t 38) (.t 40))::
og 42 33 true (.int .add (.t 37) (.t 41))::
og 43 33 true (.Ai 2 (.t 11))::
og 44 33 true (.Af (.t 43))::
F6 45 33 true 105 [(.t 42),(.t 44)]::
og 46 33 true (.Az 2 (.t 10))::
og 47 33 true (.pure (Fa Tryz.f42 7 18))::
oo 48 (.pick (.t 33) (.t 47) (.c (Value.bool false)))::[]) []) (.cond (.t 48) (.seq (.reg (
 oo 49 (.Az 3 (.t 11))::
oz (.store 3 (.t 6) (.t 49))::
oz (.store 1 (.t 7) z0)::[])) .ret) .skip)))
theorem Ag8:ET Tryz.prog 51 false (He Tryz.f42 0).1=some gD:=rfl
theorem Ag7:ET Tryz.prog 51 false (He Tryz.f42 0).2=some gy:=rfl
noncomputable def a42:Ay:=(.seq (.reg (
 oo 3 (.box (.t 0) 28)::
oo 4 (.box (.t 1) 2)::
oo 5 (.box (.t 2) 2)::
oo 6 (.alloc [k0,k0,k0] 43)::
oo 7 (.alloc [k0] 34)::[])) (.seq (.reg (
 oo 13 (.Af (.t 3))::
oo 14 (.Af (.t 4))::
oo 15 (.Af (.t 5))::
oc 16 57 [(.t 13),(.t 14),(.t 15)]::
om 12 16::
oo 17 (.extract (.t 12) 0)::
oo 18 (.extract (.t 12) 1)::
oo 8 (.alloc [Value.map none,k0,k0,k0,k0] 111)::
oz (.store 5 (.t 8) (.t 17))::
om 9 18::[])) (.seq (.seq (.reg (
 om 19 9::
oo 20 (.int .neq (.t 19) z0)::[])) (.cond (.t 20) (.seq (.reg (
 oo 21 (.build [k0,k0,k0] [])::
om 22 9::
oz (.store 3 (.t 6) (.t 21))::
oz (.store 1 (.t 7) (.t 22))::[])) .ret) .skip)) (.seq (.reg (
 oo 23 (.Az 5 (.t 8))::
oc 24 58 [(.t 23)]::
oo 10 (.alloc [k0,k0] 57)::
oz (.store 2 (.t 10) (.t 24))::[])) (.seq (.seq (.reg (
 oo 25 (.Af (.t 3))::
oc 26 45 [(.t 25)]::
oc 27 104 [(.t 26)]::[])) (.block 0 (.range (.t 27) [28] 51 (He Tryz.f42 0).1 (He Tryz.f42 0).2 gD gy))) (.seq (.reg (
 oo 50 (.build [k0,k0,k0] [])::
oz (.store 3 (.t 6) (.t 50))::
oz (.store 1 (.t 7) (.c (Value.int .i64 20)))::[])) .ret))))))
def r42:List ResultVar:=[.cell 6 43,.cell 7 34]
theorem vW:Cf Tryz.prog 42 51 3 a42 r42:=
  ⟨rfl,Tryz.f42,_,rfl,rfl,rfl,by decide,rfl,rfl,rfl⟩
noncomputable def a43:Ay:=(.seq (.reg (
 oo 2 (.mv (.c (Value.slice none 0 0)))::[])) (.seq (.reg (
 om 9 0::
oo 10 (.BP (.t 9))::
oo 11 (.Ai 27 (.t 10))::
oo 12 (.Af (.t 11))::
oc 13 106 [(.t 12)]::
om 3 13::[])) (.seq (.reg (
 om 14 0::
oo 15 (.BP (.t 14))::
oo 16 (.Ai 28 (.t 15))::
oo 17 (.Af (.t 16))::
om 4 17::[])) (.seq .skip (.seq (.block 0 (.loop (.block 1 (.seq (.reg (
 om 19 3::
om 20 4::
oo 21 (.lookup 3 (k0) true (.t 19) (.t 20))::
om 18 21::
oo 22 (.extract (.t 18) 0)::
oo 23 (.extract (.t 18) 1)::
om 5 22::
om 6 23::[])) (.seq (.seq (.reg (
 om 24 6::
oo 25 (.not (.t 24))::[])) (.cond (.t 25) (.exit 0) .skip)) (.seq (.reg (
 om 26 3::
om 27 4::
oz (.delete 3 (.t 26) (.t 27))::[])) (.reg (
 om 28 5::
om 4 28::[])))))))) (.seq (.reg (
 om 29 4::
oo 30 (.BF [k0] [(0,1,(.t 29))] 1 3)::
om 7 30::[])) (.seq (.seq (.reg (
 om 31 0::
oo 32 (.BP (.t 31))::
oo 33 (.Ai 27 (.t 32))::
oo 34 (.Af (.t 33))::
om 35 4::
oo 36 (.lookup 3 (k0) false (.t 34) (.t 35))::
om 8 36::[])) (.block 2 (.loop (.seq (.seq (.reg (
 om 37 8::
om 38 4::
oo 39 (.int .neq (.t 37) (.t 38))::[])) (.cond (.t 39) .skip (.exit 2))) (.seq (.block 3 (.reg (
 om 46 7::
om 47 8::
oo 48 (.BF [k0] [(0,1,(.t 47))] 1 3)::
oo 49 (.append 3 1 8 (.t 46) (.t 48))::
om 7 49::[]))) (.reg (
 om 40 0::
oo 41 (.BP (.t 40))::
oo 42 (.Ai 27 (.t 41))::
oo 43 (.Af (.t 42))::
om 44 8::
oo 45 (.lookup 3 (k0) false (.t 43) (.t 44))::
om 8 45::[]))))))) (.seq (.reg (
 om 50 7::
om 51 4::
oo 52 (.BF [k0] [(0,1,(.t 51))] 1 3)::
oo 53 (.append 3 1 8 (.t 50) (.t 52))::
om 7 53::[])) (.seq (.reg (
 om 54 7::
oc 55 107 [(.t 54)]::[])) (.seq (.reg (
 om 56 7::
om 2 56::[])) .ret))))))))))
def r43:List ResultVar:=[.tmp 2]
theorem Afx:Cf Tryz.prog 43 57 1 a43 r43:=
  ⟨rfl,Tryz.f43,_,rfl,rfl,rfl,by decide,rfl,rfl,rfl⟩
noncomputable def a44:Ay:=(.seq (.reg (
 oo 2 (.mv z0)::[])) (.seq (.block 0 (.seq (.reg (
 om 4 0::
oo 5 (.len (.t 4))::
oo 6 (.int .gtr (.t 5) (.c (Value.int .i64 12)))::
om 3 6::[])) (.cond (.t 3) (.seq (.reg (
 oo 2 (.mv (.c (Value.int .i64 6)))::[])) .ret) (.seq (.reg (
 om 8 0::
oc 9 108 [(.t 8),(.c (Value.func (.func 109) #[] #[]))]::
om 7 9::[])) (.cond (.t 7) (.seq (.reg (
 oo 2 (.mv (.c (Value.int .i64 2)))::[])) .ret) .skip))))) (.seq (.reg (
 oo 2 (.mv z0)::[])) .ret)))
def r44:List ResultVar:=[.tmp 2]
theorem Afw:Cf Tryz.prog 44 10 1 a44 r44:=
  ⟨rfl,Tryz.f44,_,rfl,rfl,rfl,by decide,rfl,rfl,rfl⟩
noncomputable def a45:Ay:=(.seq (.reg (
 oo 2 (.mv (.c (Value.pointer none)))::[])) (.seq (.reg (
 oo 7 (.build [Value.slice none 0 0,Value.slice none 0 0] [])::
oo 8 (.box (.t 7) 205)::
om 3 8::[])) (.seq (.seq (.reg (
 om 9 0::
oo 10 (.len (.t 9))::
oo 11 (.mv z0)::[])) (.block 0 (.loop (.seq (.reg (
 oo 12 (.int .lss (.t 11) (.t 10))::[])) (.seq (.cond (.t 12) .skip (.exit 0)) (.seq (.block 1 (.seq (.reg (
 oo 13 (.Bb 4 (.t 9) (.t 11))::
oo 14 (.Az 4 (.t 13))::
oo 5 (.alloc [k0,k0,k0,k0] 27)::
oz (.store 4 (.t 5) (.t 14))::[])) (.seq (.reg (
 oo 15 (.Az 4 (.t 5))::
oc 16 111 [(.t 15)]::
oo 6 (.alloc [k0,k0,k0,k0,k0,k0,k0,k0,k0,k0] 207)::
oz (.store 10 (.t 6) (.t 16))::[])) (.seq (.BN (
 om 17 3::
om 18 3::
oo 19 (.BP (.t 18))::
oo 20 (.Ai 0 (.t 19))::
oo 21 (.Af (.t 20))::
oo 22 (.Az 10 (.t 6))::
oo 23 (.BF [k0,k0,k0,k0,k0,k0,k0,k0,k0,k0] [(0,10,(.t 22))] 1 207)::
oo 24 (.append 207 10 80 (.t 21) (.t 23))::
oo 25 (.BP (.t 17))::
oo 26 (.Ai 0 (.t 25))::
oz (.store 1 (.t 26) (.t 24))::[]) []) (.BN (
 om 27 3::
om 28 3::
oo 29 (.BP (.t 28))::
oo 30 (.Ai 1 (.t 29))::
oo 31 (.Af (.t 30))::
oo 32 (.Ai 4 (.t 6))::
oo 33 (.Az 3 (.t 32))::
oo 34 (.Ai 7 (.t 6))::
oo 35 (.Az 3 (.t 34))::
oo 36 (.BF [k0,k0,k0,k0,k0,k0] [(0,3,(.t 33)),(3,3,(.t 35))] 2 109)::
oo 37 (.append 109 3 24 (.t 31) (.t 36))::
oo 38 (.BP (.t 27))::
oo 39 (.Ai 1 (.t 38))::
oz (.store 1 (.t 39) (.t 37))::[]) []))))) (.reg (
 oo 40 (.int .add (.t 11) z1)::
om 11 40::[])))))))) (.seq (.reg (
 om 41 3::
om 2 41::[])) .ret))))
def r45:List ResultVar:=[.tmp 2]
theorem Afv:Cf Tryz.prog 45 42 1 a45 r45:=
  ⟨rfl,Tryz.f45,_,rfl,rfl,rfl,by decide,rfl,rfl,rfl⟩
noncomputable def gu:Ay:=(.reg (
 om 6 10::[]))
noncomputable def gk:Ay:=(.block 1 (.seq (.reg (
 oo 11 (.Af (.t 1))::
om 12 6::
oc 13 113 [(.t 11),(.t 12)]::
oo 7 (.alloc [Value.map none,k0,k0,k0,k0] 111)::
oz (.store 5 (.t 7) (.t 13))::[])) (.seq (.reg (
 oo 14 (.Ai 4 (.t 7))::
oo 15 (.Af (.t 14))::
oo 16 (.int .eql (.t 15) z1)::
om 17 16::
og 18 17 true (.Ai 1 (.t 7))::
og 19 17 true (.Az 3 (.t 18))::
F6 20 17 true 114 [(.t 19)]::
og 21 17 true (.build [k0,k0,k0] [])::
og 22 17 true (.pure (Fa Tryz.f46 6 8))::
oo 23 (.pick (.t 17) (.t 22) (.c (Value.bool false)))::
om 24 23::
og 25 24 true (.Ai 1 (.t 7))::
og 26 24 true (.Cc 3 1 (.t 25) (.c (Value.int .i64 2)))::
og 27 24 true (.Af (.t 26))::
og 28 24 true (.int .gtr (.t 27) z0)::
oo 29 (.pick (.t 24) (.t 28) (.c (Value.bool false)))::[])) (.cond (.t 29) (.seq (.reg (
 oo 30 (.Az 5 (.t 7))::
oz (.store 5 (.t 4) (.t 30))::
oz (.store 1 (.t 5) (.c (Value.bool true)))::[])) (.exit 0)) .skip))))
theorem Ag6:ET Tryz.prog 33 false (He Tryz.f46 0).1=some gu:=rfl
theorem Ag5:ET Tryz.prog 33 false (He Tryz.f46 0).2=some gk:=rfl
noncomputable def a46:Ay:=(.seq (.reg (
 oo 1 (.box (.t 0) 113)::
oo 2 (.alloc [Value.map none,k0,k0,k0,k0] 111)::
oo 3 (.mv (.c (Value.bool false)))::[])) (.seq (.reg (
 oo 4 (.alloc [Value.map none,k0,k0,k0,k0] 111)::[])) (.seq (.reg (
 oo 5 (.alloc [Value.bool false] 4)::
oz (.store 1 (.t 5) (.c (Value.bool false)))::[])) (.seq .skip (.seq (.seq (.reg (
 oo 8 (.Af (.t 1))::
oc 9 112 [(.t 8),(.c (Value.int .i64 3))]::[])) (.block 0 (.range (.t 9) [10] 33 (He Tryz.f46 0).1 (He Tryz.f46 0).2 gu gk))) (.seq (.BN (
 oo 31 (.Az 5 (.t 4))::
oo 32 (.Af (.t 5))::
oz (.store 5 (.t 2) (.t 31))::
om 3 32::[]) [((.t 5),(.t 2))]) .ret))))))
def r46:List ResultVar:=[.cell 2 111,.tmp 3]
theorem vV:Cf Tryz.prog 46 33 1 a46 r46:=
  ⟨rfl,Tryz.f46,_,rfl,rfl,rfl,by decide,rfl,rfl,rfl⟩
noncomputable def a47:Ay:=(.seq (.reg (
 oo 1 (.box (.t 0) 111)::
oo 2 (.alloc [Value.slice none 0 0,k0] 51)::[])) (.seq (.reg (
 oo 10 (.Ai 4 (.t 1))::
oo 11 (.Af (.t 10))::
oo 12 (.build [Value.slice none 0 0,k0] [(1,1,(.t 11))])::
oo 3 (.alloc [Value.slice none 0 0,k0] 51)::
oz (.store 2 (.t 3) (.t 12))::[])) (.seq (.seq (.reg (
 oo 13 (.Ai 0 (.t 1))::
oo 14 (.Af (.t 13))::
oo 15 (.GI (.t 14))::[])) (.block 0 (.loop (.seq (.next (.t 15) 16 17) (.seq (.cond (.t 17) .skip (.exit 0)) (.block 1 (.seq (.reg (
 oo 18 (.entry (.t 15))::
oo 19 (.extract (.t 18) 0)::
oo 20 (.extract (.t 18) 1)::
om 4 19::
om 5 20::[])) (.seq (.reg (
 om 21 5::
oo 22 (.int .eql (.t 21) z0)::[])) (.cond (.t 22) (.reg (
 oo 23 (.Ai 0 (.t 1))::
oo 24 (.Af (.t 23))::
om 25 4::
oz (.delete 3 (.t 24) (.t 25))::[])) .skip))))))))) (.seq (.reg (
 oo 6 (.mv (.c (Value.slice none 0 0)))::[])) (.seq (.seq (.reg (
 oo 26 (.Ai 0 (.t 1))::
oo 27 (.Af (.t 26))::
oo 28 (.GI (.t 27))::[])) (.block 2 (.loop (.seq (.next (.t 28) 29 30) (.seq (.cond (.t 30) .skip (.exit 2)) (.block 3 (.seq (.reg (
 oo 31 (.entry (.t 28))::
oo 32 (.extract (.t 31) 0)::
om 7 32::[])) (.reg (
 om 33 6::
om 34 7::
oo 35 (.BF [k0] [(0,1,(.t 34))] 1 3)::
oo 36 (.append 3 1 8 (.t 33) (.t 35))::
om 6 36::[]))))))))) (.seq (.reg (
 om 37 6::
oc 38 115 [(.t 37)]::[])) (.seq (.seq (.reg (
 om 39 6::
oo 40 (.len (.t 39))::
oo 41 (.mv z0)::[])) (.block 4 (.loop (.seq (.reg (
 oo 42 (.int .lss (.t 41) (.t 40))::[])) (.seq (.cond (.t 42) .skip (.exit 4)) (.seq (.block 5 (.seq (.reg (
 oo 43 (.Bb 1 (.t 39) (.t 41))::
oo 44 (.Af (.t 43))::
om 9 44::[])) (.reg (
 oo 45 (.Ai 0 (.t 3))::
oo 46 (.Af (.t 45))::
om 47 9::
oo 48 (.EV true (.t 47) (.c (Value.int .i64 2)))::
om 49 9::
oo 50 (.EV false (.t 49) (.c (Value.int .i64 2)))::
oo 51 (.int .eql (.t 50) z1)::
oo 52 (.Ai 0 (.t 1))::
oo 53 (.Af (.t 52))::
om 54 9::
oo 55 (.lookup 3 (k0) false (.t 53) (.t 54))::
oo 56 (.build [k0,Value.bool false,k0] [(0,1,(.t 48)),(1,1,(.t 51)),(2,1,(.t 55))])::
oo 57 (.BF [k0,Value.bool false,k0] [(0,3,(.t 56))] 1 120)::
oo 58 (.append 120 3 24 (.t 46) (.t 57))::
oo 59 (.Ai 0 (.t 3))::
oz (.store 1 (.t 59) (.t 58))::[])))) (.reg (
 oo 60 (.int .add (.t 41) z1)::
om 41 60::[])))))))) (.seq (.reg (
 oo 61 (.Az 2 (.t 3))::
oz (.store 2 (.t 2) (.t 61))::[])) .ret))))))))
def r47:List ResultVar:=[.cell 2 51]
theorem Afu:ZF Tryz.prog 47 62 1 a47 r47:=
  ⟨rfl,Tryz.f47,_,rfl,rfl,rfl,by decide,rfl,rfl,rfl⟩
noncomputable def a48:Ay:=(.seq (.reg (
 oo 1 (.box (.t 0) 31)::
oo 2 (.mv (.c (Value.slice none 0 0)))::[])) (.seq (.reg (
 oo 13 (.Ai 0 (.t 1))::
oo 14 (.Af (.t 13))::
oo 15 (.int .add z1 (.t 14))::
oo 16 (.Ai 1 (.t 1))::
oo 17 (.Af (.t 16))::
oo 18 (.int .add (.t 15) (.t 17))::
om 3 18::[])) (.seq (.reg (
 oo 4 (.mv (.c (Value.slice none 0 0)))::[])) (.seq (.seq (.reg (
 oo 5 (.mv z0)::[])) (.block 0 (.loop (.seq (.seq (.reg (
 om 19 5::
om 20 3::
oo 21 (.int .lss (.t 19) (.t 20))::[])) (.cond (.t 21) .skip (.exit 0))) (.seq (.block 1 (.seq (.reg (
 oo 6 (.mv (.c (Value.slice none 0 0)))::[])) (.seq (.seq (.reg (
 oo 7 (.mv z0)::[])) (.block 2 (.loop (.seq (.seq (.reg (
 om 24 7::
om 25 3::
oo 26 (.int .lss (.t 24) (.t 25))::[])) (.cond (.t 26) .skip (.exit 2))) (.seq (.block 3 (.reg (
 om 29 6::
oo 30 (.BF [k0] [(0,1,(.c (Value.int .i64 1125899906842624)))] 1 2)::
oo 31 (.append 2 1 8 (.t 29) (.t 30))::
om 6 31::[]))) (.reg (
 om 27 7::
oo 28 (.int .add (.t 27) z1)::
om 7 28::[]))))))) (.reg (
 om 32 4::
om 33 6::
oo 34 (.BF [Value.slice none 0 0] [(0,1,(.t 33))] 1 37)::
oo 35 (.append 37 1 24 (.t 32) (.t 34))::
om 4 35::[]))))) (.reg (
 om 22 5::
oo 23 (.int .add (.t 22) z1)::
om 5 23::[]))))))) (.seq (.seq (.reg (
 oo 8 (.mv z0)::[])) (.block 4 (.loop (.seq (.seq (.reg (
 om 36 8::
oo 37 (.Ai 0 (.t 1))::
oo 38 (.Af (.t 37))::
oo 39 (.int .lss (.t 36) (.t 38))::[])) (.cond (.t 39) .skip (.exit 4))) (.seq (.block 5 (.BN (
 om 42 4::
oo 43 (.Bb 1 (.t 42) z0)::
oo 44 (.Af (.t 43))::
om 45 8::
oo 46 (.int .add z1 (.t 45))::
om 47 4::
om 48 8::
oo 49 (.int .add z1 (.t 48))::
oo 50 (.Bb 1 (.t 47) (.t 49))::
oo 51 (.Af (.t 50))::
oo 52 (.Ai 2 (.t 1))::
oo 53 (.Ai 1 (.t 52))::
oo 54 (.Af (.t 53))::
oo 55 (.Ai 2 (.t 1))::
oo 56 (.Ai 0 (.t 55))::
oo 57 (.Af (.t 56))::
oo 58 (.neg (.t 57))::
oo 59 (.Bb 1 (.t 44) (.t 46))::
oz (.store 1 (.t 59) (.t 54))::
oo 60 (.Bb 1 (.t 51) z0)::
oz (.store 1 (.t 60) (.t 58))::[]) [((.t 56),(.t 59))])) (.reg (
 om 40 8::
oo 41 (.int .add (.t 40) z1)::
om 8 41::[]))))))) (.seq (.seq (.reg (
 oo 9 (.mv z0)::[])) (.block 6 (.loop (.seq (.seq (.reg (
 om 61 9::
oo 62 (.Ai 4 (.t 1))::
oo 63 (.Af (.t 62))::
oo 64 (.len (.t 63))::
oo 65 (.int .lss (.t 61) (.t 64))::[])) (.cond (.t 65) .skip (.exit 6))) (.seq (.block 7 (.seq (.reg (
 oo 68 (.Ai 4 (.t 1))::
oo 69 (.Af (.t 68))::
om 70 9::
oo 71 (.Bb 4 (.t 69) (.t 70))::
oo 72 (.Az 4 (.t 71))::
oo 10 (.alloc [k0,k0,k0,k0] 33)::
oz (.store 4 (.t 10) (.t 72))::[])) (.seq (.BN (
 oo 73 (.Ai 0 (.t 10))::
oo 74 (.Af (.t 73))::
oo 75 (.int .add z1 (.t 74))::
oo 76 (.Ai 0 (.t 1))::
oo 77 (.Af (.t 76))::
oo 78 (.int .add z1 (.t 77))::
oo 79 (.Ai 1 (.t 10))::
oo 80 (.Af (.t 79))::
oo 81 (.int .add (.t 78) (.t 80))::
om 11 75::
om 12 81::[]) []) (.seq (.BN (
 om 82 4::
om 83 12::
oo 84 (.Bb 1 (.t 82) (.t 83))::
oo 85 (.Af (.t 84))::
om 86 11::
om 87 4::
om 88 12::
oo 89 (.Bb 1 (.t 87) (.t 88))::
oo 90 (.Af (.t 89))::
om 91 11::
oo 92 (.Bb 1 (.t 90) (.t 91))::
oo 93 (.Af (.t 92))::
oo 94 (.Ai 2 (.t 10))::
oo 95 (.Ai 1 (.t 94))::
oo 96 (.Af (.t 95))::
oo 97 (.Il false (.t 93) (.t 96))::
oo 98 (.Bb 1 (.t 85) (.t 86))::
oz (.store 1 (.t 98) (.t 97))::[]) []) (.BN (
 om 99 4::
om 100 11::
oo 101 (.Bb 1 (.t 99) (.t 100))::
oo 102 (.Af (.t 101))::
om 103 12::
om 104 4::
om 105 11::
oo 106 (.Bb 1 (.t 104) (.t 105))::
oo 107 (.Af (.t 106))::
om 108 12::
oo 109 (.Bb 1 (.t 107) (.t 108))::
oo 110 (.Af (.t 109))::
oo 111 (.Ai 2 (.t 10))::
oo 112 (.Ai 0 (.t 111))::
oo 113 (.Af (.t 112))::
oo 114 (.neg (.t 113))::
oo 115 (.Il false (.t 110) (.t 114))::
oo 116 (.Bb 1 (.t 102) (.t 103))::
oz (.store 1 (.t 116) (.t 115))::[]) []))))) (.reg (
 om 66 9::
oo 67 (.int .add (.t 66) z1)::
om 9 67::[]))))))) (.seq (.reg (
 om 117 4::
om 2 117::[])) .ret)))))))
def r48:List ResultVar:=[.tmp 2]
theorem Aft:Cf Tryz.prog 48 118 1 a48 r48:=
  ⟨rfl,Tryz.f48,_,rfl,rfl,rfl,by decide,rfl,rfl,rfl⟩
noncomputable def a49:Ay:=(.seq (.reg (
 oo 6 (.mv z0)::[])) (.seq (.seq (.reg (
 om 7 0::
oc 8 8 [(.t 7)]::
oo 9 (.int .neq (.t 8) z0)::[])) (.cond (.t 9) (.seq (.reg (
 om 10 0::
oc 11 8 [(.t 10)]::
om 6 11::[])) .ret) .skip)) (.seq (.seq (.reg (
 om 12 1::
oc 13 35 [(.t 12)]::
oo 14 (.not (.t 13))::
om 15 14::
og 16 15 false (.mv (.t 2))::
F6 17 15 false 35 [(.t 16)]::
og 18 15 false (.not (.t 17))::
oo 19 (.pick (.t 15) (.c (Value.bool true)) (.t 18))::[])) (.cond (.t 19) (.seq (.reg (
 oo 6 (.mv (.c (Value.int .i64 3)))::[])) .ret) .skip)) (.seq (.reg (
 oo 6 (.mv z0)::[])) .ret))))
def r49:List ResultVar:=[.tmp 6]
theorem Afs:Cf Tryz.prog 49 20 3 a49 r49:=
  ⟨rfl,Tryz.f49,_,rfl,rfl,rfl,by decide,rfl,rfl,rfl⟩
noncomputable def a50:Ay:=(.seq (.reg (
 oo 4 (.alloc [k0,k0] 57)::[])) (.seq (.reg (
 om 6 0::
oc 7 117 [(.t 6)]::
om 8 1::
oc 9 116 [(.t 7),(.t 8)]::
om 5 9::[])) (.seq (.BN (
 om 10 0::
om 11 5::
oo 12 (.EV true (.t 10) (.t 11))::
om 13 1::
om 14 5::
oo 15 (.EV true (.t 13) (.t 14))::
oo 16 (.build [k0,k0] [(0,1,(.t 12)),(1,1,(.t 15))])::
oz (.store 2 (.t 4) (.t 16))::[]) []) .ret)))
def r50:List ResultVar:=[.cell 4 57]
theorem Afr:Cf Tryz.prog 50 17 2 a50 r50:=
  ⟨rfl,Tryz.f50,_,rfl,rfl,rfl,by decide,rfl,rfl,rfl⟩
noncomputable def a51:Ay:=(.seq (.reg (
 oo 2 (.mv (.c (Value.bool false)))::[])) (.seq (.seq (.reg (
 oo 3 (.mv z0)::[])) (.block 0 (.loop (.seq (.seq (.reg (
 om 4 3::
om 5 0::
oo 6 (.len (.t 5))::
oo 7 (.int .lss (.t 4) (.t 6))::[])) (.cond (.t 7) .skip (.exit 0))) (.seq (.block 1 (.seq (.reg (
 om 10 0::
om 11 3::
oo 12 (.Bb 1 (.t 10) (.t 11))::
oo 13 (.Af (.t 12))::
oo 14 (.int .lss (.t 13) (.c (Value.int .i64 (-1099511627776))))::
om 15 14::
og 16 15 false (.mv (.t 0))::
og 17 15 false (.mv (.t 3))::
og 18 15 false (.Bb 1 (.t 16) (.t 17))::
og 19 15 false (.Af (.t 18))::
og 20 15 false (.int .gtr (.t 19) (.c (Value.int .i64 1099511627776)))::
oo 21 (.pick (.t 15) (.c (Value.bool true)) (.t 20))::[])) (.cond (.t 21) (.seq (.reg (
 oo 2 (.mv (.c (Value.bool false)))::[])) .ret) .skip))) (.reg (
 om 8 3::
oo 9 (.int .add (.t 8) z1)::
om 3 9::[]))))))) (.seq (.reg (
 oo 2 (.mv (.c (Value.bool true)))::[])) .ret)))
def r51:List ResultVar:=[.tmp 2]
theorem Afq:Cf Tryz.prog 51 22 1 a51 r51:=
  ⟨rfl,Tryz.f51,_,rfl,rfl,rfl,by decide,rfl,rfl,rfl⟩
noncomputable def a52:Ay:=(.seq (.reg (
 oo 1 (.box (.t 0) 43)::
oo 2 (.mv (.c (Value.bool false)))::[])) (.seq (.reg (
 oo 3 (.Ai 2 (.t 1))::
oo 4 (.Af (.t 3))::
oo 5 (.int .geq (.t 4) z1)::
om 6 5::
og 7 6 true (.Ai 2 (.t 1))::
og 8 6 true (.Af (.t 7))::
og 9 6 true (.int .leq (.t 8) (.c (Value.int .i64 1099511627776)))::
oo 10 (.pick (.t 6) (.t 9) (.c (Value.bool false)))::
om 11 10::
og 12 11 true (.Ai 0 (.t 1))::
og 13 11 true (.Af (.t 12))::
og 14 11 true (.int .geq (.t 13) (.c (Value.int .i64 (-1099511627776))))::
oo 15 (.pick (.t 11) (.t 14) (.c (Value.bool false)))::
om 16 15::
og 17 16 true (.Ai 0 (.t 1))::
og 18 16 true (.Af (.t 17))::
og 19 16 true (.int .leq (.t 18) (.c (Value.int .i64 1099511627776)))::
oo 20 (.pick (.t 16) (.t 19) (.c (Value.bool false)))::
om 21 20::
og 22 21 true (.Ai 1 (.t 1))::
og 23 21 true (.Af (.t 22))::
og 24 21 true (.int .geq (.t 23) (.c (Value.int .i64 (-1099511627776))))::
oo 25 (.pick (.t 21) (.t 24) (.c (Value.bool false)))::
om 26 25::
og 27 26 true (.Ai 1 (.t 1))::
og 28 26 true (.Af (.t 27))::
og 29 26 true (.int .leq (.t 28) (.c (Value.int .i64 1099511627776)))::
oo 30 (.pick (.t 26) (.t 29) (.c (Value.bool false)))::
om 2 30::[])) .ret))
def r52:List ResultVar:=[.tmp 2]
theorem Afp:Cf Tryz.prog 52 31 1 a52 r52:=
  ⟨rfl,Tryz.f52,_,rfl,rfl,rfl,by decide,rfl,rfl,rfl⟩
noncomputable def a53:Ay:=(.seq (.reg (
 oo 3 (.box (.t 1) 43)::
oo 4 (.mv (.c (Value.bool false)))::[])) (.seq (.seq (.reg (
 oo 5 (.mv z0)::[])) (.block 0 (.loop (.seq (.seq (.reg (
 om 7 5::
om 8 0::
oo 9 (.len (.t 8))::
oo 10 (.int .lss (.t 7) (.t 9))::[])) (.cond (.t 10) .skip (.exit 0))) (.seq (.block 1 (.seq (.BN (
 om 13 0::
om 14 5::
oo 15 (.Bb 4 (.t 13) (.t 14))::
oo 16 (.Ai 0 (.t 15))::
oo 17 (.Af (.t 16))::
oo 18 (.Ai 0 (.t 3))::
oo 19 (.Af (.t 18))::
oo 20 (.int .mul (.t 17) (.t 19))::
om 21 0::
om 22 5::
oo 23 (.Bb 4 (.t 21) (.t 22))::
oo 24 (.Ai 1 (.t 23))::
oo 25 (.Af (.t 24))::
oo 26 (.Ai 1 (.t 3))::
oo 27 (.Af (.t 26))::
oo 28 (.int .mul (.t 25) (.t 27))::
oo 29 (.int .add (.t 20) (.t 28))::
om 6 29::[]) []) (.seq (.BN (
 om 30 6::
om 31 0::
om 32 5::
oo 33 (.Bb 4 (.t 31) (.t 32))::
oo 34 (.Ai 2 (.t 33))::
oo 35 (.Ai 0 (.t 34))::
oo 36 (.Af (.t 35))::
oo 37 (.Ai 2 (.t 3))::
oo 38 (.Af (.t 37))::
oo 39 (.int .mul (.t 36) (.t 38))::
oo 40 (.int .lss (.t 30) (.t 39))::
om 41 40::
og 42 41 false (.mv (.t 6))::
og 43 41 false (.mv (.t 0))::
og 44 41 false (.mv (.t 5))::
og 45 41 false (.Bb 4 (.t 43) (.t 44))::
og 46 41 false (.Ai 2 (.t 45))::
og 47 41 false (.Ai 1 (.t 46))::
og 48 41 false (.Af (.t 47))::
og 49 41 false (.Ai 2 (.t 3))::
og 50 41 false (.Af (.t 49))::
og 51 41 false (.int .mul (.t 48) (.t 50))::
og 52 41 false (.int .gtr (.t 42) (.t 51))::
oo 53 (.pick (.t 41) (.c (Value.bool true)) (.t 52))::[]) []) (.cond (.t 53) (.seq (.reg (
 oo 4 (.mv (.c (Value.bool false)))::[])) .ret) .skip)))) (.reg (
 om 11 5::
oo 12 (.int .add (.t 11) z1)::
om 5 12::[]))))))) (.seq (.reg (
 oo 4 (.mv (.c (Value.bool true)))::[])) .ret)))
def r53:List ResultVar:=[.tmp 4]
theorem Afo:Cf Tryz.prog 53 54 2 a53 r53:=
  ⟨rfl,Tryz.f53,_,rfl,rfl,rfl,by decide,rfl,rfl,rfl⟩
noncomputable def a54:Ay:=(.seq (.reg (
 oo 3 (.box (.t 0) 2)::
oo 4 (.box (.t 1) 2)::
oo 6 (.mv (.c (Value.bool false)))::[])) (.seq (.reg (
 om 7 2::
oo 8 (.Hf (Fn.func 119) [] [(.t 3),(.t 4)])::
oc 9 118 [(.t 7),(.t 8)]::
oo 10 (.not (.t 9))::
om 6 10::[])) .ret))
def r54:List ResultVar:=[.tmp 6]
theorem Afn:Cf Tryz.prog 54 11 3 a54 r54:=
  ⟨rfl,Tryz.f54,_,rfl,rfl,rfl,by decide,rfl,rfl,rfl⟩
noncomputable def a55:Ay:=(.seq (.reg (
 oo 2 (.box (.t 0) 31)::
oo 4 (.mv (.c (Value.pointer none)))::
oo 5 (.mv (.c (Value.pointer none)))::
oo 6 (.mv z0)::[])) (.seq (.seq (.reg (
 oo 15 (.Az 5 (.t 2))::
oc 16 38 [(.t 15)]::
om 7 16::[])) (.seq (.reg (
 om 17 7::
oo 18 (.int .neq (.t 17) z0)::[])) (.cond (.t 18) (.seq (.reg (
 om 19 7::
oo 4 (.mv (.c (Value.pointer none)))::
oo 5 (.mv (.c (Value.pointer none)))::
om 6 19::[])) .ret) .skip))) (.seq (.seq (.reg (
 om 20 1::
oo 21 (.len (.t 20))::
oo 22 (.mv z0)::[])) (.block 0 (.loop (.seq (.reg (
 oo 23 (.int .lss (.t 22) (.t 21))::[])) (.seq (.cond (.t 23) .skip (.exit 0)) (.seq (.block 1 (.seq (.reg (
 oo 24 (.Bb 1 (.t 20) (.t 22))::
oo 25 (.Af (.t 24))::
om 9 25::[])) (.seq (.reg (
 om 26 9::
oo 27 (.int .lss (.t 26) z0)::
om 28 27::
og 29 28 false (.mv (.t 9))::
og 30 28 false (.Ai 1 (.t 2))::
og 31 28 false (.Af (.t 30))::
og 32 28 false (.int .geq (.t 29) (.t 31))::
oo 33 (.pick (.t 28) (.c (Value.bool true)) (.t 32))::[])) (.cond (.t 33) (.seq (.reg (
 oo 4 (.mv (.c (Value.pointer none)))::
oo 5 (.mv (.c (Value.pointer none)))::
oo 6 (.mv (.c (Value.int .i64 3)))::[])) .ret) .skip)))) (.reg (
 oo 34 (.int .add (.t 22) z1)::
om 22 34::[])))))))) (.seq (.reg (
 oo 35 (.Az 5 (.t 2))::
oc 36 39 [(.t 35)]::
om 10 36::[])) (.seq (.reg (
 om 38 10::
oc 39 40 [(.t 38)]::
om 37 39::
oo 40 (.extract (.t 37) 0)::
oo 41 (.extract (.t 37) 1)::
om 11 40::
om 12 41::[])) (.seq (.seq (.reg (
 om 42 12::
oo 43 (.not (.t 42))::[])) (.cond (.t 43) (.seq (.reg (
 oo 4 (.mv (.c (Value.pointer none)))::
oo 5 (.mv (.c (Value.pointer none)))::
oo 6 (.mv (.c (Value.int .i64 20)))::[])) .ret) .skip)) (.seq (.seq (.reg (
 om 44 1::
oo 45 (.len (.t 44))::
oo 46 (.mv z0)::[])) (.block 2 (.loop (.seq (.reg (
 oo 47 (.int .lss (.t 46) (.t 45))::[])) (.seq (.cond (.t 47) .skip (.exit 2)) (.seq (.block 3 (.seq (.reg (
 oo 48 (.Bb 1 (.t 44) (.t 46))::
oo 49 (.Af (.t 48))::
oo 14 (.alloc [k0] 3)::
oz (.store 1 (.t 14) (.t 49))::[])) (.seq (.reg (
 oo 50 (.Ai 4 (.t 2))::
oo 51 (.Af (.t 50))::
oo 52 (.Hf (Fn.func 120) [] [(.t 14)])::
oc 53 98 [(.t 51),(.t 52)]::
oo 54 (.not (.t 53))::[])) (.cond (.t 54) (.seq (.reg (
 oo 4 (.mv (.c (Value.pointer none)))::
oo 5 (.mv (.c (Value.pointer none)))::
oo 6 (.mv (.c (Value.int .i64 5)))::[])) .ret) .skip)))) (.reg (
 oo 55 (.int .add (.t 46) z1)::
om 46 55::[])))))))) (.seq (.reg (
 om 56 10::
om 57 11::
om 4 56::
om 5 57::
oo 6 (.mv z0)::[])) .ret))))))))
def r55:List ResultVar:=[.tmp 4,.tmp 5,.tmp 6]
theorem Afm:Cf Tryz.prog 55 58 2 a55 r55:=
  ⟨rfl,Tryz.f55,_,rfl,rfl,rfl,by decide,rfl,rfl,rfl⟩
noncomputable def a56:Ay:=(.seq (.reg (
 oo 2 (.mv (.c (Value.pointer none)))::[])) (.seq (.BN (
 om 6 0::
oo 7 (.BP (.t 6))::
oo 8 (.Ai 0 (.t 7))::
oo 9 (.Az 5 (.t 8))::
om 10 0::
oo 11 (.BP (.t 10))::
oo 12 (.Ai 5 (.t 11))::
oo 13 (.Af (.t 12))::
oo 14 (.build [k0,k0,k0,k0,Value.slice none 0 0,k0,Value.bool false,k0,Value.bool false,k0,Value.bool false,k0,Value.bool false,k0,Value.bool false,k0,Value.bool false,k0,Value.bool false,k0,Value.bool false,k0,Value.bool false,k0,Value.bool false,k0,Value.bool false,k0,Value.bool false,k0,Value.bool false,k0,Value.bool false,k0,Value.bool false,k0,Value.bool false,k0,Value.bool false,k0,Value.bool false,k0,Value.bool false,k0,Value.bool false,k0,Value.bool false,k0,Value.bool false,k0,Value.bool false,k0,Value.bool false,k0,Value.bool false,k0,Value.bool false,k0,Value.bool false,k0,Value.bool false,k0,Value.bool false,k0,Value.bool false,k0,Value.bool false,k0,Value.bool false,k0,Value.bool false,k0,Value.bool false,k0,Value.bool false,k0,Value.bool false,k0,Value.bool false,k0,Value.bool false,k0,Value.bool false,k0,Value.bool false,k0,Value.bool false,k0,Value.bool false,k0,Value.bool false,k0,Value.bool false,k0,Value.bool false,k0,Value.bool false,k0,Value.bool false,k0,Value.bool false,k0,Value.bool false,k0,Value.bool false,k0,Value.bool false,k0,Value.bool false,k0,Value.bool false,k0,Value.bool false,k0,Value.bool false,k0,Value.bool false,k0,Value.bool false,k0,Value.bool false,k0,Value.bool false,k0,Value.bool false,k0,Value.bool false,k0,Value.bool false,k0,Value.bool false,k0,Value.bool false,k0,Value.bool false,k0,Value.bool false,k0,Value.bool false,k0,Value.bool false,k0,Value.bool false,k0,Value.bool false,k0,Value.bool false,k0,Value.bool false,k0,Value.bool false,k0,Value.bool false,k0,Value.bool false,k0,Value.bool false,k0,Value.bool false,k0,Value.bool false,k0,Value.bool false,k0,Value.bool false,k0,Value.bool false,k0,Value.bool false,k0,Value.bool false,k0,Value.bool false,k0,Value.bool false,k0,Value.bool false,k0,Value.bool false,k0,Value.bool false,k0,Value.bool false,k0,Value.bool false,k0,Value.bool false,k0,Value.bool false,k0,Value.bool false,k0,Value.bool false,k0,Value.bool false,k0,Value.bool false,k0,Value.bool false,k0,Value.bool false,k0,Value.bool false,k0,Value.bool false,k0,Value.bool false,k0,Value.bool false,k0,Value.bool false,k0,Value.bool false,k0,Value.bool false,k0,Value.bool false,k0,Value.bool false,k0,Value.bool false,k0,Value.bool false,k0,Value.bool false,k0,Value.bool false,k0,Value.bool false,k0,Value.bool false,k0,Value.bool false,k0,Value.bool false,k0,Value.bool false,k0,Value.bool false,k0,Value.bool false,k0,Value.bool false,k0,Value.bool false,k0,Value.bool false,k0,Value.bool false,k0,Value.bool false,k0,Value.bool false,k0,Value.bool false,k0,Value.bool false,k0,Value.bool false,k0,Value.bool false,k0,Value.bool false,k0,Value.bool false,k0,Value.bool false,k0,Value.bool false,k0,Value.bool false,k0,Value.bool false,k0,Value.bool false,k0,Value.bool false,k0,Value.bool false,k0,Value.bool false,k0,Value.bool false,k0,Value.bool false,k0,Value.bool false,k0,Value.bool false,k0,Value.bool false,k0,Value.bool false,k0,Value.bool false,k0,Value.bool false,k0,Value.bool false,k0,Value.bool false,k0,Value.bool false,k0,Value.bool false,k0,Value.bool false,k0,Value.bool false,k0,Value.bool false,k0,Value.bool false,k0,Value.bool false,k0,Value.bool false,k0,Value.bool false,k0,Value.bool false,k0,Value.bool false,k0,Value.bool false,k0,Value.bool false,k0,Value.bool false,k0,Value.bool false,k0,Value.bool false,k0,Value.bool false,k0,Value.bool false,k0,Value.bool false,k0,Value.bool false,k0,Value.bool false,k0] [(0,5,(.t 9)),(5,1,(.t 13))])::
oo 15 (.box (.t 14) 187)::
om 3 15::[]) []) (.seq (.seq (.reg (
 om 16 0::
oo 17 (.BP (.t 16))::
oo 18 (.Ai 5 (.t 17))::
oo 19 (.Af (.t 18))::
oo 20 (.mv z0)::[])) (.block 0 (.loop (.seq (.reg (
 oo 21 (.int .lss (.t 20) (.t 19))::[])) (.seq (.cond (.t 21) .skip (.exit 0)) (.seq (.block 1 (.seq (.reg (
 om 22 20::
om 4 22::[])) (.seq (.reg (
 om 23 0::
oo 24 (.BP (.t 23))::
oo 25 (.Ai 5 (.t 24))::
oo 26 (.Af (.t 25))::
oo 27 (.mv z0)::[])) (.block 2 (.loop (.seq (.reg (
 oo 28 (.int .lss (.t 27) (.t 26))::[])) (.seq (.cond (.t 28) .skip (.exit 2)) (.seq (.block 3 (.seq (.reg (
 om 29 27::
om 5 29::[])) (.BN (
 om 30 3::
om 31 5::
om 32 4::
om 33 0::
om 34 4::
om 35 5::
oo 36 (.BP (.t 33))::
oo 37 (.Ai 6 (.t 36))::
oo 38 (.Cc 13 26 (.t 37) (.t 34))::
oo 39 (.Cc 13 2 (.t 38) (.t 35))::
oo 40 (.Az 2 (.t 39))::
oo 41 (.BP (.t 30))::
oo 42 (.Ai 6 (.t 41))::
oo 43 (.Cc 13 26 (.t 42) (.t 31))::
oo 44 (.Cc 13 2 (.t 43) (.t 32))::
oz (.store 2 (.t 44) (.t 40))::[]) []))) (.reg (
 oo 45 (.int .add (.t 27) z1)::
om 27 45::[])))))))))) (.reg (
 oo 46 (.int .add (.t 20) z1)::
om 20 46::[])))))))) (.seq (.reg (
 om 47 3::
om 2 47::[])) .ret))))
def r56:List ResultVar:=[.tmp 2]
theorem Afl:Cf Tryz.prog 56 48 1 a56 r56:=
  ⟨rfl,Tryz.f56,_,rfl,rfl,rfl,by decide,rfl,rfl,rfl⟩
noncomputable def a57:Ay:=(.seq (.reg (
 oo 6 (.alloc [Value.map none,k0,k0,k0,k0] 111)::
oo 7 (.mv z0)::[])) (.seq (.seq (.reg (
 om 14 0::
om 15 1::
om 16 2::
oc 17 121 [(.t 14),(.t 15),(.t 16)]::
om 8 17::[])) (.seq (.reg (
 om 18 8::
oo 19 (.int .neq (.t 18) z0)::[])) (.cond (.t 19) (.seq (.reg (
 oo 20 (.build [Value.map none,k0,k0,k0,k0] [])::
om 21 8::
oz (.store 5 (.t 6) (.t 20))::
om 7 21::[])) .ret) .skip))) (.seq (.reg (
 om 22 0::
oc 23 45 [(.t 22)]::
om 9 23::[])) (.seq (.seq (.reg (
 om 25 9::
oc 26 46 [(.t 25)]::
om 24 26::
oo 27 (.extract (.t 24) 0)::
oo 28 (.extract (.t 24) 1)::
oo 10 (.alloc [Value.map none,k0,k0,k0,k0] 111)::
oz (.store 5 (.t 10) (.t 27))::
om 11 28::[])) (.seq (.reg (
 om 29 11::[])) (.cond (.t 29) (.seq (.reg (
 oo 30 (.build [Value.map none,k0,k0,k0,k0] [])::
oz (.store 5 (.t 6) (.t 30))::
oo 7 (.mv (.c (Value.int .i64 20)))::[])) .ret) .skip))) (.seq (.reg (
 om 32 9::
om 33 1::
om 34 2::
oc 35 122 [(.t 32),(.t 33),(.t 34)]::
om 31 35::
oo 36 (.extract (.t 31) 0)::
oo 37 (.extract (.t 31) 1)::
oo 12 (.alloc [Value.map none,k0,k0,k0,k0] 111)::
oz (.store 5 (.t 12) (.t 36))::
om 13 37::[])) (.seq (.seq (.reg (
 om 38 13::
oo 39 (.not (.t 38))::[])) (.cond (.t 39) (.seq (.reg (
 oo 40 (.build [Value.map none,k0,k0,k0,k0] [])::
oz (.store 5 (.t 6) (.t 40))::
oo 7 (.mv (.c (Value.int .i64 5)))::[])) .ret) .skip)) (.seq (.reg (
 oo 41 (.Az 5 (.t 12))::
oz (.store 5 (.t 6) (.t 41))::
oo 7 (.mv z0)::[])) .ret)))))))
def r57:List ResultVar:=[.cell 6 111,.tmp 7]
theorem Afk:Cf Tryz.prog 57 42 3 a57 r57:=
  ⟨rfl,Tryz.f57,_,rfl,rfl,rfl,by decide,rfl,rfl,rfl⟩
noncomputable def a58:Ay:=(.seq (.reg (
 oo 1 (.box (.t 0) 111)::
oo 2 (.alloc [k0,k0] 57)::[])) (.seq (.reg (
 oo 3 (.Ai 1 (.t 1))::
oo 4 (.Cc 3 1 (.t 3) (.c (Value.int .i64 2)))::
oo 5 (.Af (.t 4))::
oo 6 (.Ai 4 (.t 1))::
oo 7 (.Af (.t 6))::
oc 8 105 [(.t 5),(.t 7)]::
oz (.store 2 (.t 2) (.t 8))::[])) .ret))
def r58:List ResultVar:=[.cell 2 57]
theorem Afj:Cf Tryz.prog 58 9 1 a58 r58:=
  ⟨rfl,Tryz.f58,_,rfl,rfl,rfl,by decide,rfl,rfl,rfl⟩
noncomputable def a74:Ay:=(.seq (.reg (
 oo 2 (.box (.t 0) 2)::
oo 4 (.mv (.c (Value.bool false)))::[])) (.seq (.reg (
 om 5 1::
oo 6 (.Hf (Fn.func 145) [] [(.t 2)])::
oc 7 118 [(.t 5),(.t 6)]::
oo 8 (.not (.t 7))::
om 4 8::[])) .ret))
def r74:List ResultVar:=[.tmp 4]
theorem Ae5:Cf Tryz.prog 74 9 2 a74 r74:=
  ⟨rfl,Tryz.f74,_,rfl,rfl,rfl,by decide,rfl,rfl,rfl⟩
noncomputable def a76:Ay:=(.seq (.reg (
 oo 0 (.mv (.c (Value.bool false)))::[])) (.seq (.reg (
 oc 1 146 []::
om 2 1::
F6 3 2 true 147 []::
oo 4 (.pick (.t 2) (.t 3) (.c (Value.bool false)))::
om 5 4::
F6 6 5 true 148 []::
oo 7 (.pick (.t 5) (.t 6) (.c (Value.bool false)))::
om 0 7::[])) .ret))
def r76:List ResultVar:=[.tmp 0]
theorem Ae3:Cf Tryz.prog 76 8 0 a76 r76:=
  ⟨rfl,Tryz.f76,_,rfl,rfl,rfl,by decide,rfl,rfl,rfl⟩
noncomputable def a96:Ay:=(.seq (.reg (
 oo 4 (.mv (.c (Value.bool false)))::[])) (.seq (.reg (
 om 5 0::
oo 6 (.int .geq (.t 5) z0)::
om 7 6::
og 8 7 true (.mv (.t 0))::
og 9 7 true (.mv (.t 1))::
og 10 7 true (.int .lss (.t 8) (.t 9))::
oo 11 (.pick (.t 7) (.t 10) (.c (Value.bool false)))::
om 4 11::[])) .ret))
def r96:List ResultVar:=[.tmp 4]
theorem Ae2:Cf Tryz.prog 96 12 2 a96 r96:=
  ⟨rfl,Tryz.f96,_,rfl,rfl,rfl,by decide,rfl,rfl,rfl⟩
noncomputable def a97:Ay:=(.seq (.reg (
 oo 1 (.box (.t 0) 23)::
oo 2 (.mv (.c (Value.bool false)))::[])) (.seq (.reg (
 oo 3 (.Ai 0 (.t 1))::
oo 4 (.Af (.t 3))::
oo 5 (.Ai 1 (.t 1))::
oo 6 (.Af (.t 5))::
oo 7 (.int .leq (.t 4) (.t 6))::
om 8 7::
og 9 8 true (.Ai 0 (.t 1))::
og 10 8 true (.Af (.t 9))::
og 11 8 true (.Ai 1 (.t 1))::
og 12 8 true (.Af (.t 11))::
og 13 8 true (.BF [k0,k0] [(0,1,(.t 10)),(1,1,(.t 12))] 2 2)::
F6 14 8 true 74 [(.c (Value.int .i64 1000000)),(.t 13)]::
oo 15 (.pick (.t 8) (.t 14) (.c (Value.bool false)))::
om 2 15::[])) .ret))
def r97:List ResultVar:=[.tmp 2]
theorem Ae1:Cf Tryz.prog 97 16 1 a97 r97:=
  ⟨rfl,Tryz.f97,_,rfl,rfl,rfl,by decide,rfl,rfl,rfl⟩
noncomputable def a98:Ay:=(.seq (.reg (
 oo 4 (.mv (.c (Value.bool false)))::[])) (.seq (.reg (
 om 5 0::
om 6 1::
oc 7 188 [(.t 5),(.t 6)]::
oo 8 (.int .geq (.t 7) z0)::
om 4 8::[])) .ret))
def r98:List ResultVar:=[.tmp 4]
theorem Ae0:Cf Tryz.prog 98 9 2 a98 r98:=
  ⟨rfl,Tryz.f98,_,rfl,rfl,rfl,by decide,rfl,rfl,rfl⟩
noncomputable def a99:Ay:=(.seq (.reg (
 oo 3 (.box (.t 0) 33)::
oo 4 (.mv (.c (Value.bool false)))::[])) (.seq (.reg (
 oo 5 (.Af (.t 1))::
oo 6 (.Ai 0 (.t 3))::
oo 7 (.Af (.t 6))::
oo 8 (.Ai 0 (.t 2))::
oo 9 (.Af (.t 8))::
⟨(some 10),none,(.call (.t 5) [(.t 7),(.t 9)])⟩::
oo 11 (.not (.t 10))::
om 12 11::
og 13 12 false (.Af (.t 1))::
og 14 12 false (.Ai 1 (.t 3))::
og 15 12 false (.Af (.t 14))::
og 16 12 false (.Ai 1 (.t 2))::
og 17 12 false (.Af (.t 16))::
⟨(some 18),(some (12,false)),(.call (.t 13) [(.t 15),(.t 17)])⟩::
og 19 12 false (.not (.t 18))::
oo 20 (.pick (.t 12) (.c (Value.bool true)) (.t 19))::
om 4 20::[])) .ret))
def r99:List ResultVar:=[.tmp 4]
theorem Aez:Cf Tryz.prog 99 21 3 a99 r99:=
  ⟨rfl,Tryz.f99,_,rfl,rfl,rfl,by decide,rfl,rfl,rfl⟩
noncomputable def Ai9:Ay:=(.seq (.reg (
 oo 1 (.box (.t 0) 33)::
oo 2 (.mv (.c (Value.bool false)))::[])) (.seq (.reg (
 oo 3 (.Ai 2 (.t 1))::
oo 4 (.Az 2 (.t 3))::
oc 5 97 [(.t 4)]::
oo 6 (.not (.t 5))::
om 2 6::[])) .ret))
def Amm:List ResultVar:=[.tmp 2]
theorem Aa9:Cf Tryz.prog 100 7 1 Ai9 Amm:=
  ⟨rfl,Tryz.f100,_,rfl,rfl,rfl,by decide,rfl,rfl,rfl⟩
noncomputable def Ai8:Ay:=(.seq (.reg (
 om 9 0::
om 10 1::
om 11 2::
oo 12 (.BP (.t 9))::
oo 13 (.Ai 6 (.t 12))::
oo 14 (.Cc 13 26 (.t 13) (.t 10))::
oo 15 (.Cc 13 2 (.t 14) (.t 11))::
oo 16 (.Az 2 (.t 15))::
oo 8 (.alloc [Value.bool false,k0] 182)::
oz (.store 2 (.t 8) (.t 16))::[])) (.BN (
 om 17 0::
om 18 1::
om 19 2::
om 20 3::
oo 21 (.Hf (Fn.func 190) [] [(.t 8)])::
oc 22 189 [(.t 20),(.t 21)]::
oo 23 (.build [Value.bool false,k0] [(0,1,(.c (Value.bool true))),(1,1,(.t 22))])::
oo 24 (.BP (.t 17))::
oo 25 (.Ai 6 (.t 24))::
oo 26 (.Cc 13 26 (.t 25) (.t 18))::
oo 27 (.Cc 13 2 (.t 26) (.t 19))::
oz (.store 2 (.t 27) (.t 23))::[]) []))
def Aml:List ResultVar:=[]
theorem Aa8:Cf Tryz.prog 101 28 4 Ai8 Aml:=
  ⟨rfl,Tryz.f101,_,rfl,rfl,rfl,by decide,rfl,rfl,rfl⟩
noncomputable def Xk:Ay:=(.reg (
 oo 7 (.alloc [k0,k0,k0] 305)::
oz (.store 3 (.t 7) (.t 31))::[]))
noncomputable def Xj:Ay:=(.block 3 (.seq (.BN (
 oo 32 (.Af (.t 6))::
oo 33 (.Ai 0 (.t 7))::
oo 34 (.Af (.t 33))::
oo 35 (.BP (.t 32))::
oo 36 (.Ai 1 (.t 35))::
oo 37 (.Cc 13 2 (.t 36) (.t 34))::
oo 38 (.Az 2 (.t 37))::
oo 39 (.Af (.t 6))::
oo 40 (.Ai 1 (.t 7))::
oo 41 (.Af (.t 40))::
oo 42 (.BP (.t 39))::
oo 43 (.Ai 1 (.t 42))::
oo 44 (.Cc 13 2 (.t 43) (.t 41))::
oo 45 (.Az 2 (.t 44))::
oo 8 (.alloc [Value.bool false,k0] 182)::
oo 9 (.alloc [Value.bool false,k0] 182)::
oz (.store 2 (.t 8) (.t 38))::
oz (.store 2 (.t 9) (.t 45))::[]) [((.t 6),(.t 8)),((.t 40),(.t 8)),((.t 44),(.t 8))]) (.seq (.reg (
 oo 46 (.Ai 0 (.t 8))::
oo 47 (.Af (.t 46))::
om 48 47::
og 49 48 true (.Ai 0 (.t 9))::
og 50 48 true (.Af (.t 49))::
og 51 48 true (.not (.t 50))::
og 52 48 true (.mv (.t 51))::
og 53 52 false (.Ai 1 (.t 8))::
og 54 52 false (.Af (.t 53))::
og 55 52 false (.Ai 2 (.t 7))::
og 56 52 false (.Af (.t 55))::
og 57 52 false (.int .add (.t 54) (.t 56))::
og 58 52 false (.Ai 1 (.t 9))::
og 59 52 false (.Af (.t 58))::
og 60 52 false (.int .lss (.t 57) (.t 59))::
og 61 48 true (.pick (.t 52) (.c (Value.bool true)) (.t 60))::
oo 62 (.pick (.t 48) (.t 61) (.c (Value.bool false)))::[])) (.cond (.t 62) (.seq (.BN (
 oo 63 (.Af (.t 6))::
oo 64 (.Ai 1 (.t 7))::
oo 65 (.Af (.t 64))::
oo 66 (.Ai 1 (.t 8))::
oo 67 (.Af (.t 66))::
oo 68 (.Ai 2 (.t 7))::
oo 69 (.Af (.t 68))::
oo 70 (.int .add (.t 67) (.t 69))::
oo 71 (.build [Value.bool false,k0] [(0,1,(.c (Value.bool true))),(1,1,(.t 70))])::
oo 72 (.BP (.t 63))::
oo 73 (.Ai 1 (.t 72))::
oo 74 (.Cc 13 2 (.t 73) (.t 65))::
oz (.store 2 (.t 74) (.t 71))::[]) []) (.seq (.BN (
 oo 75 (.Af (.t 6))::
oo 76 (.BP (.t 75))::
oo 77 (.Ai 27 (.t 76))::
oo 78 (.Af (.t 77))::
oo 79 (.Ai 1 (.t 7))::
oo 80 (.Af (.t 79))::
oo 81 (.Ai 0 (.t 7))::
oo 82 (.Af (.t 81))::
oz (.Ig 3 (.t 78) (.t 80) (.t 82))::[]) []) (.reg (
 oo 83 (.Af (.t 6))::
oo 84 (.Ai 1 (.t 7))::
oo 85 (.Af (.t 84))::
oo 86 (.BP (.t 83))::
oo 87 (.Ai 28 (.t 86))::
oz (.store 1 (.t 87) (.t 85))::[])))) .skip))))
theorem Ab2:ET Tryz.prog 95 false (He Tryz.f102 0).1=some Xk:=rfl
theorem Ab1:ET Tryz.prog 95 false (He Tryz.f102 0).2=some Xj:=rfl
noncomputable def Ai7:Ay:=(.seq (.reg (
 oo 4 (.mv (.c (Value.pointer none)))::
oo 5 (.mv (.c (Value.bool false)))::[])) (.seq (.reg (
 om 10 0::
oo 11 (.LO)::
oo 12 (.build [Value.pointer none,Value.bool false,k0,Value.bool false,k0,Value.bool false,k0,Value.bool false,k0,Value.bool false,k0,Value.bool false,k0,Value.bool false,k0,Value.bool false,k0,Value.bool false,k0,Value.bool false,k0,Value.bool false,k0,Value.bool false,k0,Value.bool false,k0,Value.map none,k0] [(0,1,(.t 10)),(27,1,(.t 11)),(28,1,(.c (Value.int .i64 (-1))))])::
oo 13 (.box (.t 12) 192)::
oo 6 (.alloc [Value.pointer none] 99)::
oz (.store 1 (.t 6) (.t 13))::[])) (.seq (.reg (
 oo 14 (.Af (.t 6))::
om 15 1::
oo 16 (.build [Value.bool false,k0] [(0,1,(.c (Value.bool true))),(1,1,z0)])::
oo 17 (.BP (.t 14))::
oo 18 (.Ai 1 (.t 17))::
oo 19 (.Cc 13 2 (.t 18) (.t 15))::
oz (.store 2 (.t 19) (.t 16))::[])) (.seq (.seq (.reg (
 om 20 0::
oo 21 (.BP (.t 20))::
oo 22 (.Ai 5 (.t 21))::
oo 23 (.Af (.t 22))::
oo 24 (.mv z0)::[])) (.block 0 (.loop (.seq (.reg (
 oo 25 (.int .lss (.t 24) (.t 23))::[])) (.seq (.cond (.t 25) .skip (.exit 0)) (.seq (.block 1 (.seq (.reg (
 oo 26 (.Af (.t 6))::
oo 27 (.BP (.t 26))::
oo 28 (.Ai 28 (.t 27))::
oz (.store 1 (.t 28) (.c (Value.int .i64 (-1))))::[])) (.seq (.reg (
 om 29 0::
oc 30 191 [(.t 29)]::[])) (.block 2 (.range (.t 30) [31] 95 (He Tryz.f102 0).1 (He Tryz.f102 0).2 Xk Xj))))) (.reg (
 oo 88 (.int .add (.t 24) z1)::
om 24 88::[])))))))) (.seq (.BN (
 oo 89 (.Af (.t 6))::
oo 90 (.Af (.t 6))::
oo 91 (.BP (.t 90))::
oo 92 (.Ai 28 (.t 91))::
oo 93 (.Af (.t 92))::
oo 94 (.int .lss (.t 93) z0)::
om 4 89::
om 5 94::[]) []) .ret)))))
def Amk:List ResultVar:=[.tmp 4,.tmp 5]
theorem oL:Cf Tryz.prog 102 95 2 Ai7 Amk:=
  ⟨rfl,Tryz.f102,_,rfl,rfl,rfl,by decide,rfl,rfl,rfl⟩
noncomputable def Ai6:Ay:=(.seq (.reg (
 oo 4 (.mv z0)::[])) (.seq (.reg (
 om 5 0::
om 6 1::
oo 7 (.BP (.t 5))::
oo 8 (.Ai 1 (.t 7))::
oo 9 (.Cc 13 2 (.t 8) (.t 6))::
oo 10 (.Ai 1 (.t 9))::
oo 11 (.Af (.t 10))::
om 4 11::[])) .ret))
def Amj:List ResultVar:=[.tmp 4]
theorem Aa7:Cf Tryz.prog 103 12 2 Ai6 Amj:=
  ⟨rfl,Tryz.f103,_,rfl,rfl,rfl,by decide,rfl,rfl,rfl⟩
noncomputable def Ai5:Ay:=(.seq (.reg (
 oo 1 (.box (.t 0) 113)::
oo 2 (.mv (.c (Value.nilFunc)))::[])) (.seq (.reg (
 oo 3 (.Hf (Fn.func 192) [] [(.t 1)])::
om 2 3::[])) .ret))
def Ami:List ResultVar:=[.tmp 2]
theorem Aa6:Cf Tryz.prog 104 4 1 Ai5 Ami:=
  ⟨rfl,Tryz.f104,_,rfl,rfl,rfl,by decide,rfl,rfl,rfl⟩
noncomputable def a105:Ay:=(.seq (.reg (
 oo 4 (.alloc [k0,k0] 57)::[])) (.seq (.reg (
 om 6 0::
om 7 1::
oc 8 194 [(.t 6),(.t 7)]::
om 5 8::[])) (.seq (.BN (
 om 9 0::
om 10 5::
oo 11 (.EV true (.t 9) (.t 10))::
om 12 1::
om 13 5::
oo 14 (.EV true (.t 12) (.t 13))::
oo 15 (.build [k0,k0] [(0,1,(.t 11)),(1,1,(.t 14))])::
oz (.store 2 (.t 4) (.t 15))::[]) []) .ret)))
def Amh:List ResultVar:=[.cell 4 57]
theorem Aa5:Cf Tryz.prog 105 16 2 a105 Amh:=
  ⟨rfl,Tryz.f105,_,rfl,rfl,rfl,by decide,rfl,rfl,rfl⟩
noncomputable def Acm:Ay:=(.seq (.reg (
 oo 2 (.mv (.c (Value.map none)))::[])) (.seq (.seq (.reg (
 om 3 0::
oo 4 (.cmp none false (.t 3) (.c (Value.map none)) (Fa Tryz.f106 1 1))::[])) (.cond (.t 4) (.seq (.reg (
 oo 2 (.mv (.c (Value.map none)))::[])) .ret) .skip)) (.seq (.reg (
 om 5 0::
oo 6 (.Wl 190 (.t 5))::
oc 7 195 [(.t 6)]::
oo 8 (.rG 190 (Value.map none) false (.t 7))::
om 2 8::[])) .ret)))
def Amg:List ResultVar:=[.tmp 2]
theorem oK:Cf Tryz.prog 106 9 1 Acm Amg:=
  ⟨rfl,Tryz.f106,_,rfl,rfl,rfl,by decide,rfl,rfl,rfl⟩
noncomputable def a107:Ay:=(.seq (.reg (
 om 4 0::
oo 5 (.len (.t 4))::
oo 6 (.int .sub (.t 5) z1)::
oo 2 (.mv z0)::
om 3 6::[])) (.block 0 (.loop (.seq (.seq (.reg (
 om 7 2::
om 8 3::
oo 9 (.int .lss (.t 7) (.t 8))::[])) (.cond (.t 9) .skip (.exit 0))) (.seq (.block 1 (.BN (
 om 14 0::
om 15 2::
om 16 0::
om 17 3::
om 18 0::
om 19 3::
oo 20 (.Bb 1 (.t 18) (.t 19))::
oo 21 (.Af (.t 20))::
om 22 0::
om 23 2::
oo 24 (.Bb 1 (.t 22) (.t 23))::
oo 25 (.Af (.t 24))::
oo 26 (.Bb 1 (.t 14) (.t 15))::
oz (.store 1 (.t 26) (.t 21))::
oo 27 (.Bb 1 (.t 16) (.t 17))::
oz (.store 1 (.t 27) (.t 25))::[]) [])) (.reg (
 om 10 2::
oo 11 (.int .add (.t 10) z1)::
om 12 3::
oo 13 (.int .sub (.t 12) z1)::
om 2 11::
om 3 13::[])))))))
def Amf:List ResultVar:=[]
theorem Aa4:Cf Tryz.prog 107 28 1 a107 Amf:=
  ⟨rfl,Tryz.f107,_,rfl,rfl,rfl,by decide,rfl,rfl,rfl⟩
noncomputable def Ai4:Ay:=(.seq (.reg (
 oo 4 (.mv (.c (Value.bool false)))::[])) (.seq (.reg (
 om 5 0::
om 6 1::
oc 7 196 [(.t 5),(.t 6)]::
oo 8 (.int .geq (.t 7) z0)::
om 4 8::[])) .ret))
def Ame:List ResultVar:=[.tmp 4]
theorem Aa3:Cf Tryz.prog 108 9 2 Ai4 Ame:=
  ⟨rfl,Tryz.f108,_,rfl,rfl,rfl,by decide,rfl,rfl,rfl⟩
noncomputable def a109:Ay:=(.seq (.reg (
 oo 1 (.box (.t 0) 27)::
oo 2 (.mv (.c (Value.bool false)))::[])) (.seq (.reg (
 oo 3 (.Az 4 (.t 1))::
oc 4 110 [(.t 3)]::
oo 5 (.not (.t 4))::
om 2 5::[])) .ret))
def Amd:List ResultVar:=[.tmp 2]
theorem Aa2:Cf Tryz.prog 109 6 1 a109 Amd:=
  ⟨rfl,Tryz.f109,_,rfl,rfl,rfl,by decide,rfl,rfl,rfl⟩
noncomputable def Ai3:Ay:=(.seq (.reg (
 oo 1 (.box (.t 0) 27)::
oo 2 (.mv (.c (Value.bool false)))::[])) (.seq (.reg (
 oo 3 (.Ai 0 (.t 1))::
oo 4 (.Af (.t 3))::
oo 5 (.Ai 1 (.t 1))::
oo 6 (.Af (.t 5))::
oo 7 (.BF [k0,k0] [(0,1,(.t 4)),(1,1,(.t 6))] 2 2)::
oc 8 197 [(.t 7)]::
om 9 8::
og 10 9 true (.Ai 0 (.t 1))::
og 11 9 true (.Af (.t 10))::
og 12 9 true (.int .neq (.t 11) z0)::
og 13 9 true (.mv (.t 12))::
og 14 13 false (.Ai 1 (.t 1))::
og 15 13 false (.Af (.t 14))::
og 16 13 false (.int .neq (.t 15) z0)::
og 17 9 true (.pick (.t 13) (.c (Value.bool true)) (.t 16))::
oo 18 (.pick (.t 9) (.t 17) (.c (Value.bool false)))::
om 19 18::
og 20 19 true (.Ai 2 (.t 1))::
og 21 19 true (.Ai 0 (.t 20))::
og 22 19 true (.Af (.t 21))::
og 23 19 true (.Ai 2 (.t 1))::
og 24 19 true (.Ai 1 (.t 23))::
og 25 19 true (.Af (.t 24))::
og 26 19 true (.int .leq (.t 22) (.t 25))::
oo 27 (.pick (.t 19) (.t 26) (.c (Value.bool false)))::
om 28 27::
og 29 28 true (.Ai 2 (.t 1))::
og 30 28 true (.Ai 0 (.t 29))::
og 31 28 true (.Af (.t 30))::
og 32 28 true (.Ai 2 (.t 1))::
og 33 28 true (.Ai 1 (.t 32))::
og 34 28 true (.Af (.t 33))::
og 35 28 true (.BF [k0,k0] [(0,1,(.t 31)),(1,1,(.t 34))] 2 2)::
F6 36 28 true 54 [(.c (Value.int .i64 (-100000))),(.c (Value.int .i64 100000)),(.t 35)]::
oo 37 (.pick (.t 28) (.t 36) (.c (Value.bool false)))::
om 2 37::[])) .ret))
def Amc:List ResultVar:=[.tmp 2]
theorem Aa1:Cf Tryz.prog 110 38 1 Ai3 Amc:=
  ⟨rfl,Tryz.f110,_,rfl,rfl,rfl,by decide,rfl,rfl,rfl⟩
noncomputable def Ai2:Ay:=(.seq (.reg (
 oo 1 (.box (.t 0) 27)::
oo 2 (.alloc [k0,k0,k0,k0,k0,k0,k0,k0,k0,k0] 207)::[])) (.seq (.reg (
 oo 3 (.Az 4 (.t 1))::
oo 4 (.Ai 0 (.t 1))::
oo 5 (.Af (.t 4))::
oo 6 (.Ai 1 (.t 1))::
oo 7 (.Af (.t 6))::
oo 8 (.Ai 2 (.t 1))::
oo 9 (.Ai 0 (.t 8))::
oo 10 (.Af (.t 9))::
oo 11 (.build [k0,k0,k0] [(0,1,(.t 5)),(1,1,(.t 7)),(2,1,(.t 10))])::
oo 12 (.Ai 0 (.t 1))::
oo 13 (.Af (.t 12))::
oo 14 (.neg (.t 13))::
oo 15 (.Ai 1 (.t 1))::
oo 16 (.Af (.t 15))::
oo 17 (.neg (.t 16))::
oo 18 (.Ai 2 (.t 1))::
oo 19 (.Ai 1 (.t 18))::
oo 20 (.Af (.t 19))::
oo 21 (.neg (.t 20))::
oo 22 (.build [k0,k0,k0] [(0,1,(.t 14)),(1,1,(.t 17)),(2,1,(.t 21))])::
oo 23 (.build [k0,k0,k0,k0,k0,k0,k0,k0,k0,k0] [(0,4,(.t 3)),(4,3,(.t 11)),(7,3,(.t 22))])::
oz (.store 10 (.t 2) (.t 23))::[])) .ret))
def Amb:List ResultVar:=[.cell 2 207]
theorem Aa0:Cf Tryz.prog 111 24 1 Ai2 Amb:=
  ⟨rfl,Tryz.f111,_,rfl,rfl,rfl,by decide,rfl,rfl,rfl⟩
noncomputable def Ai1:Ay:=(.seq (.reg (
 oo 2 (.box (.t 0) 113)::
oo 3 (.box (.t 1) 3)::
oo 4 (.mv (.c (Value.nilFunc)))::[])) (.seq (.reg (
 oo 5 (.Hf (Fn.func 198) [] [(.t 2),(.t 3)])::
om 4 5::[])) .ret))
def Ama:List ResultVar:=[.tmp 4]
theorem Aaz:Cf Tryz.prog 112 6 2 Ai1 Ama:=
  ⟨rfl,Tryz.f112,_,rfl,rfl,rfl,by decide,rfl,rfl,rfl⟩
noncomputable def uZ:Ay:=(.seq (.reg (
 oo 4 (.alloc [Value.map none,k0,k0,k0,k0] 111)::[])) (.seq (.seq (.reg (
 om 15 1::
oo 16 (.len (.t 15))::[])) (.block 0 (.seq (.reg (
 oo 18 (.int .eql (.t 16) (.c (Value.int .i64 2)))::
om 17 18::[])) (.cond (.t 17) (.seq (.BN (
 om 19 0::
oo 20 (.BP (.t 19))::
oo 21 (.Ai 1 (.t 20))::
oo 22 (.Af (.t 21))::
om 23 1::
oo 24 (.Bb 1 (.t 23) z0)::
oo 25 (.Af (.t 24))::
oo 26 (.Bb 3 (.t 22) (.t 25))::
oo 27 (.Az 3 (.t 26))::
om 28 0::
oo 29 (.BP (.t 28))::
oo 30 (.Ai 1 (.t 29))::
oo 31 (.Af (.t 30))::
om 32 1::
oo 33 (.Bb 1 (.t 32) z1)::
oo 34 (.Af (.t 33))::
oo 35 (.Bb 3 (.t 31) (.t 34))::
oo 36 (.Az 3 (.t 35))::
oo 5 (.alloc [k0,k0,k0] 109)::
oo 6 (.alloc [k0,k0,k0] 109)::
oz (.store 3 (.t 5) (.t 27))::
oz (.store 3 (.t 6) (.t 36))::[]) [((.t 30),(.t 5)),((.t 33),(.t 5)),((.t 35),(.t 5))]) (.seq (.BN (
 oo 37 (.Az 3 (.t 6))::
oc 38 199 [(.t 37)]::
oo 39 (.Az 3 (.t 5))::
oc 40 199 [(.t 39)]::
om 7 38::
om 8 40::[]) []) (.seq (.BN (
 oo 41 (.Az 3 (.t 5))::
oo 42 (.Az 3 (.t 6))::
oc 43 193 [(.t 41),(.t 42)]::
oo 44 (.int .eql (.t 43) z0)::
om 45 44::
og 46 45 true (.Az 3 (.t 5))::
og 47 45 true (.mv (.t 7))::
F6 48 45 true 201 [(.t 46),(.t 47)]::
og 49 45 true (.Az 3 (.t 6))::
og 50 45 true (.mv (.t 8))::
F6 51 45 true 201 [(.t 49),(.t 50)]::
og 52 45 true (.BF [k0,k0,k0,k0,k0,k0] [(0,3,(.t 48)),(3,3,(.t 51))] 2 109)::
F6 53 45 true 200 [(.t 52)]::
F6 54 45 true 114 [(.t 53)]::
og 55 45 true (.build [k0,k0,k0] [])::
og 56 45 true (.pure (Fa Tryz.f113 5 15))::
oo 57 (.pick (.t 45) (.t 56) (.c (Value.bool false)))::[]) []) (.cond (.t 57) (.seq (.reg (
 om 58 0::
om 59 1::
om 60 7::
om 61 8::
oo 62 (.BF [k0,k0] [(0,1,(.t 60)),(1,1,(.t 61))] 2 2)::
oc 63 202 [(.t 58),(.t 59),z1,(.t 62)]::
oz (.store 5 (.t 4) (.t 63))::[])) .ret) .skip)))) (.seq (.reg (
 oo 65 (.int .eql (.t 16) (.c (Value.int .i64 3)))::
om 64 65::[])) (.cond (.t 64) (.seq (.BN (
 om 66 0::
oo 67 (.BP (.t 66))::
oo 68 (.Ai 1 (.t 67))::
oo 69 (.Af (.t 68))::
om 70 1::
oo 71 (.Bb 1 (.t 70) z0)::
oo 72 (.Af (.t 71))::
oo 73 (.Bb 3 (.t 69) (.t 72))::
oo 74 (.Az 3 (.t 73))::
om 75 0::
oo 76 (.BP (.t 75))::
oo 77 (.Ai 1 (.t 76))::
oo 78 (.Af (.t 77))::
om 79 1::
oo 80 (.Bb 1 (.t 79) z1)::
oo 81 (.Af (.t 80))::
oo 82 (.Bb 3 (.t 78) (.t 81))::
oo 83 (.Az 3 (.t 82))::
om 84 0::
oo 85 (.BP (.t 84))::
oo 86 (.Ai 1 (.t 85))::
oo 87 (.Af (.t 86))::
om 88 1::
oo 89 (.Bb 1 (.t 88) (.c (Value.int .i64 2)))::
oo 90 (.Af (.t 89))::
oo 91 (.Bb 3 (.t 87) (.t 90))::
oo 92 (.Az 3 (.t 91))::
oo 9 (.alloc [k0,k0,k0] 109)::
oo 10 (.alloc [k0,k0,k0] 109)::
oo 11 (.alloc [k0,k0,k0] 109)::
oz (.store 3 (.t 9) (.t 74))::
oz (.store 3 (.t 10) (.t 83))::
oz (.store 3 (.t 11) (.t 92))::[]) [((.t 77),(.t 9)),((.t 80),(.t 9)),((.t 82),(.t 9)),((.t 86),(.t 9)),((.t 89),(.t 9)),((.t 91),(.t 9)),((.t 86),(.t 10)),((.t 89),(.t 10)),((.t 91),(.t 10))]) (.seq (.BN (
 oo 93 (.Az 3 (.t 10))::
oo 94 (.Az 3 (.t 11))::
oc 95 193 [(.t 93),(.t 94)]::
oo 96 (.Az 3 (.t 11))::
oo 97 (.Az 3 (.t 9))::
oc 98 193 [(.t 96),(.t 97)]::
oo 99 (.Az 3 (.t 9))::
oo 100 (.Az 3 (.t 10))::
oc 101 193 [(.t 99),(.t 100)]::
om 12 95::
om 13 98::
om 14 101::[]) []) (.seq (.seq (.reg (
 om 102 12::
om 103 13::
om 104 14::
oo 105 (.pure (Fa Tryz.f113 10 3))::
oo 106 (.int .lss (.t 105) z0)::[])) (.cond (.t 106) (.reg (
 om 107 12::
oo 108 (.neg (.t 107))::
om 109 13::
oo 110 (.neg (.t 109))::
om 111 14::
oo 112 (.neg (.t 111))::
om 12 108::
om 13 110::
om 14 112::[])) .skip)) (.seq (.reg (
 om 113 12::
om 114 13::
om 115 14::
oo 116 (.pure (Fa Tryz.f113 12 3))::
oo 117 (.int .gtr (.t 116) z0)::[])) (.cond (.t 117) (.seq (.reg (
 om 118 0::
om 119 1::
om 120 12::
om 121 13::
om 122 14::
oo 123 (.BF [k0,k0,k0] [(0,1,(.t 120)),(1,1,(.t 121)),(2,1,(.t 122))] 3 2)::
oc 124 202 [(.t 118),(.t 119),z1,(.t 123)]::
oz (.store 5 (.t 4) (.t 124))::[])) .ret) .skip))))) .skip)))))) (.seq (.reg (
 oo 125 (.build [Value.map none,k0,k0,k0,k0] [])::
oz (.store 5 (.t 4) (.t 125))::[])) .ret)))
def Al9:List ResultVar:=[.cell 4 111]
theorem bV:Cf Tryz.prog 113 126 2 uZ Al9:=
  ⟨rfl,Tryz.f113,_,rfl,rfl,rfl,by decide,rfl,rfl,rfl⟩
noncomputable def Ai0:Ay:=(.seq (.reg (
 oo 1 (.box (.t 0) 109)::
oo 2 (.alloc [k0,k0,k0] 109)::[])) (.seq (.reg (
 oo 3 (.Cc 3 1 (.t 1) z0)::
oo 4 (.Af (.t 3))::
oo 5 (.Cc 3 1 (.t 1) z1)::
oo 6 (.Af (.t 5))::
oo 7 (.build [k0,k0,k0] [(0,1,(.t 4)),(1,1,(.t 6)),(2,1,z0)])::
oz (.store 3 (.t 2) (.t 7))::[])) .ret))
def Al8:List ResultVar:=[.cell 2 109]
theorem Aay:Cf Tryz.prog 114 8 1 Ai0 Al8:=
  ⟨rfl,Tryz.f114,_,rfl,rfl,rfl,by decide,rfl,rfl,rfl⟩
noncomputable def Aiz:Ay:=(.seq (.reg (
 om 3 0::
oo 4 (.len (.t 3))::
om 2 4::[])) (.reg (
 om 5 0::
om 6 2::
om 7 2::
oo 8 (.conv .u64 (.t 7))::
oc 9 204 [(.t 8)]::
oc 10 203 [(.t 5),z0,(.t 6),(.t 9)]::[])))
def Al7:List ResultVar:=[]
theorem Aax:Cf Tryz.prog 115 11 1 Aiz Al7:=
  ⟨rfl,Tryz.f115,_,rfl,rfl,rfl,by decide,rfl,rfl,rfl⟩
noncomputable def a116:Ay:=(.seq (.reg (
 oo 4 (.mv z0)::[])) (.seq (.block 0 (.loop (.seq (.seq (.reg (
 om 5 1::
oo 6 (.int .neq (.t 5) z0)::[])) (.cond (.t 6) .skip (.exit 0))) (.block 1 (.BN (
 om 7 1::
om 8 0::
om 9 1::
oo 10 (.EV false (.t 8) (.t 9))::
om 0 7::
om 1 10::[]) []))))) (.seq (.reg (
 om 11 0::
om 4 11::[])) .ret)))
def Al6:List ResultVar:=[.tmp 4]
theorem Aaw:Cf Tryz.prog 116 12 2 a116 Al6:=
  ⟨rfl,Tryz.f116,_,rfl,rfl,rfl,by decide,rfl,rfl,rfl⟩
noncomputable def a117:Ay:=(.seq (.reg (
 oo 2 (.mv z0)::[])) (.seq (.reg (
 om 3 0::
om 4 0::
oo 5 (.neg (.t 4))::
oo 6 (.Il true (.t 3) (.t 5))::
om 2 6::[])) .ret))
def Al5:List ResultVar:=[.tmp 2]
theorem Aav:Cf Tryz.prog 117 7 1 a117 Al5:=
  ⟨rfl,Tryz.f117,_,rfl,rfl,rfl,by decide,rfl,rfl,rfl⟩
noncomputable def uY:Ay:=(.seq (.reg (
 oo 4 (.mv (.c (Value.bool false)))::[])) (.seq (.reg (
 om 5 0::
om 6 1::
oc 7 205 [(.t 5),(.t 6)]::
oo 8 (.int .geq (.t 7) z0)::
om 4 8::[])) .ret))
def Al4:List ResultVar:=[.tmp 4]
theorem bU:Cf Tryz.prog 118 9 2 uY Al4:=
  ⟨rfl,Tryz.f118,_,rfl,rfl,rfl,by decide,rfl,rfl,rfl⟩
noncomputable def a119:Ay:=(.seq (.reg (
 oo 4 (.mv (.c (Value.bool false)))::[])) (.seq (.reg (
 om 5 0::
oo 6 (.Af (.t 1))::
oo 7 (.int .lss (.t 5) (.t 6))::
om 8 7::
og 9 8 false (.mv (.t 0))::
og 10 8 false (.Af (.t 2))::
og 11 8 false (.int .gtr (.t 9) (.t 10))::
oo 12 (.pick (.t 8) (.c (Value.bool true)) (.t 11))::
om 4 12::[])) .ret))
def Al3:List ResultVar:=[.tmp 4]
theorem Aau:Cf Tryz.prog 119 13 3 a119 Al3:=
  ⟨rfl,Tryz.f119,_,rfl,rfl,rfl,by decide,rfl,rfl,rfl⟩
noncomputable def Aiy:Ay:=(.seq (.reg (
 oo 2 (.box (.t 0) 33)::
oo 3 (.mv (.c (Value.bool false)))::[])) (.seq (.reg (
 oo 4 (.Ai 1 (.t 2))::
oo 5 (.Af (.t 4))::
oo 6 (.Af (.t 1))::
oo 7 (.int .eql (.t 5) (.t 6))::
om 3 7::[])) .ret))
def Al2:List ResultVar:=[.tmp 3]
theorem Aat:Cf Tryz.prog 120 8 2 Aiy Al2:=
  ⟨rfl,Tryz.f120,_,rfl,rfl,rfl,by decide,rfl,rfl,rfl⟩
noncomputable def Aix:Ay:=(.seq (.reg (
 oo 6 (.mv z0)::[])) (.seq (.seq (.reg (
 om 8 0::
oc 9 44 [(.t 8)]::
om 7 9::[])) (.seq (.reg (
 om 10 7::
oo 11 (.int .neq (.t 10) z0)::[])) (.cond (.t 11) (.seq (.reg (
 om 12 7::
om 6 12::[])) .ret) .skip))) (.seq (.seq (.reg (
 om 13 1::
om 14 2::
oo 15 (.BF [k0,k0] [(0,1,(.t 13)),(1,1,(.t 14))] 2 2)::
oc 16 197 [(.t 15)]::
oo 17 (.not (.t 16))::[])) (.cond (.t 17) (.seq (.reg (
 oo 6 (.mv (.c (Value.int .i64 3)))::[])) .ret) .skip)) (.seq (.reg (
 oo 6 (.mv z0)::[])) .ret))))
def Al1:List ResultVar:=[.tmp 6]
theorem Aas:Cf Tryz.prog 121 18 3 Aix Al1:=
  ⟨rfl,Tryz.f121,_,rfl,rfl,rfl,by decide,rfl,rfl,rfl⟩
noncomputable def Qd:Ay:=(.reg (
 om 10 30::[]))
noncomputable def Qc:Ay:=(.block 1 (.seq (.BN (
 oo 31 (.Af (.t 3))::
oo 32 (.BP (.t 31))::
oo 33 (.Ai 1 (.t 32))::
oo 34 (.Af (.t 33))::
om 35 10::
oo 36 (.Bb 1 (.t 35) z0)::
oo 37 (.Af (.t 36))::
oo 38 (.Bb 3 (.t 34) (.t 37))::
oo 39 (.Az 3 (.t 38))::
oo 11 (.alloc [k0,k0,k0] 109)::
oz (.store 3 (.t 11) (.t 39))::[]) []) (.seq (.seq (.reg (
 om 40 10::
oo 41 (.len (.t 40))::
oo 42 (.int .eql (.t 41) z1)::[])) (.cond (.t 42) (.seq (.BN (
 oo 43 (.Az 3 (.t 8))::
oc 44 199 [(.t 43)]::
oo 45 (.Az 3 (.t 11))::
oc 46 199 [(.t 45)]::
om 12 44::
om 13 46::[]) []) (.seq (.seq (.BN (
 oo 47 (.Az 3 (.t 11))::
oo 48 (.Az 3 (.t 8))::
oc 49 193 [(.t 47),(.t 48)]::
oo 50 (.int .eql (.t 49) z0)::
om 51 50::
og 52 51 true (.Az 3 (.t 11))::
og 53 51 true (.mv (.t 12))::
F6 54 51 true 201 [(.t 52),(.t 53)]::
og 55 51 true (.Az 3 (.t 8))::
og 56 51 true (.mv (.t 13))::
og 57 51 true (.neg (.t 56))::
F6 58 51 true 201 [(.t 55),(.t 57)]::
og 59 51 true (.BF [k0,k0,k0,k0,k0,k0] [(0,3,(.t 54)),(3,3,(.t 58))] 2 109)::
F6 60 51 true 200 [(.t 59)]::
F6 61 51 true 114 [(.t 60)]::
og 62 51 true (.build [k0,k0,k0] [])::
og 63 51 true (.pure (Fa Tryz.f122 10 16))::
oo 64 (.pick (.t 51) (.t 63) (.c (Value.bool false)))::[]) []) (.cond (.t 64) (.BN (
 oo 65 (.Af (.t 9))::
oo 66 (.Af (.t 3))::
om 67 10::
om 68 13::
om 69 12::
oo 70 (.BF [k0] [(0,1,(.t 69))] 1 2)::
oc 71 202 [(.t 66),(.t 67),(.t 68),(.t 70)]::
oo 72 (.BF [Value.map none,k0,k0,k0,k0] [(0,5,(.t 71))] 1 111)::
oo 73 (.append 111 5 40 (.t 65) (.t 72))::
oz (.store 1 (.t 9) (.t 73))::[]) []) .skip)) (.exit 1))) .skip)) (.seq (.BN (
 oo 74 (.Af (.t 3))::
oo 75 (.BP (.t 74))::
oo 76 (.Ai 1 (.t 75))::
oo 77 (.Af (.t 76))::
om 78 10::
oo 79 (.Bb 1 (.t 78) z1)::
oo 80 (.Af (.t 79))::
oo 81 (.Bb 3 (.t 77) (.t 80))::
oo 82 (.Az 3 (.t 81))::
oo 14 (.alloc [k0,k0,k0] 109)::
oz (.store 3 (.t 14) (.t 82))::[]) []) (.seq (.reg (
 oo 83 (.Az 3 (.t 11))::
oo 84 (.Hf (Fn.func 193) [(.t 83)] [])::
om 15 84::[])) (.seq (.reg (
 om 85 15::
oo 86 (.Az 3 (.t 14))::
⟨(some 87),none,(.call (.t 85) [(.t 86)])⟩::
om 16 87::[])) (.seq (.seq (.BN (
 oo 88 (.Az 3 (.t 8))::
oo 89 (.Az 3 (.t 14))::
oc 90 193 [(.t 88),(.t 89)]::
om 91 15::
oo 92 (.Az 3 (.t 8))::[]) []) (.reg (
    ⟨(some 93),none,(.call (.t 91) [(.t 92)])⟩::
om 17 90::
om 18 93::[]))) (.seq (.seq (.reg (
 om 94 16::
oo 95 (.int .lss (.t 94) z0)::[])) (.cond (.t 95) (.reg (
 om 96 16::
oo 97 (.neg (.t 96))::
om 98 17::
oo 99 (.neg (.t 98))::
om 100 18::
oo 101 (.neg (.t 100))::
om 16 97::
om 17 99::
om 18 101::[])) .skip)) (.seq (.reg (
 om 102 16::
oo 103 (.int .gtr (.t 102) z0)::
om 104 103::
og 105 104 true (.mv (.t 17))::
og 106 104 true (.int .geq (.t 105) z0)::
oo 107 (.pick (.t 104) (.t 106) (.c (Value.bool false)))::
om 108 107::
og 109 108 true (.mv (.t 18))::
og 110 108 true (.int .geq (.t 109) z0)::
oo 111 (.pick (.t 108) (.t 110) (.c (Value.bool false)))::[])) (.cond (.t 111) (.BN (
 oo 112 (.Af (.t 9))::
oo 113 (.Af (.t 3))::
om 114 10::
om 115 16::
om 116 17::
om 117 18::
oo 118 (.BF [k0,k0] [(0,1,(.t 116)),(1,1,(.t 117))] 2 2)::
oc 119 202 [(.t 113),(.t 114),(.t 115),(.t 118)]::
oo 120 (.BF [Value.map none,k0,k0,k0,k0] [(0,5,(.t 119))] 1 111)::
oo 121 (.append 111 5 40 (.t 112) (.t 120))::
oz (.store 1 (.t 9) (.t 121))::[]) []) .skip))))))))))
theorem pY:ET Tryz.prog 128 false (He Tryz.f122 0).1=some Qd:=rfl
theorem pX:ET Tryz.prog 128 false (He Tryz.f122 0).2=some Qc:=rfl
noncomputable def Acl:Ay:=(.seq (.reg (
 oo 3 (.box (.t 0) 113)::
oo 6 (.alloc [Value.map none,k0,k0,k0,k0] 111)::
oo 7 (.mv (.c (Value.bool false)))::[])) (.seq (.reg (
 om 19 1::
om 20 2::
oo 21 (.build [k0,k0,k0] [(0,1,(.t 19)),(1,1,(.t 20))])::
oo 8 (.alloc [k0,k0,k0] 109)::
oz (.store 3 (.t 8) (.t 21))::[])) (.seq (.seq (.reg (
 oo 22 (.Az 3 (.t 8))::
oo 23 (.build [k0,k0,k0] [])::
oo 24 (.pure (Fa Tryz.f122 2 2))::[])) (.cond (.t 24) (.seq (.reg (
 oo 25 (.LO)::
oo 26 (.build [k0,k0,k0] [])::
oo 27 (.build [Value.map none,k0,k0,k0,k0] [(0,1,(.t 25)),(1,3,(.t 26)),(4,1,z1)])::
oz (.store 5 (.t 6) (.t 27))::
oo 7 (.mv (.c (Value.bool true)))::[])) .ret) .skip)) (.seq (.reg (
 oo 9 (.alloc [Value.slice none 0 0] 318)::[])) (.seq (.seq (.reg (
 oo 28 (.Af (.t 3))::
oc 29 112 [(.t 28),(.c (Value.int .i64 2))]::[])) (.block 0 (.range (.t 29) [30] 128 (He Tryz.f122 0).1 (He Tryz.f122 0).2 Qd Qc))) (.seq (.seq (.reg (
 oo 122 (.Af (.t 9))::
oo 123 (.len (.t 122))::
oo 124 (.int .eql (.t 123) z0)::[])) (.cond (.t 124) (.seq (.reg (
 oo 125 (.build [Value.map none,k0,k0,k0,k0] [])::
oz (.store 5 (.t 6) (.t 125))::
oo 7 (.mv (.c (Value.bool false)))::[])) .ret) .skip)) (.seq (.reg (
 oo 126 (.Af (.t 9))::
oc 127 206 [(.t 126),(.c (Value.func (.func 207) #[] #[]))]::
oz (.store 5 (.t 6) (.t 127))::
oo 7 (.mv (.c (Value.bool true)))::[])) .ret)))))))
def Al0:List ResultVar:=[.cell 6 111,.tmp 7]
theorem WI:Cf Tryz.prog 122 128 3 Acl Al0:=
  ⟨rfl,Tryz.f122,_,rfl,rfl,rfl,by decide,rfl,rfl,rfl⟩
noncomputable def a145:Ay:=(.seq (.reg (
 oo 3 (.mv (.c (Value.bool false)))::[])) (.seq (.reg (
 om 4 0::
oo 5 (.Af (.t 1))::
oo 6 (.neg (.t 5))::
oo 7 (.int .lss (.t 4) (.t 6))::
om 8 7::
og 9 8 false (.mv (.t 0))::
og 10 8 false (.Af (.t 1))::
og 11 8 false (.int .gtr (.t 9) (.t 10))::
oo 12 (.pick (.t 8) (.c (Value.bool true)) (.t 11))::
om 3 12::[])) .ret))
def Alb:List ResultVar:=[.tmp 3]
theorem z4:Cf Tryz.prog 145 13 2 a145 Alb:=
  ⟨rfl,Tryz.f145,_,rfl,rfl,rfl,by decide,rfl,rfl,rfl⟩
noncomputable def a146:Ay:=(.seq (.reg (
 oo 0 (.mv (.c (Value.bool false)))::[])) (.seq (.reg (
 oc 1 229 []::
om 2 1::
F6 3 2 true 230 []::
oo 4 (.pick (.t 2) (.t 3) (.c (Value.bool false)))::
om 5 4::
F6 6 5 true 231 []::
oo 7 (.pick (.t 5) (.t 6) (.c (Value.bool false)))::
om 0 7::[])) .ret))
def Ala:List ResultVar:=[.tmp 0]
theorem z3:Cf Tryz.prog 146 8 0 a146 Ala:=
  ⟨rfl,Tryz.f146,_,rfl,rfl,rfl,by decide,rfl,rfl,rfl⟩
noncomputable def Aii:Ay:=(.seq (.reg (
 oo 4 (.mv z0)::[])) (.seq (.seq (.reg (
 om 6 0::
oo 7 (.len (.t 6))::
oo 8 (.mv z0)::[])) (.block 0 (.loop (.seq (.reg (
 oo 9 (.int .lss (.t 8) (.t 7))::[])) (.seq (.cond (.t 9) .skip (.exit 0)) (.seq (.block 1 (.seq (.reg (
 om 10 8::
om 5 10::[])) (.seq (.reg (
 om 11 1::
om 12 0::
om 13 5::
oo 14 (.Bb 4 (.t 12) (.t 13))::
oo 15 (.Az 4 (.t 14))::
⟨(some 16),none,(.call (.t 11) [(.t 15)])⟩::[])) (.cond (.t 16) (.seq (.reg (
 om 17 5::
om 4 17::[])) .ret) .skip)))) (.reg (
 oo 18 (.int .add (.t 8) z1)::
om 8 18::[])))))))) (.seq (.reg (
 oo 4 (.mv (.c (Value.int .i64 (-1))))::[])) .ret)))
def Ak9:List ResultVar:=[.tmp 4]
theorem zZ:Cf Tryz.prog 188 19 2 Aii Ak9:=
  ⟨rfl,Tryz.f188,_,rfl,rfl,rfl,by decide,rfl,rfl,rfl⟩
noncomputable def Aih:Ay:=(.seq (.reg (
 oo 4 (.mv z0)::[])) (.seq (.seq (.reg (
 om 8 1::
⟨(some 9),none,(.call (.t 8) [])⟩::
om 7 9::
oo 10 (.extract (.t 7) 0)::
oo 11 (.extract (.t 7) 1)::
om 5 10::
om 6 11::[])) (.seq (.reg (
 om 12 6::[])) (.cond (.t 12) (.seq (.reg (
 om 13 0::
om 14 5::
oo 15 (.Il false (.t 13) (.t 14))::
om 4 15::[])) .ret) .skip))) (.seq (.reg (
 om 16 0::
om 4 16::[])) .ret)))
def Ak8:List ResultVar:=[.tmp 4]
theorem zY:Cf Tryz.prog 189 17 2 Aih Ak8:=
  ⟨rfl,Tryz.f189,_,rfl,rfl,rfl,by decide,rfl,rfl,rfl⟩
noncomputable def Aig:Ay:=(.seq (.reg (
 oo 1 (.mv z0)::
oo 2 (.mv (.c (Value.bool false)))::[])) (.seq (.BN (
 oo 3 (.Ai 1 (.t 0))::
oo 4 (.Af (.t 3))::
oo 5 (.Ai 0 (.t 0))::
oo 6 (.Af (.t 5))::
om 1 4::
om 2 6::[]) []) .ret))
def Ak7:List ResultVar:=[.tmp 1,.tmp 2]
theorem zX:Cf Tryz.prog 190 7 1 Aig Ak7:=
  ⟨rfl,Tryz.f190,_,rfl,rfl,rfl,by decide,rfl,rfl,rfl⟩
noncomputable def Aif:Ay:=(.seq (.reg (
 oo 1 (.box (.t 0) 101)::
oo 2 (.mv (.c (Value.nilFunc)))::[])) (.seq (.reg (
 oo 3 (.Hf (Fn.func 282) [] [(.t 1)])::
om 2 3::[])) .ret))
def Ak6:List ResultVar:=[.tmp 2]
theorem zW:Cf Tryz.prog 191 4 1 Aif Ak6:=
  ⟨rfl,Tryz.f191,_,rfl,rfl,rfl,by decide,rfl,rfl,rfl⟩
noncomputable def Aie:Ay:=(.seq (.seq (.reg (
 oo 13 (.Af (.t 1))::
oo 14 (.BP (.t 13))::
oo 15 (.Ai 0 (.t 14))::
oo 16 (.Af (.t 15))::
oo 17 (.len (.t 16))::
oo 18 (.int .eql (.t 17) z0)::
om 19 18::
og 20 19 true (.mv (.t 0))::
og 21 19 true (.build [k0,k0,k0] [(2,1,z1)])::
⟨(some 22),(some (19,true)),(.call (.t 20) [(.t 21)])⟩::
og 23 19 true (.not (.t 22))::
oo 24 (.pick (.t 19) (.t 23) (.c (Value.bool false)))::[])) (.cond (.t 24) .ret .skip)) (.seq (.reg (
 oo 25 (.Af (.t 1))::
oo 26 (.BP (.t 25))::
oo 27 (.Ai 1 (.t 26))::
oo 28 (.Af (.t 27))::
oo 29 (.len (.t 28))::
oo 30 (.FP [k0,k0,k0] 24 109 (.t 29) (.t 29))::
om 3 30::[])) (.seq (.reg (
 om 31 3::
oo 32 (.Af (.t 1))::
oo 33 (.BP (.t 32))::
oo 34 (.Ai 1 (.t 33))::
oo 35 (.Af (.t 34))::
oo 36 (.copy 3 (.t 31) (.t 35))::[])) (.seq (.reg (
 om 37 3::
oo 38 (.len (.t 37))::
oo 39 (.mv z0)::[])) (.block 0 (.loop (.seq (.reg (
 oo 40 (.int .lss (.t 39) (.t 38))::[])) (.seq (.cond (.t 40) .skip (.exit 0)) (.seq (.block 1 (.seq (.reg (
 om 41 39::
oo 42 (.Bb 3 (.t 37) (.t 39))::
oo 43 (.Az 3 (.t 42))::
oo 5 (.alloc [k0,k0,k0] 109)::
om 4 41::
oz (.store 3 (.t 5) (.t 43))::[])) (.seq (.reg (
 oo 44 (.Af (.t 1))::
oo 45 (.BP (.t 44))::
oo 46 (.Ai 0 (.t 45))::
oo 47 (.Af (.t 46))::
om 48 4::
oo 49 (.EV true (.t 48) (.c (Value.int .i64 2)))::
oo 50 (.Bb 10 (.t 47) (.t 49))::
oo 51 (.Az 10 (.t 50))::
oo 6 (.alloc [k0,k0,k0,k0,k0,k0,k0,k0,k0,k0] 207)::
oz (.store 10 (.t 6) (.t 51))::[])) (.seq (.reg (
 oo 52 (.Ai 0 (.t 6))::
oo 53 (.Ai 0 (.t 52))::
oo 54 (.Af (.t 53))::
oo 55 (.Ai 0 (.t 6))::
oo 56 (.Ai 0 (.t 55))::
oo 57 (.Af (.t 56))::
oo 58 (.int .mul (.t 54) (.t 57))::
oo 59 (.Ai 0 (.t 6))::
oo 60 (.Ai 1 (.t 59))::
oo 61 (.Af (.t 60))::
oo 62 (.Ai 0 (.t 6))::
oo 63 (.Ai 1 (.t 62))::
oo 64 (.Af (.t 63))::
oo 65 (.int .mul (.t 61) (.t 64))::
oo 66 (.int .add (.t 58) (.t 65))::
om 7 66::[])) (.seq (.seq (.reg (
 om 67 0::
oo 68 (.Cc 3 1 (.t 5) z0)::
oo 69 (.Af (.t 68))::
oo 70 (.Cc 3 1 (.t 5) (.c (Value.int .i64 2)))::
oo 71 (.Af (.t 70))::
oo 72 (.int .mul (.t 69) (.t 71))::
oo 73 (.Cc 3 1 (.t 5) z1)::
oo 74 (.Af (.t 73))::
oo 75 (.Cc 3 1 (.t 5) (.c (Value.int .i64 2)))::
oo 76 (.Af (.t 75))::
oo 77 (.int .mul (.t 74) (.t 76))::
om 78 7::
oo 79 (.build [k0,k0,k0] [(0,1,(.t 72)),(1,1,(.t 77)),(2,1,(.t 78))])::
⟨(some 80),none,(.call (.t 67) [(.t 79)])⟩::
oo 81 (.not (.t 80))::[])) (.cond (.t 81) .ret .skip)) (.seq (.reg (
 om 82 3::
om 83 4::
oo 84 (.HL 3 (.t 82) none (some (.t 83)) none)::
oo 85 (.len (.t 84))::
oo 86 (.mv z0)::[])) (.block 2 (.loop (.seq (.reg (
 oo 87 (.int .lss (.t 86) (.t 85))::[])) (.seq (.cond (.t 87) .skip (.exit 2)) (.seq (.block 3 (.seq (.reg (
 oo 88 (.Bb 3 (.t 84) (.t 86))::
oo 89 (.Az 3 (.t 88))::
oo 9 (.alloc [k0,k0,k0] 109)::
oz (.store 3 (.t 9) (.t 89))::[])) (.seq (.reg (
 oo 90 (.Az 3 (.t 5))::
oo 91 (.Az 3 (.t 9))::
oc 92 193 [(.t 90),(.t 91)]::
om 10 92::[])) (.seq (.BN (
 oo 93 (.Cc 3 1 (.t 5) (.c (Value.int .i64 2)))::
oo 94 (.Af (.t 93))::
oo 95 (.Cc 3 1 (.t 9) z1)::
oo 96 (.Af (.t 95))::
oo 97 (.int .mul (.t 94) (.t 96))::
oo 98 (.Cc 3 1 (.t 9) (.c (Value.int .i64 2)))::
oo 99 (.Af (.t 98))::
oo 100 (.Cc 3 1 (.t 5) z1)::
oo 101 (.Af (.t 100))::
oo 102 (.int .mul (.t 99) (.t 101))::
oo 103 (.int .sub (.t 97) (.t 102))::
oo 104 (.Cc 3 1 (.t 5) z0)::
oo 105 (.Af (.t 104))::
oo 106 (.Cc 3 1 (.t 9) (.c (Value.int .i64 2)))::
oo 107 (.Af (.t 106))::
oo 108 (.int .mul (.t 105) (.t 107))::
oo 109 (.Cc 3 1 (.t 9) z0)::
oo 110 (.Af (.t 109))::
oo 111 (.Cc 3 1 (.t 5) (.c (Value.int .i64 2)))::
oo 112 (.Af (.t 111))::
oo 113 (.int .mul (.t 110) (.t 112))::
oo 114 (.int .sub (.t 108) (.t 113))::
om 11 103::
om 12 114::[]) []) (.seq (.seq (.reg (
 om 115 10::
oo 116 (.int .lss (.t 115) z0)::[])) (.cond (.t 116) (.reg (
 om 117 10::
oo 118 (.neg (.t 117))::
om 119 11::
oo 120 (.neg (.t 119))::
om 121 12::
oo 122 (.neg (.t 121))::
om 10 118::
om 11 120::
om 12 122::[])) .skip)) (.seq (.reg (
 om 123 10::
oo 124 (.int .gtr (.t 123) z0)::
om 125 124::
og 126 125 true (.mv (.t 0))::
og 127 125 true (.mv (.t 11))::
og 128 125 true (.mv (.t 12))::
og 129 125 true (.mv (.t 10))::
og 130 125 true (.build [k0,k0,k0] [(0,1,(.t 127)),(1,1,(.t 128)),(2,1,(.t 129))])::
⟨(some 131),(some (125,true)),(.call (.t 126) [(.t 130)])⟩::
og 132 125 true (.not (.t 131))::
oo 133 (.pick (.t 125) (.t 132) (.c (Value.bool false)))::[])) (.cond (.t 133) .ret .skip))))))) (.reg (
 oo 134 (.int .add (.t 86) z1)::
om 86 134::[]))))))))))))) (.reg (
 oo 135 (.int .add (.t 39) z1)::
om 39 135::[])))))))))))
def Ak5:List ResultVar:=[]
theorem zV:Cf Tryz.prog 192 136 2 Aie Ak5:=
  ⟨rfl,Tryz.f192,_,rfl,rfl,rfl,by decide,rfl,rfl,rfl⟩
noncomputable def a193:Ay:=(.seq (.reg (
 oo 2 (.box (.t 0) 109)::
oo 3 (.box (.t 1) 109)::
oo 4 (.mv z0)::[])) (.seq (.reg (
 oo 5 (.Cc 3 1 (.t 2) z0)::
oo 6 (.Af (.t 5))::
oo 7 (.Cc 3 1 (.t 3) z1)::
oo 8 (.Af (.t 7))::
oo 9 (.int .mul (.t 6) (.t 8))::
oo 10 (.Cc 3 1 (.t 2) z1)::
oo 11 (.Af (.t 10))::
oo 12 (.Cc 3 1 (.t 3) z0)::
oo 13 (.Af (.t 12))::
oo 14 (.int .mul (.t 11) (.t 13))::
oo 15 (.int .sub (.t 9) (.t 14))::
om 4 15::[])) .ret))
def Ak4:List ResultVar:=[.tmp 4]
theorem zU:Cf Tryz.prog 193 16 2 a193 Ak4:=
  ⟨rfl,Tryz.f193,_,rfl,rfl,rfl,by decide,rfl,rfl,rfl⟩
noncomputable def a194:Ay:=(.seq (.reg (
 oo 4 (.mv z0)::[])) (.seq (.reg (
 om 5 0::
om 6 0::
oo 7 (.neg (.t 6))::
oo 8 (.Il true (.t 5) (.t 7))::
om 0 8::[])) (.seq (.block 0 (.loop (.seq (.seq (.reg (
 om 9 0::
oo 10 (.int .neq (.t 9) z0)::[])) (.cond (.t 10) .skip (.exit 0))) (.block 1 (.reg (
 om 11 1::
om 12 0::
oo 13 (.EV false (.t 11) (.t 12))::
om 14 0::
om 0 13::
om 1 14::[])))))) (.seq (.reg (
 om 15 1::
om 4 15::[])) .ret))))
def Ak3:List ResultVar:=[.tmp 4]
theorem zT:Cf Tryz.prog 194 16 2 a194 Ak3:=
  ⟨rfl,Tryz.f194,_,rfl,rfl,rfl,by decide,rfl,rfl,rfl⟩
noncomputable def a196:Ay:=(.seq (.reg (
 oo 4 (.mv z0)::[])) (.seq (.seq (.reg (
 om 6 0::
oo 7 (.len (.t 6))::
oo 8 (.mv z0)::[])) (.block 0 (.loop (.seq (.reg (
 oo 9 (.int .lss (.t 8) (.t 7))::[])) (.seq (.cond (.t 9) .skip (.exit 0)) (.seq (.block 1 (.seq (.reg (
 om 10 8::
om 5 10::[])) (.seq (.reg (
 om 11 1::
om 12 0::
om 13 5::
oo 14 (.Bb 4 (.t 12) (.t 13))::
oo 15 (.Az 4 (.t 14))::
⟨(some 16),none,(.call (.t 11) [(.t 15)])⟩::[])) (.cond (.t 16) (.seq (.reg (
 om 17 5::
om 4 17::[])) .ret) .skip)))) (.reg (
 oo 18 (.int .add (.t 8) z1)::
om 8 18::[])))))))) (.seq (.reg (
 oo 4 (.mv (.c (Value.int .i64 (-1))))::[])) .ret)))
def Ak2:List ResultVar:=[.tmp 4]
theorem zS:Cf Tryz.prog 196 19 2 a196 Ak2:=
  ⟨rfl,Tryz.f196,_,rfl,rfl,rfl,by decide,rfl,rfl,rfl⟩
noncomputable def Aid:Ay:=(.seq (.reg (
 oo 2 (.mv (.c (Value.bool false)))::[])) (.seq (.reg (
 om 3 0::
oc 4 54 [(.c (Value.int .i64 (-20))),(.c (Value.int .i64 20)),(.t 3)]::
om 2 4::[])) .ret))
def Ak1:List ResultVar:=[.tmp 2]
theorem zR:Cf Tryz.prog 197 5 1 Aid Ak1:=
  ⟨rfl,Tryz.f197,_,rfl,rfl,rfl,by decide,rfl,rfl,rfl⟩
noncomputable def a198:Ay:=(.seq (.reg (
 oo 8 (.Af (.t 1))::
oo 9 (.BP (.t 8))::
oo 10 (.Ai 1 (.t 9))::
oo 11 (.Af (.t 10))::
oo 12 (.len (.t 11))::
om 4 12::[])) (.seq (.reg (
 om 13 4::
oo 14 (.mv z0)::[])) (.block 0 (.loop (.seq (.reg (
 oo 15 (.int .lss (.t 14) (.t 13))::[])) (.seq (.cond (.t 15) .skip (.exit 0)) (.seq (.block 1 (.seq (.reg (
 om 16 14::
om 5 16::[])) (.seq (.seq (.reg (
 om 17 0::
om 18 5::
oo 19 (.BF [k0] [(0,1,(.t 18))] 1 3)::
⟨(some 20),none,(.call (.t 17) [(.t 19)])⟩::
oo 21 (.not (.t 20))::[])) (.cond (.t 21) .ret .skip)) (.seq (.reg (
 om 22 5::
oo 23 (.int .add (.t 22) z1)::
om 6 23::[])) (.block 2 (.loop (.seq (.seq (.reg (
 om 24 6::
om 25 4::
oo 26 (.int .lss (.t 24) (.t 25))::
om 27 26::
og 28 27 true (.Af (.t 2))::
og 29 27 true (.int .gtr (.t 28) z1)::
oo 30 (.pick (.t 27) (.t 29) (.c (Value.bool false)))::[])) (.cond (.t 30) .skip (.exit 2))) (.seq (.block 3 (.seq (.seq (.reg (
 om 33 0::
om 34 5::
om 35 6::
oo 36 (.BF [k0,k0] [(0,1,(.t 34)),(1,1,(.t 35))] 2 3)::
⟨(some 37),none,(.call (.t 33) [(.t 36)])⟩::
oo 38 (.not (.t 37))::[])) (.cond (.t 38) .ret .skip)) (.seq (.reg (
 om 39 6::
oo 40 (.int .add (.t 39) z1)::
om 7 40::[])) (.block 4 (.loop (.seq (.seq (.reg (
 om 41 7::
om 42 4::
oo 43 (.int .lss (.t 41) (.t 42))::
om 44 43::
og 45 44 true (.Af (.t 2))::
og 46 44 true (.int .gtr (.t 45) (.c (Value.int .i64 2)))::
oo 47 (.pick (.t 44) (.t 46) (.c (Value.bool false)))::[])) (.cond (.t 47) .skip (.exit 4))) (.seq (.block 5 (.seq (.reg (
 om 50 0::
om 51 5::
om 52 6::
om 53 7::
oo 54 (.BF [k0,k0,k0] [(0,1,(.t 51)),(1,1,(.t 52)),(2,1,(.t 53))] 3 3)::
⟨(some 55),none,(.call (.t 50) [(.t 54)])⟩::
oo 56 (.not (.t 55))::[])) (.cond (.t 56) .ret .skip))) (.reg (
 om 48 7::
oo 49 (.int .add (.t 48) z1)::
om 7 49::[]))))))))) (.reg (
 om 31 6::
oo 32 (.int .add (.t 31) z1)::
om 6 32::[])))))))))) (.reg (
 oo 57 (.int .add (.t 14) z1)::
om 14 57::[])))))))))
def Ak0:List ResultVar:=[]
theorem zQ:Cf Tryz.prog 198 58 3 a198 Ak0:=
  ⟨rfl,Tryz.f198,_,rfl,rfl,rfl,by decide,rfl,rfl,rfl⟩
noncomputable def Aic:Ay:=(.seq (.reg (
 oo 1 (.box (.t 0) 109)::
oo 2 (.mv z0)::[])) (.seq (.reg (
 oo 3 (.Cc 3 1 (.t 1) z0)::
oo 4 (.Af (.t 3))::
oo 5 (.Cc 3 1 (.t 1) z0)::
oo 6 (.Af (.t 5))::
oo 7 (.neg (.t 6))::
oo 8 (.Il true (.t 4) (.t 7))::
oo 9 (.Cc 3 1 (.t 1) z1)::
oo 10 (.Af (.t 9))::
oo 11 (.Cc 3 1 (.t 1) z1)::
oo 12 (.Af (.t 11))::
oo 13 (.neg (.t 12))::
oo 14 (.Il true (.t 10) (.t 13))::
oo 15 (.int .add (.t 8) (.t 14))::
om 2 15::[])) .ret))
def Akz:List ResultVar:=[.tmp 2]
theorem zP:Cf Tryz.prog 199 16 1 Aic Akz:=
  ⟨rfl,Tryz.f199,_,rfl,rfl,rfl,by decide,rfl,rfl,rfl⟩
noncomputable def Aib:Ay:=(.seq (.reg (
 oo 2 (.alloc [k0,k0,k0] 109)::[])) (.seq (.reg (
 oo 3 (.alloc [k0,k0,k0] 109)::[])) (.seq (.seq (.reg (
 om 8 0::
oo 9 (.len (.t 8))::
oo 10 (.mv z0)::[])) (.block 0 (.loop (.seq (.reg (
 oo 11 (.int .lss (.t 10) (.t 9))::[])) (.seq (.cond (.t 11) .skip (.exit 0)) (.seq (.block 1 (.seq (.reg (
 oo 12 (.Bb 3 (.t 8) (.t 10))::
oo 13 (.Az 3 (.t 12))::
oo 5 (.alloc [k0,k0,k0] 109)::
oz (.store 3 (.t 5) (.t 13))::[])) (.seq (.reg (
 oo 14 (.Az 3 (.t 5))::
oo 15 (.mv z0)::[])) (.block 2 (.loop (.seq (.reg (
 oo 16 (.int .lss (.t 15) (.c (Value.int .i64 3)))::[])) (.seq (.cond (.t 16) .skip (.exit 2)) (.seq (.block 3 (.seq (.reg (
 om 17 15::
oo 18 (.tu 3 (.t 14) (.t 15))::
om 6 17::
om 7 18::[])) (.reg (
 om 19 6::
oo 20 (.Cc 3 1 (.t 3) (.t 19))::
oo 21 (.Af (.t 20))::
om 22 7::
oo 23 (.int .add (.t 21) (.t 22))::
oo 24 (.Cc 3 1 (.t 3) (.t 19))::
oz (.store 1 (.t 24) (.t 23))::[])))) (.reg (
 oo 25 (.int .add (.t 15) z1)::
om 15 25::[])))))))))) (.reg (
 oo 26 (.int .add (.t 10) z1)::
om 10 26::[])))))))) (.seq (.reg (
 oo 27 (.Az 3 (.t 3))::
oz (.store 3 (.t 2) (.t 27))::[])) .ret))))
def Aky:List ResultVar:=[.cell 2 109]
theorem zO:Cf Tryz.prog 200 28 1 Aib Aky:=
  ⟨rfl,Tryz.f200,_,rfl,rfl,rfl,by decide,rfl,rfl,rfl⟩
noncomputable def a201:Ay:=(.seq (.reg (
 oo 2 (.box (.t 0) 109)::
oo 4 (.alloc [k0,k0,k0] 109)::[])) (.seq (.reg (
 oo 5 (.Cc 3 1 (.t 2) z0)::
oo 6 (.Af (.t 5))::
om 7 1::
oo 8 (.int .mul (.t 6) (.t 7))::
oo 9 (.Cc 3 1 (.t 2) z1)::
oo 10 (.Af (.t 9))::
om 11 1::
oo 12 (.int .mul (.t 10) (.t 11))::
oo 13 (.Cc 3 1 (.t 2) (.c (Value.int .i64 2)))::
oo 14 (.Af (.t 13))::
om 15 1::
oo 16 (.int .mul (.t 14) (.t 15))::
oo 17 (.build [k0,k0,k0] [(0,1,(.t 8)),(1,1,(.t 12)),(2,1,(.t 16))])::
oz (.store 3 (.t 4) (.t 17))::[])) .ret))
def Akx:List ResultVar:=[.cell 4 109]
theorem zN:Cf Tryz.prog 201 18 2 a201 Akx:=
  ⟨rfl,Tryz.f201,_,rfl,rfl,rfl,by decide,rfl,rfl,rfl⟩
noncomputable def Aia:Ay:=(.seq (.reg (
 oo 8 (.alloc [Value.map none,k0,k0,k0,k0] 111)::[])) (.seq (.reg (
 oo 12 (.LO)::
oo 13 (.build [k0,k0,k0] [])::
om 14 2::
oo 15 (.build [Value.map none,k0,k0,k0,k0] [(0,1,(.t 12)),(1,3,(.t 13)),(4,1,(.t 14))])::
oo 9 (.alloc [Value.map none,k0,k0,k0,k0] 111)::
oz (.store 5 (.t 9) (.t 15))::[])) (.seq (.seq (.reg (
 om 16 1::
oo 17 (.len (.t 16))::
oo 18 (.mv z0)::[])) (.block 0 (.loop (.seq (.reg (
 oo 19 (.int .lss (.t 18) (.t 17))::[])) (.seq (.cond (.t 19) .skip (.exit 0)) (.seq (.block 1 (.seq (.reg (
 om 20 18::
oo 21 (.Bb 1 (.t 16) (.t 18))::
oo 22 (.Af (.t 21))::
om 10 20::
om 11 22::[])) (.seq (.BN (
 oo 23 (.Ai 0 (.t 9))::
oo 24 (.Af (.t 23))::
om 25 11::
om 26 3::
om 27 10::
oo 28 (.Bb 1 (.t 26) (.t 27))::
oo 29 (.Af (.t 28))::
oz (.Ig 3 (.t 24) (.t 25) (.t 29))::[]) []) (.BN (
 oo 30 (.Ai 1 (.t 9))::
oo 31 (.Az 3 (.t 30))::
om 32 0::
oo 33 (.BP (.t 32))::
oo 34 (.Ai 1 (.t 33))::
oo 35 (.Af (.t 34))::
om 36 11::
oo 37 (.Bb 3 (.t 35) (.t 36))::
oo 38 (.Az 3 (.t 37))::
om 39 3::
om 40 10::
oo 41 (.Bb 1 (.t 39) (.t 40))::
oo 42 (.Af (.t 41))::
oc 43 201 [(.t 38),(.t 42)]::
oo 44 (.BF [k0,k0,k0,k0,k0,k0] [(0,3,(.t 31)),(3,3,(.t 43))] 2 109)::
oc 45 200 [(.t 44)]::
oo 46 (.Ai 1 (.t 9))::
oz (.store 3 (.t 46) (.t 45))::[]) [])))) (.reg (
 oo 47 (.int .add (.t 18) z1)::
om 18 47::[])))))))) (.seq (.reg (
 oo 48 (.Az 5 (.t 9))::
oz (.store 5 (.t 8) (.t 48))::[])) .ret))))
def Akw:List ResultVar:=[.cell 8 111]
theorem zM:Cf Tryz.prog 202 49 4 Aia Akw:=
  ⟨rfl,Tryz.f202,_,rfl,rfl,rfl,by decide,rfl,rfl,rfl⟩
noncomputable def a203:Ay:=(.seq (.reg (
 oo 8 (.mv (.c (Value.bool true)))::[])) (.seq (.reg (
 oo 9 (.mv (.c (Value.bool true)))::[])) (.block 0 (.loop (.block 1 (.seq (.reg (
 om 19 2::
om 20 1::
oo 21 (.int .sub (.t 19) (.t 20))::
om 10 21::[])) (.seq (.seq (.reg (
 om 22 10::
oo 23 (.int .leq (.t 22) (.c (Value.int .i64 12)))::[])) (.cond (.t 23) (.seq (.reg (
 om 24 0::
om 25 1::
om 26 2::
oc 27 283 [(.t 24),(.t 25),(.t 26)]::[])) .ret) .skip)) (.seq (.seq (.reg (
 om 28 3::
oo 29 (.int .eql (.t 28) z0)::[])) (.cond (.t 29) (.seq (.reg (
 om 30 0::
om 31 1::
om 32 2::
oc 33 284 [(.t 30),(.t 31),(.t 32)]::[])) .ret) .skip)) (.seq (.seq (.reg (
 om 34 8::
oo 35 (.not (.t 34))::[])) (.cond (.t 35) (.seq (.reg (
 om 36 0::
om 37 1::
om 38 2::
oc 39 285 [(.t 36),(.t 37),(.t 38)]::[])) (.reg (
 om 40 3::
oo 41 (.int .sub (.t 40) z1)::
om 3 41::[]))) .skip)) (.seq (.reg (
 om 43 0::
om 44 1::
om 45 2::
oc 46 286 [(.t 43),(.t 44),(.t 45)]::
om 42 46::
oo 47 (.extract (.t 42) 0)::
oo 48 (.extract (.t 42) 1)::
om 11 47::
om 12 48::[])) (.seq (.seq (.reg (
 om 49 12::
oo 50 (.int .eql (.t 49) (.c (Value.int .i64 2)))::[])) (.cond (.t 50) (.seq (.reg (
 om 51 0::
om 52 1::
om 53 2::
oc 54 287 [(.t 51),(.t 52),(.t 53)]::[])) (.seq (.reg (
 om 55 2::
oo 56 (.int .sub (.t 55) z1)::
om 57 11::
om 58 1::
oo 59 (.int .sub (.t 57) (.t 58))::
oo 60 (.int .sub (.t 56) (.t 59))::
om 11 60::[])) (.reg (
 oo 12 (.mv z1)::[])))) .skip)) (.seq (.seq (.reg (
 om 61 8::
om 62 61::
og 63 62 true (.mv (.t 9))::
oo 64 (.pick (.t 62) (.t 63) (.c (Value.bool false)))::
om 65 64::
og 66 65 true (.mv (.t 12))::
og 67 65 true (.int .eql (.t 66) z1)::
oo 68 (.pick (.t 65) (.t 67) (.c (Value.bool false)))::[])) (.cond (.t 68) (.seq (.reg (
 om 69 0::
om 70 1::
om 71 2::
oc 72 288 [(.t 69),(.t 70),(.t 71)]::[])) (.cond (.t 72) .ret .skip)) .skip)) (.seq (.seq (.BN (
 om 73 1::
oo 74 (.int .gtr (.t 73) z0)::
om 75 74::
og 76 75 true (.mv (.t 0))::
og 77 75 true (.mv (.t 1))::
og 78 75 true (.int .sub (.t 77) z1)::
og 79 75 true (.Bb 1 (.t 76) (.t 78))::
og 80 75 true (.Af (.t 79))::
og 81 75 true (.mv (.t 0))::
og 82 75 true (.mv (.t 11))::
og 83 75 true (.Bb 1 (.t 81) (.t 82))::
og 84 75 true (.Af (.t 83))::
F6 85 75 true 289 [(.t 80),(.t 84)]::
og 86 75 true (.not (.t 85))::
oo 87 (.pick (.t 75) (.t 86) (.c (Value.bool false)))::[]) []) (.cond (.t 87) (.seq (.reg (
 om 88 0::
om 89 1::
om 90 2::
om 91 11::
oc 92 290 [(.t 88),(.t 89),(.t 90),(.t 91)]::
om 13 92::[])) (.seq (.reg (
 om 93 13::
om 1 93::[])) (.exit 1))) .skip)) (.seq (.reg (
 om 95 0::
om 96 1::
om 97 2::
om 98 11::
oc 99 291 [(.t 95),(.t 96),(.t 97),(.t 98)]::
om 94 99::
oo 100 (.extract (.t 94) 0)::
oo 101 (.extract (.t 94) 1)::
om 14 100::
om 15 101::[])) (.seq (.reg (
 om 102 15::
om 9 102::[])) (.seq (.reg (
 om 103 14::
om 104 1::
oo 105 (.int .sub (.t 103) (.t 104))::
om 106 2::
om 107 14::
oo 108 (.int .sub (.t 106) (.t 107))::
om 16 105::
om 17 108::[])) (.seq (.reg (
 om 109 10::
oo 110 (.EV true (.t 109) (.c (Value.int .i64 8)))::
om 18 110::[])) (.seq (.reg (
 om 111 16::
om 112 17::
oo 113 (.int .lss (.t 111) (.t 112))::[])) (.cond (.t 113) (.seq (.reg (
 om 114 16::
om 115 18::
oo 116 (.int .geq (.t 114) (.t 115))::
om 8 116::[])) (.seq (.reg (
 om 117 0::
om 118 1::
om 119 14::
om 120 3::
oc 121 203 [(.t 117),(.t 118),(.t 119),(.t 120)]::[])) (.reg (
 om 122 14::
oo 123 (.int .add (.t 122) z1)::
om 1 123::[])))) (.seq (.reg (
 om 124 17::
om 125 18::
oo 126 (.int .geq (.t 124) (.t 125))::
om 8 126::[])) (.seq (.reg (
 om 127 0::
om 128 14::
oo 129 (.int .add (.t 128) z1)::
om 130 2::
om 131 3::
oc 132 203 [(.t 127),(.t 129),(.t 130),(.t 131)]::[])) (.reg (
 om 133 14::
om 2 133::[])))))))))))))))))))))))
def Akv:List ResultVar:=[]
theorem zL:Cf Tryz.prog 203 134 4 a203 Akv:=
  ⟨rfl,Tryz.f203,_,rfl,rfl,rfl,by decide,rfl,rfl,rfl⟩
noncomputable def Ah9:Ay:=(.seq (.reg (
 oo 2 (.mv z0)::[])) (.seq (.cond (.c (Value.bool false)) (.seq (.reg (
 om 3 0::
oo 4 (.conv .u32 (.t 3))::
oc 5 292 [(.t 4)]::
om 2 5::[])) .ret) .skip) (.seq (.reg (
 om 6 0::
oc 7 293 [(.t 6)]::
om 2 7::[])) .ret)))
def Aku:List ResultVar:=[.tmp 2]
theorem zK:Cf Tryz.prog 204 8 1 Ah9 Aku:=
  ⟨rfl,Tryz.f204,_,rfl,rfl,rfl,by decide,rfl,rfl,rfl⟩
noncomputable def uX:Ay:=(.seq (.reg (
 oo 4 (.mv z0)::[])) (.seq (.seq (.reg (
 om 6 0::
oo 7 (.len (.t 6))::
oo 8 (.mv z0)::[])) (.block 0 (.loop (.seq (.reg (
 oo 9 (.int .lss (.t 8) (.t 7))::[])) (.seq (.cond (.t 9) .skip (.exit 0)) (.seq (.block 1 (.seq (.reg (
 om 10 8::
om 5 10::[])) (.seq (.reg (
 om 11 1::
om 12 0::
om 13 5::
oo 14 (.Bb 1 (.t 12) (.t 13))::
oo 15 (.Af (.t 14))::
⟨(some 16),none,(.call (.t 11) [(.t 15)])⟩::[])) (.cond (.t 16) (.seq (.reg (
 om 17 5::
om 4 17::[])) .ret) .skip)))) (.reg (
 oo 18 (.int .add (.t 8) z1)::
om 8 18::[])))))))) (.seq (.reg (
 oo 4 (.mv (.c (Value.int .i64 (-1))))::[])) .ret)))
def Akt:List ResultVar:=[.tmp 4]
theorem bT:Cf Tryz.prog 205 19 2 uX Akt:=
  ⟨rfl,Tryz.f205,_,rfl,rfl,rfl,by decide,rfl,rfl,rfl⟩
noncomputable def a206:Ay:=(.seq (.reg (
 oo 4 (.alloc [Value.map none,k0,k0,k0,k0] 111)::[])) (.seq (.reg (
 om 8 0::
oo 9 (.Bb 5 (.t 8) z0)::
oo 10 (.Az 5 (.t 9))::
oo 5 (.alloc [Value.map none,k0,k0,k0,k0] 111)::
oz (.store 5 (.t 5) (.t 10))::[])) (.seq (.seq (.reg (
 om 11 0::
oo 12 (.HL 5 (.t 11) (some z1) none none)::
oo 13 (.len (.t 12))::
oo 14 (.mv z0)::[])) (.block 0 (.loop (.seq (.reg (
 oo 15 (.int .lss (.t 14) (.t 13))::[])) (.seq (.cond (.t 15) .skip (.exit 0)) (.seq (.block 1 (.seq (.reg (
 oo 16 (.Bb 5 (.t 12) (.t 14))::
oo 17 (.Az 5 (.t 16))::
oo 7 (.alloc [Value.map none,k0,k0,k0,k0] 111)::
oz (.store 5 (.t 7) (.t 17))::[])) (.seq (.reg (
 om 18 1::
oo 19 (.Az 5 (.t 7))::
oo 20 (.Az 5 (.t 5))::
⟨(some 21),none,(.call (.t 18) [(.t 19),(.t 20)])⟩::[])) (.cond (.t 21) (.reg (
 oo 22 (.Az 5 (.t 7))::
oz (.store 5 (.t 5) (.t 22))::[])) .skip)))) (.reg (
 oo 23 (.int .add (.t 14) z1)::
om 14 23::[])))))))) (.seq (.reg (
 oo 24 (.Az 5 (.t 5))::
oz (.store 5 (.t 4) (.t 24))::[])) .ret))))
def Aks:List ResultVar:=[.cell 4 111]
theorem zJ:Cf Tryz.prog 206 25 2 a206 Aks:=
  ⟨rfl,Tryz.f206,_,rfl,rfl,rfl,by decide,rfl,rfl,rfl⟩
noncomputable def Ah8:Ay:=(.seq (.reg (
 oo 2 (.box (.t 0) 111)::
oo 3 (.box (.t 1) 111)::
oo 4 (.mv (.c (Value.bool false)))::[])) (.seq (.BN (
 oo 5 (.Az 5 (.t 3))::
oc 6 58 [(.t 5)]::
oo 7 (.Az 5 (.t 2))::
oc 8 58 [(.t 7)]::
oc 9 208 [(.t 6),(.t 8)]::
om 4 9::[]) []) .ret))
def Akr:List ResultVar:=[.tmp 4]
theorem zI:Cf Tryz.prog 207 10 2 Ah8 Akr:=
  ⟨rfl,Tryz.f207,_,rfl,rfl,rfl,by decide,rfl,rfl,rfl⟩
noncomputable def a208:Ay:=(.seq (.reg (
 oo 2 (.box (.t 0) 57)::
oo 3 (.box (.t 1) 57)::
oo 4 (.mv (.c (Value.bool false)))::[])) (.seq (.reg (
 oo 5 (.Ai 0 (.t 2))::
oo 6 (.Af (.t 5))::
oo 7 (.Ai 1 (.t 3))::
oo 8 (.Af (.t 7))::
oo 9 (.int .mul (.t 6) (.t 8))::
oo 10 (.Ai 0 (.t 3))::
oo 11 (.Af (.t 10))::
oo 12 (.Ai 1 (.t 2))::
oo 13 (.Af (.t 12))::
oo 14 (.int .mul (.t 11) (.t 13))::
oo 15 (.int .lss (.t 9) (.t 14))::
om 4 15::[])) .ret))
def Akq:List ResultVar:=[.tmp 4]
theorem zH:Cf Tryz.prog 208 16 2 a208 Akq:=
  ⟨rfl,Tryz.f208,_,rfl,rfl,rfl,by decide,rfl,rfl,rfl⟩
noncomputable def Ahu:Ay:=(.seq (.reg (
 oo 7 (.Af (.t 1))::
oo 8 (.BP (.t 7))::
oo 9 (.Ai 6 (.t 8))::
oo 10 (.Az 338 (.t 9))::
oo 11 (.mv z0)::[])) (.block 0 (.loop (.seq (.reg (
 oo 12 (.int .lss (.t 11) (.c (Value.int .i64 13)))::[])) (.seq (.cond (.t 12) .skip (.exit 0)) (.seq (.block 1 (.seq (.reg (
 om 13 11::
oo 14 (.jn 13 26 (.t 10) (.t 11))::
oo 4 (.alloc [Value.bool false,k0,Value.bool false,k0,Value.bool false,k0,Value.bool false,k0,Value.bool false,k0,Value.bool false,k0,Value.bool false,k0,Value.bool false,k0,Value.bool false,k0,Value.bool false,k0,Value.bool false,k0,Value.bool false,k0,Value.bool false,k0] 184)::
om 3 13::
oz (.store 26 (.t 4) (.t 14))::[])) (.seq (.seq (.reg (
 oo 15 (.Az 26 (.t 4))::
oo 16 (.build [Value.bool false,k0,Value.bool false,k0,Value.bool false,k0,Value.bool false,k0,Value.bool false,k0,Value.bool false,k0,Value.bool false,k0,Value.bool false,k0,Value.bool false,k0,Value.bool false,k0,Value.bool false,k0,Value.bool false,k0,Value.bool false,k0] [])::
oo 17 (.pure (Fa Tryz.f282 3 2))::[])) (.cond (.t 17) (.exit 1) .skip)) (.seq (.reg (
 oo 18 (.Az 26 (.t 4))::
oo 19 (.mv z0)::[])) (.block 2 (.loop (.seq (.reg (
 oo 20 (.int .lss (.t 19) (.c (Value.int .i64 13)))::[])) (.seq (.cond (.t 20) .skip (.exit 2)) (.seq (.block 3 (.seq (.reg (
 om 21 19::
oo 22 (.jn 13 2 (.t 18) (.t 19))::
oo 6 (.alloc [Value.bool false,k0] 182)::
om 5 21::
oz (.store 2 (.t 6) (.t 22))::[])) (.seq (.reg (
 oo 23 (.Ai 0 (.t 6))::
oo 24 (.Af (.t 23))::
om 25 24::
og 26 25 true (.mv (.t 0))::
og 27 25 true (.mv (.t 3))::
og 28 25 true (.mv (.t 5))::
og 29 25 true (.Ai 1 (.t 6))::
og 30 25 true (.Af (.t 29))::
og 31 25 true (.build [k0,k0,k0] [(0,1,(.t 27)),(1,1,(.t 28)),(2,1,(.t 30))])::
⟨(some 32),(some (25,true)),(.call (.t 26) [(.t 31)])⟩::
og 33 25 true (.not (.t 32))::
oo 34 (.pick (.t 25) (.t 33) (.c (Value.bool false)))::[])) (.cond (.t 34) .ret .skip)))) (.reg (
 oo 35 (.int .add (.t 19) z1)::
om 19 35::[]))))))))))) (.reg (
 oo 36 (.int .add (.t 11) z1)::
om 11 36::[]))))))))
def Aj4:List ResultVar:=[]
theorem y8:Cf Tryz.prog 282 37 2 Ahu Aj4:=
  ⟨rfl,Tryz.f282,_,rfl,rfl,rfl,by decide,rfl,rfl,rfl⟩
noncomputable def Aht:Ay:=(.seq (.reg (
 om 8 1::
oo 9 (.int .add (.t 8) z1)::
om 6 9::[])) (.block 0 (.loop (.seq (.seq (.reg (
 om 10 6::
om 11 2::
oo 12 (.int .lss (.t 10) (.t 11))::[])) (.cond (.t 12) .skip (.exit 0))) (.seq (.block 1 (.seq (.reg (
 om 15 6::
om 7 15::[])) (.block 2 (.loop (.seq (.seq (.BN (
 om 16 7::
om 17 1::
oo 18 (.int .gtr (.t 16) (.t 17))::
om 19 18::
og 20 19 true (.mv (.t 0))::
og 21 19 true (.mv (.t 7))::
og 22 19 true (.Bb 1 (.t 20) (.t 21))::
og 23 19 true (.Af (.t 22))::
og 24 19 true (.mv (.t 0))::
og 25 19 true (.mv (.t 7))::
og 26 19 true (.int .sub (.t 25) z1)::
og 27 19 true (.Bb 1 (.t 24) (.t 26))::
og 28 19 true (.Af (.t 27))::
F6 29 19 true 289 [(.t 23),(.t 28)]::
oo 30 (.pick (.t 19) (.t 29) (.c (Value.bool false)))::[]) []) (.cond (.t 30) .skip (.exit 2))) (.seq (.block 3 (.BN (
 om 33 0::
om 34 7::
om 35 0::
om 36 7::
oo 37 (.int .sub (.t 36) z1)::
om 38 0::
om 39 7::
oo 40 (.int .sub (.t 39) z1)::
oo 41 (.Bb 1 (.t 38) (.t 40))::
oo 42 (.Af (.t 41))::
om 43 0::
om 44 7::
oo 45 (.Bb 1 (.t 43) (.t 44))::
oo 46 (.Af (.t 45))::
oo 47 (.Bb 1 (.t 33) (.t 34))::
oz (.store 1 (.t 47) (.t 42))::
oo 48 (.Bb 1 (.t 35) (.t 37))::
oz (.store 1 (.t 48) (.t 46))::[]) [])) (.reg (
 om 31 7::
oo 32 (.int .sub (.t 31) z1)::
om 7 32::[])))))))) (.reg (
 om 13 6::
oo 14 (.int .add (.t 13) z1)::
om 6 14::[])))))))
def Aj3:List ResultVar:=[]
theorem y7:Cf Tryz.prog 283 49 3 Aht Aj3:=
  ⟨rfl,Tryz.f283,_,rfl,rfl,rfl,by decide,rfl,rfl,rfl⟩
noncomputable def Ahs:Ay:=(.seq (.reg (
 oo 4 (.mv (.c (Value.bool false)))::[])) (.seq (.reg (
 om 5 0::
oc 6 360 [(.t 5)]::
om 7 6::
og 8 7 true (.mv (.t 1))::
F6 9 7 true 360 [(.t 8)]::
og 10 7 true (.not (.t 9))::
oo 11 (.pick (.t 7) (.t 10) (.c (Value.bool false)))::
om 12 11::
og 13 12 false (.mv (.t 0))::
og 14 12 false (.mv (.t 1))::
og 15 12 false (.int .lss (.t 13) (.t 14))::
oo 16 (.pick (.t 12) (.c (Value.bool true)) (.t 15))::
om 4 16::[])) .ret))
def Aj2:List ResultVar:=[.tmp 4]
theorem y6:Cf Tryz.prog 289 17 2 Ahs Aj2:=
  ⟨rfl,Tryz.f289,_,rfl,rfl,rfl,by decide,rfl,rfl,rfl⟩
noncomputable def Ahr:Ay:=(.seq (.reg (
 oo 2 (.mv z0)::[])) (.seq (.seq (.reg (
 om 3 0::
oo 4 (.pure (Fa Tryz.f293 1 1))::[])) (.cond (.t 4) (.seq (.reg (
 om 5 0::
oo 6 (.pure (Fa Tryz.f293 2 1))::
om 0 6::[])) (.reg (
 oo 2 (.mv (.c (Value.int .i64 32)))::[]))) .skip)) (.seq (.seq (.reg (
 om 7 0::
oo 8 (.pure (Fa Tryz.f293 4 1))::[])) (.cond (.t 8) (.seq (.reg (
 om 9 0::
oo 10 (.pure (Fa Tryz.f293 5 1))::
om 0 10::[])) (.reg (
 om 11 2::
oo 12 (.int .add (.t 11) (.c (Value.int .i64 16)))::
om 2 12::[]))) .skip)) (.seq (.seq (.reg (
 om 13 0::
oo 14 (.pure (Fa Tryz.f293 7 1))::[])) (.cond (.t 14) (.seq (.reg (
 om 15 0::
oo 16 (.pure (Fa Tryz.f293 8 1))::
om 0 16::[])) (.reg (
 om 17 2::
oo 18 (.int .add (.t 17) (.c (Value.int .i64 8)))::
om 2 18::[]))) .skip)) (.seq (.reg (
 om 19 2::
om 20 0::
oo 21 (.conv .u8 (.t 20))::
oo 22 (.pure (Fa Tryz.f293 10 3))::
oo 23 (.conv .i64 (.t 22))::
oo 24 (.int .add (.t 19) (.t 23))::
om 2 24::[])) .ret)))))
def Aj1:List ResultVar:=[.tmp 2]
theorem y4:Cf Tryz.prog 293 25 1 Ahr Aj1:=
  ⟨rfl,Tryz.f293,_,rfl,rfl,rfl,by decide,rfl,rfl,rfl⟩
noncomputable def Ahk:Ay:=(.seq (.reg (
 oo 2 (.mv (.c (Value.bool false)))::[])) (.seq (.reg (
 om 3 0::
om 4 0::
oo 5 (.int .neq (.t 3) (.t 4))::
om 2 5::[])) .ret))
def Aju:List ResultVar:=[.tmp 2]
theorem yT:Cf Tryz.prog 360 6 1 Ahk Aju:=
  ⟨rfl,Tryz.f360,_,rfl,rfl,rfl,by decide,rfl,rfl,rfl⟩
end AE.Tryz
