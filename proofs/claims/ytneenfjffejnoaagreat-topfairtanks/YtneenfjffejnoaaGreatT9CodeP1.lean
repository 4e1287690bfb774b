/- Made by gen3.py: the code of the functions, compiled for the evaluator; each is that of the program, by evaluation. -/
import Derived.Test.YtneenfjffejnoaaGreatProg
import Derived.Test.YtneenfjffejnoaaGreatAEtwo
set_option linter.unusedVariables false
set_option linter.unusedSimpArgs false
set_option linter.unusedSectionVars false
namespace AE.Tryz
open Go AE Go.Proofs
set_option maxRecDepth 1000000
set_option maxHeartbeats 4000000
abbrev oo (d:Nat) (x:B9):A7:=⟨some d,none,.op x⟩
abbrev og (d g:Nat) (b:Bool) (x:B9):A7:=⟨some d,some (g,b),.op x⟩
abbrev oz (x:B9):A7:=⟨none,none,.op x⟩
abbrev oc (d f:Nat) (l:List BH):A7:=⟨some d,none,.call (.c (Value.func (.func f) #[] #[])) l⟩
abbrev F6 (d g:Nat) (b:Bool) (f:Nat) (l:List BH):A7:=⟨some d,some (g,b),.call (.c (Value.func (.func f) #[] #[])) l⟩
abbrev om (d s:Nat):A7:=⟨some d,none,.op (.mv (.t s))⟩
abbrev z0:BH:=.c (Value.int .i64 0)
abbrev z1:BH:=.c (Value.int .i64 1)
abbrev k0:Value:=.int .i64 0
noncomputable def a3:Ay:=(.seq (.reg (
 oo 2 (.box (.t 0) 23)::
oo 4 (.mv (.c (Value.bool false)))::[])) (.seq (.seq (.reg (
 om 25 1::
oo 26 (.len (.t 25))::
oo 27 (.int .geq (.t 26) (.c (Value.int .i64 12)))::[])) (.cond (.t 27) (.seq (.reg (
 oc 28 7 []::
om 4 28::[])) .ret) .skip)) (.seq (.reg (
 oo 29 (.Az 2 (.t 2))::
oo 30 (.build [k0,k0,k0,k0] [(0,1,z1),(2,2,(.t 29))])::
oo 31 (.BF [k0,k0,k0,k0] [(0,4,(.t 30))] 1 27)::
om 5 31::[])) (.seq (.reg (
 oo 32 (.Az 2 (.t 2))::
oo 33 (.build [k0,k0,k0,k0,Value.slice none 0 0] [(0,1,z1),(1,1,z1),(2,2,(.t 32))])::
oo 6 (.alloc [k0,k0,k0,k0,Value.slice none 0 0] 31)::
oz (.store 5 (.t 6) (.t 33))::[])) (.seq (.seq (.reg (
 oo 7 (.mv z0)::[])) (.block 0 (.loop (.seq (.seq (.reg (
 om 34 7::
om 35 1::
oo 36 (.len (.t 35))::
oo 37 (.int .lss (.t 34) (.t 36))::[])) (.cond (.t 37) .skip (.exit 0))) (.seq (.block 1 (.seq (.reg (
 om 40 5::
om 41 1::
om 42 7::
oo 43 (.Bb 2 (.t 41) (.t 42))::
oo 44 (.Az 2 (.t 43))::
oo 45 (.build [k0,k0,k0,k0] [(0,1,z1),(1,1,z1),(2,2,(.t 44))])::
oo 46 (.BF [k0,k0,k0,k0] [(0,4,(.t 45))] 1 27)::
oo 47 (.append 27 4 32 (.t 40) (.t 46))::
om 5 47::[])) (.BN (
 oo 48 (.Ai 4 (.t 6))::
oo 49 (.Af (.t 48))::
om 50 1::
om 51 7::
oo 52 (.Bb 2 (.t 50) (.t 51))::
oo 53 (.Az 2 (.t 52))::
oo 54 (.build [k0,k0,k0,k0] [(2,2,(.t 53))])::
oo 55 (.BF [k0,k0,k0,k0] [(0,4,(.t 54))] 1 33)::
oo 56 (.append 33 4 32 (.t 49) (.t 55))::
oo 57 (.Ai 4 (.t 6))::
oz (.store 1 (.t 57) (.t 56))::[]) []))) (.reg (
 om 38 7::
oo 39 (.int .add (.t 38) z1)::
om 7 39::[]))))))) (.seq (.seq (.reg (
 om 58 5::
oc 59 8 [(.t 58)]::
oo 60 (.int .neq (.t 59) z0)::
om 61 60::
og 62 61 false (.Az 5 (.t 6))::
F6 63 61 false 9 [(.t 62)]::
og 64 61 false (.int .neq (.t 63) z0)::
oo 65 (.pick (.t 61) (.c (Value.bool true)) (.t 64))::[])) (.cond (.t 65) (.seq (.reg (
 oc 66 7 []::
om 4 66::[])) .ret) .skip)) (.seq (.reg (
 oo 68 (.Az 5 (.t 6))::
oc 69 10 [(.t 68)]::
om 67 69::
oo 70 (.extract (.t 67) 0)::
oo 71 (.extract (.t 67) 1)::
oo 8 (.alloc [Value.slice none 0 0,Value.slice none 0 0] 39)::
oz (.store 2 (.t 8) (.t 70))::
om 9 71::[])) (.seq (.reg (
 om 73 5::
oc 74 11 [(.t 73)]::
om 72 74::
oo 75 (.extract (.t 72) 0)::
oo 76 (.extract (.t 72) 1)::
oo 10 (.alloc [k0,k0,k0] 43)::
oz (.store 3 (.t 10) (.t 75))::
om 11 76::[])) (.seq (.seq (.reg (
 om 77 9::
om 78 11::
oo 79 (.int .neq (.t 77) (.t 78))::[])) (.cond (.t 79) (.seq (.reg (
 oo 4 (.mv (.c (Value.bool false)))::[])) .ret) .skip)) (.seq (.seq (.reg (
 om 80 9::
oo 81 (.int .neq (.t 80) z0)::[])) (.cond (.t 81) (.seq (.reg (
 oo 83 (.Az 5 (.t 6))::
oc 84 12 [(.t 83)]::
om 82 84::
oo 85 (.extract (.t 82) 0)::
oo 86 (.extract (.t 82) 1)::
om 12 85::
om 13 86::[])) (.seq (.reg (
 om 88 5::
oc 89 13 [(.t 88)]::
om 87 89::
oo 90 (.extract (.t 87) 0)::
oo 91 (.extract (.t 87) 1)::
oo 14 (.alloc [Value.slice none 0 0,k0] 51)::
oz (.store 2 (.t 14) (.t 90))::
om 15 91::[])) (.seq (.reg (
 oo 93 (.Az 5 (.t 6))::
om 94 12::
oc 95 14 [(.t 93),(.t 94)]::
om 92 95::
oo 96 (.extract (.t 92) 0)::
oo 97 (.extract (.t 92) 1)::
om 16 96::
om 17 97::[])) (.seq (.reg (
 om 99 5::
oo 100 (.Az 2 (.t 14))::
oc 101 15 [(.t 99),z0,z0,(.t 100)]::
om 98 101::
oo 102 (.extract (.t 98) 0)::
oo 103 (.extract (.t 98) 1)::
oo 18 (.alloc [k0,k0] 57)::
oz (.store 2 (.t 18) (.t 102))::
om 19 103::[])) (.seq (.reg (
 om 104 9::
oo 105 (.int .eql (.t 104) (.c (Value.int .i64 20)))::
om 106 105::
og 107 106 true (.mv (.t 13))::
og 108 106 true (.int .eql (.t 107) z0)::
oo 109 (.pick (.t 106) (.t 108) (.c (Value.bool false)))::
om 110 109::
og 111 110 true (.mv (.t 15))::
og 112 110 true (.int .eql (.t 111) z0)::
oo 113 (.pick (.t 110) (.t 112) (.c (Value.bool false)))::
om 114 113::
og 115 114 true (.mv (.t 17))::
og 116 114 true (.int .eql (.t 115) z0)::
oo 117 (.pick (.t 114) (.t 116) (.c (Value.bool false)))::
om 118 117::
og 119 118 true (.mv (.t 19))::
og 120 118 true (.int .eql (.t 119) z0)::
oo 121 (.pick (.t 118) (.t 120) (.c (Value.bool false)))::
om 122 121::
og 123 122 true (.Ai 0 (.t 18))::
og 124 122 true (.Af (.t 123))::
og 125 122 true (.int .gtr (.t 124) z0)::
oo 126 (.pick (.t 122) (.t 125) (.c (Value.bool false)))::
om 127 126::
F6 128 127 true 7 []::
oo 129 (.pick (.t 127) (.t 128) (.c (Value.bool false)))::
om 4 129::[])) .ret))))) .skip)) (.seq (.seq (.BN (
 oo 130 (.Az 5 (.t 6))::
oo 131 (.Az 2 (.t 8))::
oc 132 16 [(.t 130),(.t 131)]::
oo 133 (.int .neq (.t 132) z0)::
om 134 133::
og 135 134 false (.mv (.t 5))::
og 136 134 false (.Az 3 (.t 10))::
F6 137 134 false 17 [(.t 135),(.t 136)]::
og 138 134 false (.int .neq (.t 137) z0)::
oo 139 (.pick (.t 134) (.c (Value.bool true)) (.t 138))::
om 140 139::
og 141 140 false (.mv (.t 5))::
og 142 140 false (.Ai 0 (.t 8))::
og 143 140 false (.Af (.t 142))::
og 144 140 false (.Bb 1 (.t 143) z0)::
og 145 140 false (.Af (.t 144))::
og 146 140 false (.Ai 1 (.t 8))::
og 147 140 false (.Af (.t 146))::
og 148 140 false (.Bb 1 (.t 147) z0)::
og 149 140 false (.Af (.t 148))::
og 150 140 false (.build [k0,k0,k0] [(0,1,(.t 145)),(1,1,(.t 149)),(2,1,z1)])::
F6 151 140 false 18 [(.t 141),(.t 150)]::
og 152 140 false (.int .neq (.t 151) z0)::
oo 153 (.pick (.t 140) (.c (Value.bool true)) (.t 152))::[]) []) (.cond (.t 153) (.seq (.reg (
 oo 4 (.mv (.c (Value.bool false)))::[])) .ret) .skip)) (.seq (.reg (
 oo 155 (.Az 5 (.t 6))::
oc 156 19 [(.t 155),z0]::
om 154 156::
oo 157 (.extract (.t 154) 0)::
oo 158 (.extract (.t 154) 1)::
oo 20 (.alloc [k0,k0] 23)::
oz (.store 2 (.t 20) (.t 157))::
om 9 158::[])) (.seq (.reg (
 om 160 5::
oc 161 20 [(.t 160),z0,z1]::
om 159 161::
oo 162 (.extract (.t 159) 0)::
oo 163 (.extract (.t 159) 1)::
oo 21 (.alloc [k0,k0] 57)::
oz (.store 2 (.t 21) (.t 162))::
om 22 163::[])) (.seq (.reg (
 om 165 5::
oc 166 20 [(.t 165),z0,(.c (Value.int .i64 (-1)))]::
om 164 166::
oo 167 (.extract (.t 164) 0)::
oo 168 (.extract (.t 164) 1)::
oo 23 (.alloc [k0,k0] 57)::
oz (.store 2 (.t 23) (.t 167))::
om 24 168::[])) (.seq (.seq (.reg (
 om 169 1::
oo 170 (.len (.t 169))::
oo 171 (.int .eql (.t 170) z0)::[])) (.cond (.t 171) (.seq (.reg (
 om 172 9::
oo 173 (.int .eql (.t 172) (.c (Value.int .i64 5)))::
om 174 173::
og 175 174 true (.mv (.t 22))::
og 176 174 true (.int .eql (.t 175) (.c (Value.int .i64 5)))::
oo 177 (.pick (.t 174) (.t 176) (.c (Value.bool false)))::
om 178 177::
og 179 178 true (.mv (.t 24))::
og 180 178 true (.int .eql (.t 179) (.c (Value.int .i64 5)))::
oo 181 (.pick (.t 178) (.t 180) (.c (Value.bool false)))::
om 182 181::
F6 183 182 true 7 []::
oo 184 (.pick (.t 182) (.t 183) (.c (Value.bool false)))::
om 4 184::[])) .ret) .skip)) (.seq (.reg (
 om 185 9::
oo 186 (.int .eql (.t 185) z0)::
om 187 186::
og 188 187 true (.mv (.t 22))::
og 189 187 true (.int .eql (.t 188) z0)::
oo 190 (.pick (.t 187) (.t 189) (.c (Value.bool false)))::
om 191 190::
og 192 191 true (.mv (.t 24))::
og 193 191 true (.int .eql (.t 192) z0)::
oo 194 (.pick (.t 191) (.t 193) (.c (Value.bool false)))::
om 195 194::
og 196 195 true (.Az 2 (.t 21))::
og 197 195 true (.Ai 0 (.t 20))::
og 198 195 true (.Af (.t 197))::
og 199 195 true (.build [k0,k0] [(0,1,(.t 198)),(1,1,z1)])::
og 200 195 true (.pure (Fa Tryz.f3 29 15))::
oo 201 (.pick (.t 195) (.t 200) (.c (Value.bool false)))::
om 202 201::
og 203 202 true (.Az 2 (.t 23))::
og 204 202 true (.Ai 1 (.t 20))::
og 205 202 true (.Af (.t 204))::
og 206 202 true (.neg (.t 205))::
og 207 202 true (.build [k0,k0] [(0,1,(.t 206)),(1,1,z1)])::
og 208 202 true (.pure (Fa Tryz.f3 29 23))::
oo 209 (.pick (.t 202) (.t 208) (.c (Value.bool false)))::
om 210 209::
F6 211 210 true 7 []::
oo 212 (.pick (.t 210) (.t 211) (.c (Value.bool false)))::
om 4 212::[])) .ret))))))))))))))))
def r3:List ResultVar:=[.tmp 4]
theorem Ano:Cf Tryz.prog 3 213 2 a3 r3:=
  ⟨rfl,Tryz.f3,_,rfl,rfl,rfl,by decide,rfl,rfl,rfl⟩
noncomputable def a4:Ay:=(.seq (.reg (
 oo 2 (.box (.t 0) 67)::
oo 4 (.mv (.c (Value.bool false)))::[])) (.seq (.seq (.reg (
 oo 15 (.Az 16 (.t 2))::
oc 16 21 [(.t 15)]::
oo 17 (.int .neq (.t 16) z0)::
om 18 17::
og 19 18 false (.mv (.t 1))::
og 20 18 false (.len (.t 19))::
og 21 18 false (.int .lss (.t 20) z1)::
oo 22 (.pick (.t 18) (.c (Value.bool true)) (.t 21))::
om 23 22::
og 24 23 false (.mv (.t 1))::
og 25 23 false (.len (.t 24))::
og 26 23 false (.int .gtr (.t 25) (.c (Value.int .i64 4)))::
oo 27 (.pick (.t 23) (.c (Value.bool true)) (.t 26))::[])) (.cond (.t 27) (.seq (.reg (
 oc 28 7 []::
om 4 28::[])) .ret) .skip)) (.seq (.reg (
 om 29 1::
oo 30 (.len (.t 29))::
oo 31 (.build [k0,k0,k0,k0,Value.slice none 0 0] [(0,1,(.t 30)),(1,1,z1)])::
oo 5 (.alloc [k0,k0,k0,k0,Value.slice none 0 0] 31)::
oz (.store 5 (.t 5) (.t 31))::[])) (.seq (.seq (.reg (
 oo 6 (.mv z0)::[])) (.block 0 (.loop (.seq (.seq (.reg (
 om 32 6::
om 33 1::
oo 34 (.len (.t 33))::
oo 35 (.int .lss (.t 32) (.t 34))::[])) (.cond (.t 35) .skip (.exit 0))) (.seq (.block 1 (.seq (.reg (
 om 38 1::
om 39 6::
oo 40 (.Bb 2 (.t 38) (.t 39))::
oo 41 (.Ai 0 (.t 40))::
oo 42 (.Af (.t 41))::
oo 43 (.len (.t 42))::
oo 44 (.int .gtr (.t 43) (.c (Value.int .i64 12)))::
om 45 44::
og 46 45 false (.mv (.t 1))::
og 47 45 false (.mv (.t 6))::
og 48 45 false (.Bb 2 (.t 46) (.t 47))::
og 49 45 false (.Ai 1 (.t 48))::
og 50 45 false (.Af (.t 49))::
og 51 45 false (.len (.t 50))::
og 52 45 false (.int .gtr (.t 51) (.c (Value.int .i64 12)))::
oo 53 (.pick (.t 45) (.c (Value.bool true)) (.t 52))::
om 54 53::
og 55 54 false (.mv (.t 1))::
og 56 54 false (.mv (.t 6))::
og 57 54 false (.Bb 2 (.t 55) (.t 56))::
og 58 54 false (.Az 2 (.t 57))::
F6 59 54 false 22 [(.t 58)]::
og 60 54 false (.int .neq (.t 59) z0)::
oo 61 (.pick (.t 54) (.c (Value.bool true)) (.t 60))::[])) (.cond (.t 61) (.seq (.reg (
 oc 62 7 []::
om 4 62::[])) .ret) .skip))) (.reg (
 om 36 6::
oo 37 (.int .add (.t 36) z1)::
om 6 37::[]))))))) (.seq (.reg (
 oo 64 (.Az 16 (.t 2))::
om 65 1::
oc 66 23 [(.t 64),(.t 65)]::
om 63 66::
oo 67 (.extract (.t 63) 0)::
oo 68 (.extract (.t 63) 1)::
oo 7 (.alloc [k0,k0] 23)::
oz (.store 2 (.t 7) (.t 67))::
om 8 68::[])) (.seq (.seq (.reg (
 om 69 8::
oo 70 (.int .neq (.t 69) z0)::[])) (.cond (.t 70) (.seq (.reg (
 om 71 8::
oo 72 (.int .eql (.t 71) (.c (Value.int .i64 19)))::
om 73 72::
F6 74 73 true 7 []::
oo 75 (.pick (.t 73) (.t 74) (.c (Value.bool false)))::
om 4 75::[])) .ret) .skip)) (.seq (.reg (
 oo 9 (.mv (.c (Value.int .i64 (-1000000))))::
oo 10 (.mv (.c (Value.int .i64 1000000)))::[])) (.seq (.seq (.reg (
 oo 11 (.mv z0)::[])) (.block 2 (.loop (.seq (.seq (.reg (
 om 76 11::
om 77 1::
oo 78 (.len (.t 77))::
oo 79 (.int .lss (.t 76) (.t 78))::[])) (.cond (.t 79) .skip (.exit 2))) (.seq (.block 3 (.seq (.BN (
 oo 83 (.Az 16 (.t 2))::
om 84 1::
om 85 11::
om 86 11::
oo 87 (.int .add (.t 86) z1)::
oo 88 (.HL 2 (.t 84) (some (.t 85)) (some (.t 87)) none)::
oc 89 23 [(.t 83),(.t 88)]::
om 82 89::
oo 90 (.extract (.t 82) 0)::
oo 91 (.extract (.t 82) 1)::
oo 12 (.alloc [k0,k0] 23)::
oz (.store 2 (.t 12) (.t 90))::
om 13 91::[]) []) (.seq (.seq (.reg (
 om 92 13::
oo 93 (.int .neq (.t 92) z0)::
om 94 93::
og 95 94 false (.Ai 0 (.t 12))::
og 96 94 false (.Af (.t 95))::
og 97 94 false (.Ai 1 (.t 12))::
og 98 94 false (.Af (.t 97))::
og 99 94 false (.int .gtr (.t 96) (.t 98))::
oo 100 (.pick (.t 94) (.c (Value.bool true)) (.t 99))::
om 101 100::
og 102 101 false (.Ai 0 (.t 12))::
og 103 101 false (.Af (.t 102))::
og 104 101 false (.Ai 0 (.t 7))::
og 105 101 false (.Af (.t 104))::
og 106 101 false (.int .lss (.t 103) (.t 105))::
oo 107 (.pick (.t 101) (.c (Value.bool true)) (.t 106))::
om 108 107::
og 109 108 false (.Ai 1 (.t 12))::
og 110 108 false (.Af (.t 109))::
og 111 108 false (.Ai 1 (.t 7))::
og 112 108 false (.Af (.t 111))::
og 113 108 false (.int .gtr (.t 110) (.t 112))::
oo 114 (.pick (.t 108) (.c (Value.bool true)) (.t 113))::[])) (.cond (.t 114) (.seq (.reg (
 oo 4 (.mv (.c (Value.bool false)))::[])) .ret) .skip)) (.seq (.seq (.reg (
 oo 115 (.Ai 0 (.t 12))::
oo 116 (.Af (.t 115))::
oo 117 (.int .lss (.t 116) (.c (Value.int .i64 (-1000000))))::
om 118 117::
og 119 118 false (.Ai 1 (.t 12))::
og 120 118 false (.Af (.t 119))::
og 121 118 false (.int .gtr (.t 120) (.c (Value.int .i64 1000000)))::
oo 122 (.pick (.t 118) (.c (Value.bool true)) (.t 121))::[])) (.cond (.t 122) (.seq (.reg (
 oc 123 7 []::
om 4 123::[])) .ret) .skip)) (.seq (.BN (
 om 124 9::
oo 125 (.Ai 0 (.t 12))::
oo 126 (.Af (.t 125))::
oo 127 (.Il true (.t 124) (.t 126))::
om 128 10::
oo 129 (.Ai 1 (.t 12))::
oo 130 (.Af (.t 129))::
oo 131 (.Il false (.t 128) (.t 130))::
om 9 127::
om 10 131::[]) []) (.reg (
 oo 132 (.Ai 4 (.t 5))::
oo 133 (.Af (.t 132))::
om 134 11::
oo 135 (.Az 2 (.t 12))::
oo 136 (.build [k0,k0,k0,k0] [(0,1,(.t 134)),(2,2,(.t 135))])::
oo 137 (.BF [k0,k0,k0,k0] [(0,4,(.t 136))] 1 33)::
oo 138 (.append 33 4 32 (.t 133) (.t 137))::
oo 139 (.Ai 4 (.t 5))::
oz (.store 1 (.t 139) (.t 138))::[]))))))) (.reg (
 om 80 11::
oo 81 (.int .add (.t 80) z1)::
om 11 81::[]))))))) (.seq (.reg (
 oo 141 (.Az 5 (.t 5))::
oc 142 19 [(.t 141),z0]::
om 140 142::
oo 143 (.extract (.t 140) 0)::
oo 144 (.extract (.t 140) 1)::
oo 14 (.alloc [k0,k0] 23)::
oz (.store 2 (.t 14) (.t 143))::
om 8 144::[])) (.seq (.seq (.reg (
 om 145 9::
om 146 10::
oo 147 (.int .gtr (.t 145) (.t 146))::[])) (.cond (.t 147) (.seq (.reg (
 om 148 8::
oo 149 (.int .eql (.t 148) (.c (Value.int .i64 20)))::
om 150 149::
F6 151 150 true 7 []::
oo 152 (.pick (.t 150) (.t 151) (.c (Value.bool false)))::
om 4 152::[])) .ret) .skip)) (.seq (.reg (
 om 153 8::
oo 154 (.int .eql (.t 153) z0)::
om 155 154::
og 156 155 true (.Az 2 (.t 14))::
og 157 155 true (.mv (.t 9))::
og 158 155 true (.mv (.t 10))::
og 159 155 true (.build [k0,k0] [(0,1,(.t 157)),(1,1,(.t 158))])::
og 160 155 true (.pure (Fa Tryz.f4 26 7))::
oo 161 (.pick (.t 155) (.t 160) (.c (Value.bool false)))::
om 162 161::
F6 163 162 true 7 []::
oo 164 (.pick (.t 162) (.t 163) (.c (Value.bool false)))::
om 4 164::[])) .ret)))))))))))
def r4:List ResultVar:=[.tmp 4]
theorem Ann:Cf Tryz.prog 4 165 2 a4 r4:=
  ⟨rfl,Tryz.f4,_,rfl,rfl,rfl,by decide,rfl,rfl,rfl⟩
noncomputable def a5:Ay:=(.seq (.reg (
 oo 3 (.box (.t 0) 31)::
oo 4 (.box (.t 1) 39)::
oo 6 (.mv (.c (Value.bool false)))::[])) (.seq (.seq (.reg (
 oo 15 (.Ai 4 (.t 3))::
oo 16 (.Af (.t 15))::
oo 17 (.len (.t 16))::
oo 18 (.int .gtr (.t 17) (.c (Value.int .i64 24)))::
om 19 18::
og 20 19 false (.Az 5 (.t 3))::
F6 21 19 false 9 [(.t 20)]::
og 22 19 false (.int .neq (.t 21) z0)::
oo 23 (.pick (.t 19) (.c (Value.bool true)) (.t 22))::
om 24 23::
og 25 24 false (.Ai 0 (.t 4))::
og 26 24 false (.Af (.t 25))::
og 27 24 false (.len (.t 26))::
og 28 24 false (.int .gtr (.t 27) (.c (Value.int .i64 10)))::
oo 29 (.pick (.t 24) (.c (Value.bool true)) (.t 28))::
om 30 29::
og 31 30 false (.Ai 1 (.t 4))::
og 32 30 false (.Af (.t 31))::
og 33 30 false (.len (.t 32))::
og 34 30 false (.int .gtr (.t 33) (.c (Value.int .i64 10)))::
oo 35 (.pick (.t 30) (.c (Value.bool true)) (.t 34))::[])) (.cond (.t 35) (.seq (.reg (
 oc 36 7 []::
om 6 36::[])) .ret) .skip)) (.seq (.reg (
 om 37 2::
oo 38 (.conv .i64 (.t 37))::
oo 39 (.EV false (.t 38) (.c (Value.int .i64 1000001)))::
oo 40 (.build [Value.slice none 0 0,k0] [(1,1,(.t 39))])::
oo 7 (.alloc [Value.slice none 0 0,k0] 77)::
oz (.store 2 (.t 7) (.t 40))::[])) (.seq (.seq (.reg (
 oo 8 (.mv z0)::[])) (.block 0 (.loop (.seq (.seq (.reg (
 om 41 8::
oo 42 (.Ai 1 (.t 3))::
oo 43 (.Af (.t 42))::
oo 44 (.int .lss (.t 41) (.t 43))::[])) (.cond (.t 44) .skip (.exit 0))) (.seq (.block 1 (.seq (.reg (
 oo 48 (.Az 5 (.t 3))::
om 49 8::
oc 50 19 [(.t 48),(.t 49)]::
om 47 50::
oo 51 (.extract (.t 47) 0)::
oo 52 (.extract (.t 47) 1)::
oo 9 (.alloc [k0,k0] 23)::
oz (.store 2 (.t 9) (.t 51))::
om 10 52::[])) (.seq (.seq (.reg (
 om 53 10::
oo 54 (.int .neq (.t 53) z0)::[])) (.cond (.t 54) (.seq (.reg (
 om 55 10::
oo 56 (.int .eql (.t 55) (.c (Value.int .i64 20)))::
om 57 56::
og 58 57 false (.mv (.t 10))::
og 59 57 false (.int .eql (.t 58) (.c (Value.int .i64 5)))::
oo 60 (.pick (.t 57) (.c (Value.bool true)) (.t 59))::
om 61 60::
F6 62 61 true 7 []::
oo 63 (.pick (.t 61) (.t 62) (.c (Value.bool false)))::
om 6 63::[])) .ret) .skip)) (.seq (.seq (.reg (
 oo 64 (.Ai 0 (.t 9))::
oo 65 (.Af (.t 64))::
oo 66 (.Ai 1 (.t 9))::
oo 67 (.Af (.t 66))::
oo 68 (.int .gtr (.t 65) (.t 67))::[])) (.cond (.t 68) (.seq (.reg (
 oo 6 (.mv (.c (Value.bool false)))::[])) .ret) .skip)) (.reg (
 oo 69 (.Ai 0 (.t 7))::
oo 70 (.Af (.t 69))::
oo 71 (.Az 2 (.t 9))::
oo 72 (.BF [k0,k0] [(0,2,(.t 71))] 1 23)::
oo 73 (.append 23 2 16 (.t 70) (.t 72))::
oo 74 (.Ai 0 (.t 7))::
oz (.store 1 (.t 74) (.t 73))::[])))))) (.reg (
 om 45 8::
oo 46 (.int .add (.t 45) z1)::
om 8 46::[]))))))) (.seq (.seq (.reg (
 oo 75 (.Az 2 (.t 7))::
oc 76 24 [(.t 75)]::
oo 77 (.int .neq (.t 76) z0)::[])) (.cond (.t 77) (.seq (.reg (
 oc 78 7 []::
om 6 78::[])) .ret) .skip)) (.seq (.reg (
 oo 80 (.Az 2 (.t 7))::
oc 81 25 [(.t 80)]::
om 79 81::
oo 82 (.extract (.t 79) 0)::
oo 83 (.extract (.t 79) 1)::
oo 84 (.extract (.t 79) 2)::
om 11 82::
om 12 83::
om 13 84::[])) (.seq (.seq (.reg (
 om 85 13::
oo 86 (.int .neq (.t 85) z0)::
om 87 86::
og 88 87 false (.mv (.t 11))::
og 89 87 false (.len (.t 88))::
og 90 87 false (.Ai 1 (.t 3))::
og 91 87 false (.Af (.t 90))::
og 92 87 false (.int .neq (.t 89) (.t 91))::
oo 93 (.pick (.t 87) (.c (Value.bool true)) (.t 92))::[])) (.cond (.t 93) (.seq (.reg (
 oo 6 (.mv (.c (Value.bool false)))::[])) .ret) .skip)) (.seq (.seq (.reg (
 oo 94 (.Az 5 (.t 3))::
oo 95 (.Az 2 (.t 4))::
oc 96 16 [(.t 94),(.t 95)]::
oo 97 (.int .neq (.t 96) z0)::[])) (.cond (.t 97) (.seq (.reg (
 oc 98 7 []::
om 6 98::[])) .ret) .skip)) (.seq (.reg (
 oo 100 (.Az 2 (.t 7))::
oo 101 (.Ai 1 (.t 4))::
oo 102 (.Af (.t 101))::
oc 103 26 [(.t 100),(.t 102)]::
om 99 103::
oo 104 (.extract (.t 99) 0)::
oo 105 (.extract (.t 99) 1)::
om 14 104::
om 13 105::[])) (.seq (.reg (
 om 106 13::
oo 107 (.int .eql (.t 106) z0)::
om 108 107::
og 109 108 true (.mv (.t 14))::
og 110 108 true (.mv (.t 12))::
og 111 108 true (.int .geq (.t 109) (.t 110))::
oo 112 (.pick (.t 108) (.t 111) (.c (Value.bool false)))::
om 113 112::
F6 114 113 true 7 []::
oo 115 (.pick (.t 113) (.t 114) (.c (Value.bool false)))::
om 6 115::[])) .ret))))))))))
def r5:List ResultVar:=[.tmp 6]
theorem Anm:Cf Tryz.prog 5 116 3 a5 r5:=
  ⟨rfl,Tryz.f5,_,rfl,rfl,rfl,by decide,rfl,rfl,rfl⟩
noncomputable def a6:Ay:=(.seq (.reg (
 oo 3 (.box (.t 0) 85)::
oo 6 (.mv (.c (Value.bool false)))::[])) (.seq (.seq (.reg (
 oo 24 (.Ai 2 (.t 3))::
oo 25 (.Af (.t 24))::
oo 26 (.len (.t 25))::
oo 27 (.int .gtr (.t 26) (.c (Value.int .i64 10)))::
om 28 27::
og 29 28 false (.Az 3 (.t 3))::
F6 30 28 false 27 [(.t 29)]::
og 31 28 false (.int .neq (.t 30) z0)::
oo 32 (.pick (.t 28) (.c (Value.bool true)) (.t 31))::
om 33 32::
og 34 33 false (.mv (.t 1))::
og 35 33 false (.len (.t 34))::
og 36 33 false (.int .gtr (.t 35) (.c (Value.int .i64 80)))::
oo 37 (.pick (.t 33) (.c (Value.bool true)) (.t 36))::
om 38 37::
og 39 38 false (.mv (.t 2))::
og 40 38 false (.len (.t 39))::
og 41 38 false (.int .lss (.t 40) z1)::
oo 42 (.pick (.t 38) (.c (Value.bool true)) (.t 41))::
om 43 42::
og 44 43 false (.mv (.t 2))::
og 45 43 false (.len (.t 44))::
og 46 43 false (.int .gtr (.t 45) (.c (Value.int .i64 6)))::
oo 47 (.pick (.t 43) (.c (Value.bool true)) (.t 46))::[])) (.cond (.t 47) (.seq (.reg (
 oc 48 7 []::
om 6 48::[])) .ret) .skip)) (.seq (.reg (
 oo 49 (.Az 3 (.t 3))::
om 50 1::
oc 51 28 [(.t 49),(.t 50)]::
om 7 51::[])) (.seq (.reg (
 oo 53 (.Az 3 (.t 3))::
om 54 7::
oc 55 29 [(.t 53),(.t 54)]::
om 52 55::
oo 56 (.extract (.t 52) 0)::
oo 57 (.extract (.t 52) 1)::
oo 8 (.alloc [k0,k0] 57)::
oz (.store 2 (.t 8) (.t 56))::
om 9 57::[])) (.seq (.seq (.reg (
 om 58 9::
oo 59 (.int .neq (.t 58) z0)::
om 60 59::
og 61 60 false (.Ai 1 (.t 8))::
og 62 60 false (.Af (.t 61))::
og 63 60 false (.int .lss (.t 62) z1)::
oo 64 (.pick (.t 60) (.c (Value.bool true)) (.t 63))::
om 65 64::
og 66 65 false (.Ai 1 (.t 8))::
og 67 65 false (.Af (.t 66))::
og 68 65 false (.int .gtr (.t 67) (.c (Value.int .i64 2)))::
oo 69 (.pick (.t 65) (.c (Value.bool true)) (.t 68))::
om 70 69::
og 71 70 false (.Ai 0 (.t 8))::
og 72 70 false (.Af (.t 71))::
og 73 70 false (.int .lss (.t 72) z0)::
oo 74 (.pick (.t 70) (.c (Value.bool true)) (.t 73))::[])) (.cond (.t 74) (.seq (.reg (
 oo 6 (.mv (.c (Value.bool false)))::[])) .ret) .skip)) (.seq (.reg (
 om 75 2::
oo 76 (.len (.t 75))::
oo 77 (.build [k0,k0,k0,k0,Value.slice none 0 0] [(0,1,(.t 76)),(1,1,z1)])::
oo 10 (.alloc [k0,k0,k0,k0,Value.slice none 0 0] 31)::
oz (.store 5 (.t 10) (.t 77))::[])) (.seq (.seq (.reg (
 oo 11 (.mv z0)::[])) (.block 0 (.loop (.seq (.seq (.reg (
 om 78 11::
om 79 2::
oo 80 (.len (.t 79))::
oo 81 (.int .lss (.t 78) (.t 80))::[])) (.cond (.t 81) .skip (.exit 0))) (.seq (.block 1 (.seq (.reg (
 oo 84 (.Ai 0 (.t 3))::
oo 85 (.Af (.t 84))::
oo 86 (.Ai 1 (.t 3))::
oo 87 (.Af (.t 86))::
oo 88 (.build [k0,k0,Value.slice none 0 0] [(0,1,(.t 85)),(1,1,(.t 87))])::
oo 12 (.alloc [k0,k0,Value.slice none 0 0] 85)::
oz (.store 3 (.t 12) (.t 88))::[])) (.seq (.reg (
 oo 13 (.mv z0)::[])) (.seq (.seq (.reg (
 oo 14 (.mv z0)::[])) (.block 2 (.loop (.seq (.seq (.reg (
 om 89 14::
om 90 7::
oo 91 (.len (.t 90))::
oo 92 (.int .lss (.t 89) (.t 91))::[])) (.cond (.t 92) .skip (.exit 2))) (.seq (.block 3 (.seq (.reg (
 oo 15 (.mv (.c (Value.slice none 0 0)))::[])) (.seq (.seq (.reg (
 oo 16 (.mv z0)::[])) (.block 4 (.loop (.seq (.seq (.reg (
 om 95 16::
om 96 7::
om 97 14::
oo 98 (.Bb 1 (.t 96) (.t 97))::
oo 99 (.Af (.t 98))::
oo 100 (.len (.t 99))::
oo 101 (.int .lss (.t 95) (.t 100))::[])) (.cond (.t 101) .skip (.exit 4))) (.seq (.block 5 (.seq (.reg (
 oo 17 (.mv z0)::[])) (.seq (.seq (.reg (
 om 104 2::
om 105 11::
oo 106 (.Bb 1 (.t 104) (.t 105))::
oo 107 (.Af (.t 106))::
oo 108 (.len (.t 107))::
oo 109 (.int .gtr (.t 108) z0)::[])) (.cond (.t 109) (.BN (
 om 110 2::
om 111 11::
oo 112 (.Bb 1 (.t 110) (.t 111))::
oo 113 (.Af (.t 112))::
om 114 13::
om 115 2::
om 116 11::
oo 117 (.Bb 1 (.t 115) (.t 116))::
oo 118 (.Af (.t 117))::
oo 119 (.len (.t 118))::
oo 120 (.EV false (.t 114) (.t 119))::
oo 121 (.Bb 1 (.t 113) (.t 120))::
oo 122 (.Af (.t 121))::
oo 123 (.conv .i64 (.t 122))::
oo 124 (.EV false (.t 123) (.c (Value.int .i64 10)))::
om 17 124::[]) []) .skip)) (.seq (.BN (
 om 125 15::
om 126 7::
om 127 14::
oo 128 (.Bb 1 (.t 126) (.t 127))::
oo 129 (.Af (.t 128))::
om 130 16::
oo 131 (.Bb 1 (.t 129) (.t 130))::
oo 132 (.Af (.t 131))::
om 133 17::
oo 134 (.int .sub (.t 132) (.t 133))::
oo 135 (.Il true z0 (.t 134))::
om 136 7::
om 137 14::
oo 138 (.Bb 1 (.t 136) (.t 137))::
oo 139 (.Af (.t 138))::
om 140 16::
oo 141 (.Bb 1 (.t 139) (.t 140))::
oo 142 (.Af (.t 141))::
om 143 17::
oo 144 (.int .add (.t 142) (.t 143))::
oo 145 (.Il false (.c (Value.int .i64 500)) (.t 144))::
oo 146 (.build [k0,k0] [(0,1,(.t 135)),(1,1,(.t 145))])::
oo 147 (.BF [k0,k0] [(0,2,(.t 146))] 1 23)::
oo 148 (.append 23 2 16 (.t 125) (.t 147))::
om 15 148::[]) []) (.reg (
 om 149 13::
oo 150 (.int .add (.t 149) z1)::
om 13 150::[])))))) (.reg (
 om 102 16::
oo 103 (.int .add (.t 102) z1)::
om 16 103::[]))))))) (.reg (
 oo 151 (.Ai 2 (.t 12))::
oo 152 (.Af (.t 151))::
om 153 15::
oo 154 (.BF [Value.slice none 0 0] [(0,1,(.t 153))] 1 24)::
oo 155 (.append 24 1 24 (.t 152) (.t 154))::
oo 156 (.Ai 2 (.t 12))::
oz (.store 1 (.t 156) (.t 155))::[]))))) (.reg (
 om 93 14::
oo 94 (.int .add (.t 93) z1)::
om 14 94::[]))))))) (.seq (.seq (.reg (
 oo 157 (.Az 3 (.t 12))::
oc 158 27 [(.t 157)]::
oo 159 (.int .neq (.t 158) z0)::[])) (.cond (.t 159) (.seq (.reg (
 oc 160 7 []::
om 6 160::[])) .ret) .skip)) (.seq (.reg (
 oo 162 (.Az 3 (.t 12))::
oc 163 30 [(.t 162)]::
om 161 163::
oo 164 (.extract (.t 161) 0)::
oo 165 (.extract (.t 161) 1)::
oo 18 (.alloc [k0,k0,k0,k0] 93)::
oz (.store 4 (.t 18) (.t 164))::
om 19 165::[])) (.seq (.seq (.reg (
 om 166 19::
oo 167 (.int .neq (.t 166) z0)::
om 168 167::
og 169 168 false (.Ai 0 (.t 18))::
og 170 168 false (.Ai 1 (.t 169))::
og 171 168 false (.Af (.t 170))::
og 172 168 false (.int .lss (.t 171) z1)::
oo 173 (.pick (.t 168) (.c (Value.bool true)) (.t 172))::
om 174 173::
og 175 174 false (.Ai 0 (.t 18))::
og 176 174 false (.Ai 1 (.t 175))::
og 177 174 false (.Af (.t 176))::
og 178 174 false (.int .gtr (.t 177) (.c (Value.int .i64 2)))::
oo 179 (.pick (.t 174) (.c (Value.bool true)) (.t 178))::
om 180 179::
og 181 180 false (.Ai 2 (.t 18))::
og 182 180 false (.Ai 1 (.t 181))::
og 183 180 false (.Af (.t 182))::
og 184 180 false (.int .lss (.t 183) z1)::
oo 185 (.pick (.t 180) (.c (Value.bool true)) (.t 184))::
om 186 185::
og 187 186 false (.Ai 2 (.t 18))::
og 188 186 false (.Ai 1 (.t 187))::
og 189 186 false (.Af (.t 188))::
og 190 186 false (.int .gtr (.t 189) (.c (Value.int .i64 2)))::
oo 191 (.pick (.t 186) (.c (Value.bool true)) (.t 190))::[])) (.cond (.t 191) (.seq (.reg (
 oo 6 (.mv (.c (Value.bool false)))::[])) .ret) .skip)) (.BN (
 oo 192 (.Ai 4 (.t 10))::
oo 193 (.Af (.t 192))::
om 194 11::
oo 195 (.Ai 0 (.t 18))::
oo 196 (.Ai 0 (.t 195))::
oo 197 (.Af (.t 196))::
oo 198 (.Ai 0 (.t 18))::
oo 199 (.Ai 1 (.t 198))::
oo 200 (.Af (.t 199))::
oo 201 (.EV true (.c (Value.int .i64 2)) (.t 200))::
oo 202 (.int .mul (.t 197) (.t 201))::
oo 203 (.Ai 2 (.t 18))::
oo 204 (.Ai 0 (.t 203))::
oo 205 (.Af (.t 204))::
oo 206 (.Ai 2 (.t 18))::
oo 207 (.Ai 1 (.t 206))::
oo 208 (.Af (.t 207))::
oo 209 (.EV true (.c (Value.int .i64 2)) (.t 208))::
oo 210 (.int .mul (.t 205) (.t 209))::
oo 211 (.build [k0,k0] [(0,1,(.t 202)),(1,1,(.t 210))])::
oo 212 (.build [k0,k0,k0,k0] [(0,1,(.t 194)),(2,2,(.t 211))])::
oo 213 (.BF [k0,k0,k0,k0] [(0,4,(.t 212))] 1 33)::
oo 214 (.append 33 4 32 (.t 193) (.t 213))::
oo 215 (.Ai 4 (.t 10))::
oz (.store 1 (.t 215) (.t 214))::[]) [])))))))) (.reg (
 om 82 11::
oo 83 (.int .add (.t 82) z1)::
om 11 83::[]))))))) (.seq (.seq (.reg (
 oo 216 (.Az 5 (.t 10))::
oc 217 9 [(.t 216)]::
oo 218 (.int .neq (.t 217) z0)::[])) (.cond (.t 218) (.seq (.reg (
 oc 219 7 []::
om 6 219::[])) .ret) .skip)) (.seq (.BN (
 oo 220 (.Ai 0 (.t 8))::
oo 221 (.Af (.t 220))::
oo 222 (.Ai 1 (.t 8))::
oo 223 (.Af (.t 222))::
oo 224 (.EV true (.c (Value.int .i64 2)) (.t 223))::
oo 225 (.int .mul (.t 221) (.t 224))::
om 20 225::[]) []) (.seq (.reg (
 om 226 2::
oo 227 (.len (.t 226))::
oo 228 (.FP [k0] 8 2 (.t 227) (.t 227))::
om 229 20::
oo 230 (.BF [k0] [(0,1,(.t 229))] 1 2)::
oo 231 (.build [Value.slice none 0 0,Value.slice none 0 0] [(0,1,(.t 228)),(1,1,(.t 230))])::
oo 21 (.alloc [Value.slice none 0 0,Value.slice none 0 0] 39)::
oz (.store 2 (.t 21) (.t 231))::[])) (.seq (.reg (
 oo 233 (.Az 5 (.t 10))::
oc 234 19 [(.t 233),z0]::
om 232 234::
oo 235 (.extract (.t 232) 0)::
oo 236 (.extract (.t 232) 1)::
oo 22 (.alloc [k0,k0] 23)::
oz (.store 2 (.t 22) (.t 235))::
om 9 236::[])) (.seq (.seq (.reg (
 oo 237 (.Az 5 (.t 10))::
oo 238 (.Az 2 (.t 21))::
oc 239 31 [(.t 237),(.t 238)]::
oo 240 (.int .neq (.t 239) z0)::
om 241 240::
og 242 241 false (.mv (.t 9))::
og 243 241 false (.int .neq (.t 242) z0)::
oo 244 (.pick (.t 241) (.c (Value.bool true)) (.t 243))::
om 245 244::
og 246 245 false (.mv (.t 20))::
og 247 245 false (.Ai 0 (.t 22))::
og 248 245 false (.Af (.t 247))::
og 249 245 false (.int .lss (.t 246) (.t 248))::
oo 250 (.pick (.t 245) (.c (Value.bool true)) (.t 249))::
om 251 250::
og 252 251 false (.mv (.t 20))::
og 253 251 false (.Ai 1 (.t 22))::
og 254 251 false (.Af (.t 253))::
og 255 251 false (.int .gtr (.t 252) (.t 254))::
oo 256 (.pick (.t 251) (.c (Value.bool true)) (.t 255))::[])) (.cond (.t 256) (.seq (.reg (
 oo 6 (.mv (.c (Value.bool false)))::[])) .ret) .skip)) (.seq (.reg (
 oo 257 (.Az 5 (.t 10))::
oo 23 (.alloc [k0,k0,k0,k0,Value.slice none 0 0] 31)::
oz (.store 5 (.t 23) (.t 257))::[])) (.seq (.BN (
 oo 258 (.BF [] [] 0 33)::
oo 259 (.Ai 4 (.t 10))::
oo 260 (.Af (.t 259))::
oo 261 (.append 33 4 32 (.t 258) (.t 260))::
oo 262 (.Ai 1 (.t 22))::
oo 263 (.Af (.t 262))::
oo 264 (.int .add (.t 263) z1)::
oo 265 (.Ai 1 (.t 22))::
oo 266 (.Af (.t 265))::
oo 267 (.int .add (.t 266) z1)::
oo 268 (.build [k0,k0] [(0,1,(.t 264)),(1,1,(.t 267))])::
oo 269 (.build [k0,k0,k0,k0] [(2,2,(.t 268))])::
oo 270 (.BF [k0,k0,k0,k0] [(0,4,(.t 269))] 1 33)::
oo 271 (.append 33 4 32 (.t 261) (.t 270))::
oo 272 (.Ai 4 (.t 23))::
oz (.store 1 (.t 272) (.t 271))::[]) [((.t 258),(.t 262)),((.t 258),(.t 265))]) (.seq (.seq (.reg (
 oo 273 (.Az 5 (.t 23))::
oc 274 9 [(.t 273)]::
oo 275 (.int .neq (.t 274) z0)::[])) (.cond (.t 275) (.seq (.reg (
 oc 276 7 []::
om 6 276::[])) .ret) .skip)) (.seq (.reg (
 oo 278 (.Az 5 (.t 23))::
oc 279 10 [(.t 278)]::
om 277 279::
oo 280 (.extract (.t 277) 0)::
oo 281 (.extract (.t 277) 1)::
om 9 281::[])) (.seq (.reg (
 om 282 9::
oo 283 (.int .eql (.t 282) (.c (Value.int .i64 20)))::
om 284 283::
F6 285 284 true 7 []::
oo 286 (.pick (.t 284) (.t 285) (.c (Value.bool false)))::
om 6 286::[])) .ret)))))))))))))))))
def r6:List ResultVar:=[.tmp 6]
theorem Anl:Cf Tryz.prog 6 287 3 a6 r6:=
  ⟨rfl,Tryz.f6,_,rfl,rfl,rfl,by decide,rfl,rfl,rfl⟩
noncomputable def a7:Ay:=(.seq (.reg (
 oo 0 (.mv (.c (Value.bool false)))::[])) (.seq (.reg (
 oc 1 32 []::
om 2 1::
F6 3 2 true 33 []::
oo 4 (.pick (.t 2) (.t 3) (.c (Value.bool false)))::
om 5 4::
F6 6 5 true 34 []::
oo 7 (.pick (.t 5) (.t 6) (.c (Value.bool false)))::
om 0 7::[])) .ret))
def r7:List ResultVar:=[.tmp 0]
theorem Ank:Cf Tryz.prog 7 8 0 a7 r7:=
  ⟨rfl,Tryz.f7,_,rfl,rfl,rfl,by decide,rfl,rfl,rfl⟩
noncomputable def a8:Ay:=(.seq (.reg (
 oo 2 (.mv z0)::[])) (.seq (.seq (.reg (
 om 4 0::
oo 5 (.len (.t 4))::
oo 6 (.int .gtr (.t 5) (.c (Value.int .i64 12)))::[])) (.cond (.t 6) (.seq (.reg (
 oo 2 (.mv (.c (Value.int .i64 6)))::[])) .ret) .skip)) (.seq (.seq (.reg (
 oo 3 (.mv z0)::[])) (.block 0 (.loop (.seq (.seq (.reg (
 om 7 3::
om 8 0::
oo 9 (.len (.t 8))::
oo 10 (.int .lss (.t 7) (.t 9))::[])) (.cond (.t 10) .skip (.exit 0))) (.seq (.block 1 (.seq (.reg (
 om 13 0::
om 14 3::
oo 15 (.Bb 4 (.t 13) (.t 14))::
oo 16 (.Ai 0 (.t 15))::
oo 17 (.Af (.t 16))::
oc 18 35 [(.t 17)]::
oo 19 (.not (.t 18))::
om 20 19::
og 21 20 false (.mv (.t 0))::
og 22 20 false (.mv (.t 3))::
og 23 20 false (.Bb 4 (.t 21) (.t 22))::
og 24 20 false (.Ai 1 (.t 23))::
og 25 20 false (.Af (.t 24))::
F6 26 20 false 35 [(.t 25)]::
og 27 20 false (.not (.t 26))::
oo 28 (.pick (.t 20) (.c (Value.bool true)) (.t 27))::
om 29 28::
og 30 29 false (.mv (.t 0))::
og 31 29 false (.mv (.t 3))::
og 32 29 false (.Bb 4 (.t 30) (.t 31))::
og 33 29 false (.Ai 0 (.t 32))::
og 34 29 false (.Af (.t 33))::
og 35 29 false (.int .eql (.t 34) z0)::
og 36 29 false (.mv (.t 35))::
og 37 36 true (.mv (.t 0))::
og 38 36 true (.mv (.t 3))::
og 39 36 true (.Bb 4 (.t 37) (.t 38))::
og 40 36 true (.Ai 1 (.t 39))::
og 41 36 true (.Af (.t 40))::
og 42 36 true (.int .eql (.t 41) z0)::
og 43 29 false (.pick (.t 36) (.t 42) (.c (Value.bool false)))::
oo 44 (.pick (.t 29) (.c (Value.bool true)) (.t 43))::
om 45 44::
og 46 45 false (.mv (.t 0))::
og 47 45 false (.mv (.t 3))::
og 48 45 false (.Bb 4 (.t 46) (.t 47))::
og 49 45 false (.Ai 2 (.t 48))::
og 50 45 false (.Az 2 (.t 49))::
F6 51 45 false 36 [(.t 50)]::
og 52 45 false (.not (.t 51))::
oo 53 (.pick (.t 45) (.c (Value.bool true)) (.t 52))::[])) (.cond (.t 53) (.seq (.reg (
 oo 2 (.mv (.c (Value.int .i64 2)))::[])) .ret) .skip))) (.reg (
 om 11 3::
oo 12 (.int .add (.t 11) z1)::
om 3 12::[]))))))) (.seq (.reg (
 oo 2 (.mv z0)::[])) .ret))))
def r8:List ResultVar:=[.tmp 2]
theorem Anj:Cf Tryz.prog 8 54 1 a8 r8:=
  ⟨rfl,Tryz.f8,_,rfl,rfl,rfl,by decide,rfl,rfl,rfl⟩
noncomputable def a9:Ay:=(.seq (.reg (
 oo 1 (.box (.t 0) 31)::
oo 2 (.mv z0)::[])) (.seq (.seq (.reg (
 oo 6 (.Ai 4 (.t 1))::
oo 7 (.Af (.t 6))::
oo 8 (.len (.t 7))::
oo 9 (.int .gtr (.t 8) (.c (Value.int .i64 24)))::[])) (.cond (.t 9) (.seq (.reg (
 oo 2 (.mv (.c (Value.int .i64 6)))::[])) .ret) .skip)) (.seq (.seq (.reg (
 oo 10 (.Ai 0 (.t 1))::
oo 11 (.Af (.t 10))::
oo 12 (.int .lss (.t 11) z1)::
om 13 12::
og 14 13 false (.Ai 0 (.t 1))::
og 15 13 false (.Af (.t 14))::
og 16 13 false (.int .gtr (.t 15) (.c (Value.int .i64 6)))::
oo 17 (.pick (.t 13) (.c (Value.bool true)) (.t 16))::
om 18 17::
og 19 18 false (.Ai 1 (.t 1))::
og 20 18 false (.Af (.t 19))::
og 21 18 false (.int .lss (.t 20) z1)::
oo 22 (.pick (.t 18) (.c (Value.bool true)) (.t 21))::
om 23 22::
og 24 23 false (.Ai 1 (.t 1))::
og 25 23 false (.Af (.t 24))::
og 26 23 false (.int .gtr (.t 25) (.c (Value.int .i64 6)))::
oo 27 (.pick (.t 23) (.c (Value.bool true)) (.t 26))::
om 28 27::
og 29 28 false (.Ai 2 (.t 1))::
og 30 28 false (.Az 2 (.t 29))::
F6 31 28 false 37 [(.t 30)]::
og 32 28 false (.not (.t 31))::
oo 33 (.pick (.t 28) (.c (Value.bool true)) (.t 32))::[])) (.cond (.t 33) (.seq (.reg (
 oo 2 (.mv (.c (Value.int .i64 2)))::[])) .ret) .skip)) (.seq (.seq (.reg (
 oo 3 (.mv z0)::[])) (.block 0 (.loop (.seq (.seq (.reg (
 om 34 3::
oo 35 (.Ai 4 (.t 1))::
oo 36 (.Af (.t 35))::
oo 37 (.len (.t 36))::
oo 38 (.int .lss (.t 34) (.t 37))::[])) (.cond (.t 38) .skip (.exit 0))) (.seq (.block 1 (.seq (.reg (
 oo 41 (.Ai 4 (.t 1))::
oo 42 (.Af (.t 41))::
om 43 3::
oo 44 (.Bb 4 (.t 42) (.t 43))::
oo 45 (.Az 4 (.t 44))::
oo 4 (.alloc [k0,k0,k0,k0] 33)::
oz (.store 4 (.t 4) (.t 45))::[])) (.seq (.reg (
 oo 46 (.Ai 0 (.t 4))::
oo 47 (.Af (.t 46))::
oo 48 (.int .lss (.t 47) z0)::
om 49 48::
og 50 49 false (.Ai 0 (.t 4))::
og 51 49 false (.Af (.t 50))::
og 52 49 false (.Ai 0 (.t 1))::
og 53 49 false (.Af (.t 52))::
og 54 49 false (.int .geq (.t 51) (.t 53))::
oo 55 (.pick (.t 49) (.c (Value.bool true)) (.t 54))::
om 56 55::
og 57 56 false (.Ai 1 (.t 4))::
og 58 56 false (.Af (.t 57))::
og 59 56 false (.int .lss (.t 58) z0)::
oo 60 (.pick (.t 56) (.c (Value.bool true)) (.t 59))::
om 61 60::
og 62 61 false (.Ai 1 (.t 4))::
og 63 61 false (.Af (.t 62))::
og 64 61 false (.Ai 1 (.t 1))::
og 65 61 false (.Af (.t 64))::
og 66 61 false (.int .geq (.t 63) (.t 65))::
oo 67 (.pick (.t 61) (.c (Value.bool true)) (.t 66))::[])) (.cond (.t 67) (.seq (.reg (
 oo 2 (.mv (.c (Value.int .i64 3)))::[])) .ret) .skip)))) (.reg (
 om 39 3::
oo 40 (.int .add (.t 39) z1)::
om 3 40::[]))))))) (.seq (.seq (.reg (
 oo 5 (.mv z0)::[])) (.block 2 (.loop (.seq (.seq (.reg (
 om 68 5::
oo 69 (.Ai 4 (.t 1))::
oo 70 (.Af (.t 69))::
oo 71 (.len (.t 70))::
oo 72 (.int .lss (.t 68) (.t 71))::[])) (.cond (.t 72) .skip (.exit 2))) (.seq (.block 3 (.seq (.reg (
 oo 75 (.Ai 4 (.t 1))::
oo 76 (.Af (.t 75))::
om 77 5::
oo 78 (.Bb 4 (.t 76) (.t 77))::
oo 79 (.Ai 2 (.t 78))::
oo 80 (.Az 2 (.t 79))::
oc 81 37 [(.t 80)]::
oo 82 (.not (.t 81))::[])) (.cond (.t 82) (.seq (.reg (
 oo 2 (.mv (.c (Value.int .i64 2)))::[])) .ret) .skip))) (.reg (
 om 73 5::
oo 74 (.int .add (.t 73) z1)::
om 5 74::[]))))))) (.seq (.reg (
 oo 2 (.mv z0)::[])) .ret))))))
def r9:List ResultVar:=[.tmp 2]
theorem Ani:Cf Tryz.prog 9 83 1 a9 r9:=
  ⟨rfl,Tryz.f9,_,rfl,rfl,rfl,by decide,rfl,rfl,rfl⟩
noncomputable def a10:Ay:=(.seq (.reg (
 oo 1 (.box (.t 0) 31)::
oo 2 (.alloc [Value.slice none 0 0,Value.slice none 0 0] 39)::
oo 3 (.mv z0)::[])) (.seq (.seq (.reg (
 oo 7 (.Az 5 (.t 1))::
oc 8 38 [(.t 7)]::
om 4 8::[])) (.seq (.reg (
 om 9 4::
oo 10 (.int .neq (.t 9) z0)::[])) (.cond (.t 10) (.seq (.reg (
 oo 11 (.build [Value.slice none 0 0,Value.slice none 0 0] [])::
om 12 4::
oz (.store 2 (.t 2) (.t 11))::
om 3 12::[])) .ret) .skip))) (.seq (.reg (
 oo 14 (.Az 5 (.t 1))::
oc 15 39 [(.t 14)]::
oc 16 40 [(.t 15)]::
om 13 16::
oo 17 (.extract (.t 13) 0)::
oo 18 (.extract (.t 13) 1)::
om 5 17::
om 6 18::[])) (.seq (.seq (.reg (
 om 19 6::
oo 20 (.not (.t 19))::[])) (.cond (.t 20) (.seq (.reg (
 oo 21 (.build [Value.slice none 0 0,Value.slice none 0 0] [])::
oz (.store 2 (.t 2) (.t 21))::
oo 3 (.mv (.c (Value.int .i64 20)))::[])) .ret) .skip)) (.seq (.reg (
 om 22 5::
oc 23 41 [(.t 22),z1]::
oz (.store 2 (.t 2) (.t 23))::
oo 3 (.mv z0)::[])) .ret)))))
def r10:List ResultVar:=[.cell 2 39,.tmp 3]
theorem Ags:Cf Tryz.prog 10 24 1 a10 r10:=
  ⟨rfl,Tryz.f10,_,rfl,rfl,rfl,by decide,rfl,rfl,rfl⟩
noncomputable def a11:Ay:=(.seq (.reg (
 oo 2 (.alloc [k0,k0,k0] 43)::
oo 3 (.mv z0)::[])) (.seq (.reg (
 om 4 0::
oc 5 42 [(.t 4),z0,z0]::
oo 6 (.extract (.t 5) 0)::
oo 7 (.extract (.t 5) 1)::
oz (.store 3 (.t 2) (.t 6))::
om 3 7::[])) .ret))
def r11:List ResultVar:=[.cell 2 43,.tmp 3]
theorem Agq:Cf Tryz.prog 11 8 1 a11 r11:=
  ⟨rfl,Tryz.f11,_,rfl,rfl,rfl,by decide,rfl,rfl,rfl⟩
noncomputable def a12:Ay:=(.seq (.reg (
 oo 1 (.box (.t 0) 31)::
oo 2 (.mv (.c (Value.slice none 0 0)))::
oo 3 (.mv z0)::[])) (.seq (.seq (.reg (
 oo 7 (.Az 5 (.t 1))::
oc 8 38 [(.t 7)]::
om 4 8::[])) (.seq (.reg (
 om 9 4::
oo 10 (.int .neq (.t 9) z0)::[])) (.cond (.t 10) (.seq (.reg (
 om 11 4::
oo 2 (.mv (.c (Value.slice none 0 0)))::
om 3 11::[])) .ret) .skip))) (.seq (.reg (
 oo 13 (.Az 5 (.t 1))::
oc 14 39 [(.t 13)]::
oc 15 40 [(.t 14)]::
om 12 15::
oo 16 (.extract (.t 12) 0)::
oo 17 (.extract (.t 12) 1)::
om 5 16::
om 6 17::[])) (.seq (.seq (.reg (
 om 18 6::[])) (.cond (.t 18) (.seq (.reg (
 oo 2 (.mv (.c (Value.slice none 0 0)))::
oo 3 (.mv (.c (Value.int .i64 5)))::[])) .ret) .skip)) (.seq (.reg (
 om 19 5::
oc 20 43 [(.t 19)]::
om 2 20::
oo 3 (.mv z0)::[])) .ret)))))
def r12:List ResultVar:=[.tmp 2,.tmp 3]
theorem Agp:Cf Tryz.prog 12 21 1 a12 r12:=
  ⟨rfl,Tryz.f12,_,rfl,rfl,rfl,by decide,rfl,rfl,rfl⟩
noncomputable def a13:Ay:=(.seq (.reg (
 oo 2 (.alloc [Value.slice none 0 0,k0] 51)::
oo 3 (.mv z0)::[])) (.seq (.seq (.reg (
 om 7 0::
oc 8 44 [(.t 7)]::
om 4 8::[])) (.seq (.reg (
 om 9 4::
oo 10 (.int .neq (.t 9) z0)::[])) (.cond (.t 10) (.seq (.reg (
 oo 11 (.build [Value.slice none 0 0,k0] [])::
om 12 4::
oz (.store 2 (.t 2) (.t 11))::
om 3 12::[])) .ret) .skip))) (.seq (.seq (.reg (
 om 14 0::
oc 15 45 [(.t 14)]::
oc 16 46 [(.t 15)]::
om 13 16::
oo 17 (.extract (.t 13) 0)::
oo 18 (.extract (.t 13) 1)::
oo 5 (.alloc [Value.map none,k0,k0,k0,k0] 111)::
oz (.store 5 (.t 5) (.t 17))::
om 6 18::[])) (.seq (.reg (
 om 19 6::[])) (.cond (.t 19) (.seq (.reg (
 oo 20 (.Az 5 (.t 5))::
oc 21 47 [(.t 20)]::
oz (.store 2 (.t 2) (.t 21))::
oo 3 (.mv z0)::[])) .ret) .skip))) (.seq (.reg (
 oo 22 (.build [Value.slice none 0 0,k0] [])::
oz (.store 2 (.t 2) (.t 22))::
oo 3 (.mv (.c (Value.int .i64 5)))::[])) .ret))))
def r13:List ResultVar:=[.cell 2 51,.tmp 3]
theorem Ago:Cf Tryz.prog 13 23 1 a13 r13:=
  ⟨rfl,Tryz.f13,_,rfl,rfl,rfl,by decide,rfl,rfl,rfl⟩
noncomputable def a14:Ay:=(.seq (.reg (
 oo 2 (.box (.t 0) 31)::
oo 4 (.mv z0)::
oo 5 (.mv z0)::[])) (.seq (.seq (.reg (
 oo 11 (.Az 5 (.t 2))::
oc 12 9 [(.t 11)]::
oo 13 (.int .neq (.t 12) z0)::[])) (.cond (.t 13) (.seq (.reg (
 oo 14 (.Az 5 (.t 2))::
oc 15 9 [(.t 14)]::
oo 4 (.mv z0)::
om 5 15::[])) .ret) .skip)) (.seq (.seq (.reg (
 om 16 1::
oo 17 (.len (.t 16))::
oo 18 (.int .lss (.t 17) (.c (Value.int .i64 2)))::
om 19 18::
og 20 19 false (.mv (.t 1))::
og 21 19 false (.len (.t 20))::
og 22 19 false (.int .gtr (.t 21) (.c (Value.int .i64 4096)))::
oo 23 (.pick (.t 19) (.c (Value.bool true)) (.t 22))::[])) (.cond (.t 23) (.seq (.reg (
 oo 4 (.mv z0)::
oo 5 (.mv (.c (Value.int .i64 6)))::[])) .ret) .skip)) (.seq (.reg (
 oo 24 (.Az 5 (.t 2))::
oc 25 48 [(.t 24)]::
om 6 25::[])) (.seq (.seq (.reg (
 oo 7 (.mv z0)::[])) (.block 0 (.loop (.seq (.seq (.reg (
 om 26 7::
om 27 1::
oo 28 (.len (.t 27))::
oo 29 (.int .lss (.t 26) (.t 28))::[])) (.cond (.t 29) .skip (.exit 0))) (.seq (.block 1 (.seq (.reg (
 om 32 1::
om 33 7::
oo 34 (.Bb 1 (.t 32) (.t 33))::
oo 35 (.Af (.t 34))::
oo 36 (.int .lss (.t 35) z0)::
om 37 36::
og 38 37 false (.mv (.t 1))::
og 39 37 false (.mv (.t 7))::
og 40 37 false (.Bb 1 (.t 38) (.t 39))::
og 41 37 false (.Af (.t 40))::
og 42 37 false (.mv (.t 6))::
og 43 37 false (.len (.t 42))::
og 44 37 false (.int .geq (.t 41) (.t 43))::
oo 45 (.pick (.t 37) (.c (Value.bool true)) (.t 44))::[])) (.cond (.t 45) (.seq (.reg (
 oo 4 (.mv z0)::
oo 5 (.mv (.c (Value.int .i64 3)))::[])) .ret) .skip))) (.reg (
 om 30 7::
oo 31 (.int .add (.t 30) z1)::
om 7 31::[]))))))) (.seq (.reg (
 oo 8 (.mv z0)::[])) (.seq (.seq (.reg (
 oo 9 (.mv z1)::[])) (.block 2 (.loop (.seq (.seq (.reg (
 om 46 9::
om 47 1::
oo 48 (.len (.t 47))::
oo 49 (.int .lss (.t 46) (.t 48))::[])) (.cond (.t 49) .skip (.exit 2))) (.seq (.block 3 (.seq (.BN (
 om 52 6::
om 53 1::
om 54 9::
oo 55 (.int .sub (.t 54) z1)::
oo 56 (.Bb 1 (.t 53) (.t 55))::
oo 57 (.Af (.t 56))::
oo 58 (.Bb 1 (.t 52) (.t 57))::
oo 59 (.Af (.t 58))::
om 60 1::
om 61 9::
oo 62 (.Bb 1 (.t 60) (.t 61))::
oo 63 (.Af (.t 62))::
oo 64 (.Bb 1 (.t 59) (.t 63))::
oo 65 (.Af (.t 64))::
om 10 65::[]) []) (.seq (.seq (.reg (
 om 66 10::
oo 67 (.int .eql (.t 66) (.c (Value.int .i64 1125899906842624)))::[])) (.cond (.t 67) (.seq (.reg (
 oo 4 (.mv z0)::
oo 5 (.mv (.c (Value.int .i64 16)))::[])) .ret) .skip)) (.reg (
 om 68 8::
om 69 10::
oo 70 (.int .add (.t 68) (.t 69))::
om 8 70::[]))))) (.reg (
 om 50 9::
oo 51 (.int .add (.t 50) z1)::
om 9 51::[]))))))) (.seq (.seq (.BN (
 om 71 1::
oo 72 (.Bb 1 (.t 71) z0)::
oo 73 (.Af (.t 72))::
om 74 1::
om 75 1::
oo 76 (.len (.t 75))::
oo 77 (.int .sub (.t 76) z1)::
oo 78 (.Bb 1 (.t 74) (.t 77))::
oo 79 (.Af (.t 78))::
oo 80 (.int .neq (.t 73) (.t 79))::[]) []) (.cond (.t 80) (.seq (.reg (
 oo 4 (.mv z0)::
oo 5 (.mv (.c (Value.int .i64 16)))::[])) .ret) .skip)) (.seq (.seq (.reg (
 om 81 8::
oo 82 (.int .geq (.t 81) z0)::[])) (.cond (.t 82) (.seq (.reg (
 oo 4 (.mv z0)::
oo 5 (.mv (.c (Value.int .i64 14)))::[])) .ret) .skip)) (.seq (.reg (
 om 83 8::
om 4 83::
oo 5 (.mv z0)::[])) .ret))))))))))
def r14:List ResultVar:=[.tmp 4,.tmp 5]
theorem Agn:Cf Tryz.prog 14 84 2 a14 r14:=
  ⟨rfl,Tryz.f14,_,rfl,rfl,rfl,by decide,rfl,rfl,rfl⟩
noncomputable def a15:Ay:=(.seq (.reg (
 oo 7 (.box (.t 3) 51)::
oo 8 (.alloc [k0,k0] 57)::
oo 9 (.mv z0)::[])) (.seq (.seq (.reg (
 om 18 0::
om 19 1::
om 20 2::
oc 21 49 [(.t 18),(.t 19),(.t 20)]::
oo 22 (.int .neq (.t 21) z0)::[])) (.cond (.t 22) (.seq (.reg (
 oo 23 (.build [k0,k0] [])::
om 24 0::
om 25 1::
om 26 2::
oc 27 49 [(.t 24),(.t 25),(.t 26)]::
oz (.store 2 (.t 8) (.t 23))::
om 9 27::[])) .ret) .skip)) (.seq (.seq (.reg (
 oo 28 (.Ai 0 (.t 7))::
oo 29 (.Af (.t 28))::
oo 30 (.len (.t 29))::
oo 31 (.int .gtr (.t 30) (.c (Value.int .i64 24)))::[])) (.cond (.t 31) (.seq (.reg (
 oo 32 (.build [k0,k0] [])::
oz (.store 2 (.t 8) (.t 32))::
oo 9 (.mv (.c (Value.int .i64 6)))::[])) .ret) .skip)) (.seq (.seq (.reg (
 oo 10 (.mv z0)::[])) (.block 0 (.loop (.seq (.seq (.reg (
 om 33 10::
oo 34 (.Ai 0 (.t 7))::
oo 35 (.Af (.t 34))::
oo 36 (.len (.t 35))::
oo 37 (.int .lss (.t 33) (.t 36))::[])) (.cond (.t 37) .skip (.exit 0))) (.seq (.block 1 (.seq (.reg (
 oo 40 (.Ai 0 (.t 7))::
oo 41 (.Af (.t 40))::
om 42 10::
oo 43 (.Bb 3 (.t 41) (.t 42))::
oo 44 (.Az 3 (.t 43))::
oo 11 (.alloc [k0,Value.bool false,k0] 120)::
oz (.store 3 (.t 11) (.t 44))::[])) (.seq (.reg (
 oo 45 (.Ai 0 (.t 11))::
oo 46 (.Af (.t 45))::
oo 47 (.int .lss (.t 46) z0)::
om 48 47::
og 49 48 false (.Ai 0 (.t 11))::
og 50 48 false (.Af (.t 49))::
og 51 48 false (.mv (.t 0))::
og 52 48 false (.len (.t 51))::
og 53 48 false (.int .geq (.t 50) (.t 52))::
oo 54 (.pick (.t 48) (.c (Value.bool true)) (.t 53))::
om 55 54::
og 56 55 false (.Ai 2 (.t 11))::
og 57 55 false (.Af (.t 56))::
og 58 55 false (.int .lss (.t 57) z1)::
oo 59 (.pick (.t 55) (.c (Value.bool true)) (.t 58))::
om 60 59::
og 61 60 false (.Ai 2 (.t 11))::
og 62 60 false (.Af (.t 61))::
og 63 60 false (.int .gtr (.t 62) (.c (Value.int .i64 1000000)))::
oo 64 (.pick (.t 60) (.c (Value.bool true)) (.t 63))::[])) (.cond (.t 64) (.seq (.reg (
 oo 65 (.build [k0,k0] [])::
oz (.store 2 (.t 8) (.t 65))::
oo 9 (.mv (.c (Value.int .i64 3)))::[])) .ret) .skip)))) (.reg (
 om 38 10::
oo 39 (.int .add (.t 38) z1)::
om 10 39::[]))))))) (.seq (.seq (.reg (
 oo 66 (.Ai 1 (.t 7))::
oo 67 (.Af (.t 66))::
oo 68 (.int .lss (.t 67) z1)::
om 69 68::
og 70 69 false (.Ai 1 (.t 7))::
og 71 69 false (.Af (.t 70))::
og 72 69 false (.int .gtr (.t 71) (.c (Value.int .i64 1099511627776)))::
oo 73 (.pick (.t 69) (.c (Value.bool true)) (.t 72))::[])) (.cond (.t 73) (.seq (.reg (
 oo 74 (.build [k0,k0] [])::
oz (.store 2 (.t 8) (.t 74))::
oo 9 (.mv (.c (Value.int .i64 3)))::[])) .ret) .skip)) (.seq (.reg (
 oo 12 (.mv z0)::
oo 13 (.mv z0)::
oo 14 (.mv z0)::[])) (.seq (.seq (.reg (
 oo 15 (.mv z0)::[])) (.block 2 (.loop (.seq (.seq (.reg (
 om 75 15::
oo 76 (.Ai 0 (.t 7))::
oo 77 (.Af (.t 76))::
oo 78 (.len (.t 77))::
oo 79 (.int .lss (.t 75) (.t 78))::[])) (.cond (.t 79) .skip (.exit 2))) (.seq (.block 3 (.seq (.reg (
 oo 82 (.Ai 0 (.t 7))::
oo 83 (.Af (.t 82))::
om 84 15::
oo 85 (.Bb 3 (.t 83) (.t 84))::
oo 86 (.Az 3 (.t 85))::
oo 16 (.alloc [k0,Value.bool false,k0] 120)::
oz (.store 3 (.t 16) (.t 86))::[])) (.seq (.reg (
 om 87 0::
oo 88 (.Ai 0 (.t 16))::
oo 89 (.Af (.t 88))::
oo 90 (.Bb 4 (.t 87) (.t 89))::
oo 91 (.Az 4 (.t 90))::
oo 17 (.alloc [k0,k0,k0,k0] 27)::
oz (.store 4 (.t 17) (.t 91))::[])) (.seq (.reg (
 oo 92 (.Ai 1 (.t 16))::
oo 93 (.Af (.t 92))::[])) (.cond (.t 93) (.seq (.reg (
 om 94 12::
oo 95 (.Ai 0 (.t 17))::
oo 96 (.Af (.t 95))::
oo 97 (.Ai 2 (.t 16))::
oo 98 (.Af (.t 97))::
oo 99 (.int .mul (.t 96) (.t 98))::
oo 100 (.int .sub (.t 94) (.t 99))::
om 12 100::[])) (.seq (.reg (
 om 101 13::
oo 102 (.Ai 1 (.t 17))::
oo 103 (.Af (.t 102))::
oo 104 (.Ai 2 (.t 16))::
oo 105 (.Af (.t 104))::
oo 106 (.int .mul (.t 103) (.t 105))::
oo 107 (.int .sub (.t 101) (.t 106))::
om 13 107::[])) (.reg (
 om 108 14::
oo 109 (.Ai 2 (.t 17))::
oo 110 (.Ai 1 (.t 109))::
oo 111 (.Af (.t 110))::
oo 112 (.Ai 2 (.t 16))::
oo 113 (.Af (.t 112))::
oo 114 (.int .mul (.t 111) (.t 113))::
oo 115 (.int .sub (.t 108) (.t 114))::
om 14 115::[])))) (.seq (.reg (
 om 116 12::
oo 117 (.Ai 0 (.t 17))::
oo 118 (.Af (.t 117))::
oo 119 (.Ai 2 (.t 16))::
oo 120 (.Af (.t 119))::
oo 121 (.int .mul (.t 118) (.t 120))::
oo 122 (.int .add (.t 116) (.t 121))::
om 12 122::[])) (.seq (.reg (
 om 123 13::
oo 124 (.Ai 1 (.t 17))::
oo 125 (.Af (.t 124))::
oo 126 (.Ai 2 (.t 16))::
oo 127 (.Af (.t 126))::
oo 128 (.int .mul (.t 125) (.t 127))::
oo 129 (.int .add (.t 123) (.t 128))::
om 13 129::[])) (.reg (
 om 130 14::
oo 131 (.Ai 2 (.t 17))::
oo 132 (.Ai 0 (.t 131))::
oo 133 (.Af (.t 132))::
oo 134 (.Ai 2 (.t 16))::
oo 135 (.Af (.t 134))::
oo 136 (.int .mul (.t 133) (.t 135))::
oo 137 (.int .add (.t 130) (.t 136))::
om 14 137::[]))))))))) (.reg (
 om 80 15::
oo 81 (.int .add (.t 80) z1)::
om 15 81::[]))))))) (.seq (.seq (.reg (
 om 138 12::
om 139 1::
oo 140 (.Ai 1 (.t 7))::
oo 141 (.Af (.t 140))::
oo 142 (.int .mul (.t 139) (.t 141))::
oo 143 (.int .neq (.t 138) (.t 142))::
om 144 143::
og 145 144 false (.mv (.t 13))::
og 146 144 false (.mv (.t 2))::
og 147 144 false (.Ai 1 (.t 7))::
og 148 144 false (.Af (.t 147))::
og 149 144 false (.int .mul (.t 146) (.t 148))::
og 150 144 false (.int .neq (.t 145) (.t 149))::
oo 151 (.pick (.t 144) (.c (Value.bool true)) (.t 150))::[])) (.cond (.t 151) (.seq (.reg (
 oo 152 (.build [k0,k0] [])::
oz (.store 2 (.t 8) (.t 152))::
oo 9 (.mv (.c (Value.int .i64 14)))::[])) .ret) .skip)) (.seq (.reg (
 om 153 14::
oo 154 (.Ai 1 (.t 7))::
oo 155 (.Af (.t 154))::
oc 156 50 [(.t 153),(.t 155)]::
oz (.store 2 (.t 8) (.t 156))::
oo 9 (.mv z0)::[])) .ret)))))))))
def r15:List ResultVar:=[.cell 8 57,.tmp 9]
theorem Agm:Cf Tryz.prog 15 157 4 a15 r15:=
  ⟨rfl,Tryz.f15,_,rfl,rfl,rfl,by decide,rfl,rfl,rfl⟩
noncomputable def a16:Ay:=(.seq (.reg (
 oo 2 (.box (.t 0) 31)::
oo 3 (.box (.t 1) 39)::
oo 4 (.mv z0)::[])) (.seq (.seq (.reg (
 oo 9 (.Az 5 (.t 2))::
oc 10 9 [(.t 9)]::
oo 11 (.int .neq (.t 10) z0)::[])) (.cond (.t 11) (.seq (.reg (
 oo 12 (.Az 5 (.t 2))::
oc 13 9 [(.t 12)]::
om 4 13::[])) .ret) .skip)) (.seq (.seq (.reg (
 oo 14 (.Ai 0 (.t 3))::
oo 15 (.Af (.t 14))::
oo 16 (.len (.t 15))::
oo 17 (.Ai 0 (.t 2))::
oo 18 (.Af (.t 17))::
oo 19 (.int .neq (.t 16) (.t 18))::
om 20 19::
og 21 20 false (.Ai 1 (.t 3))::
og 22 20 false (.Af (.t 21))::
og 23 20 false (.len (.t 22))::
og 24 20 false (.Ai 1 (.t 2))::
og 25 20 false (.Af (.t 24))::
og 26 20 false (.int .neq (.t 23) (.t 25))::
oo 27 (.pick (.t 20) (.c (Value.bool true)) (.t 26))::[])) (.cond (.t 27) (.seq (.reg (
 oo 4 (.mv (.c (Value.int .i64 15)))::[])) .ret) .skip)) (.seq (.seq (.reg (
 oo 28 (.Ai 0 (.t 3))::
oo 29 (.Af (.t 28))::
oc 30 51 [(.t 29)]::
oo 31 (.not (.t 30))::
om 32 31::
og 33 32 false (.Ai 1 (.t 3))::
og 34 32 false (.Af (.t 33))::
F6 35 32 false 51 [(.t 34)]::
og 36 32 false (.not (.t 35))::
oo 37 (.pick (.t 32) (.c (Value.bool true)) (.t 36))::[])) (.cond (.t 37) (.seq (.reg (
 oo 4 (.mv (.c (Value.int .i64 3)))::[])) .ret) .skip)) (.seq (.seq (.reg (
 oo 5 (.mv z0)::[])) (.block 0 (.loop (.seq (.seq (.reg (
 om 38 5::
oo 39 (.Ai 0 (.t 2))::
oo 40 (.Af (.t 39))::
oo 41 (.int .lss (.t 38) (.t 40))::[])) (.cond (.t 41) .skip (.exit 0))) (.seq (.block 1 (.seq (.BN (
 oo 44 (.Ai 0 (.t 3))::
oo 45 (.Af (.t 44))::
om 46 5::
oo 47 (.Bb 1 (.t 45) (.t 46))::
oo 48 (.Af (.t 47))::
oo 49 (.Ai 2 (.t 2))::
oo 50 (.Ai 0 (.t 49))::
oo 51 (.Af (.t 50))::
oo 52 (.int .lss (.t 48) (.t 51))::
om 53 52::
og 54 53 false (.Ai 0 (.t 3))::
og 55 53 false (.Af (.t 54))::
og 56 53 false (.mv (.t 5))::
og 57 53 false (.Bb 1 (.t 55) (.t 56))::
og 58 53 false (.Af (.t 57))::
og 59 53 false (.Ai 2 (.t 2))::
og 60 53 false (.Ai 1 (.t 59))::
og 61 53 false (.Af (.t 60))::
og 62 53 false (.int .gtr (.t 58) (.t 61))::
oo 63 (.pick (.t 53) (.c (Value.bool true)) (.t 62))::[]) []) (.cond (.t 63) (.seq (.reg (
 oo 4 (.mv (.c (Value.int .i64 20)))::[])) .ret) .skip))) (.reg (
 om 42 5::
oo 43 (.int .add (.t 42) z1)::
om 5 43::[]))))))) (.seq (.seq (.reg (
 oo 6 (.mv z0)::[])) (.block 2 (.loop (.seq (.seq (.reg (
 om 64 6::
oo 65 (.Ai 4 (.t 2))::
oo 66 (.Af (.t 65))::
oo 67 (.len (.t 66))::
oo 68 (.int .lss (.t 64) (.t 67))::[])) (.cond (.t 68) .skip (.exit 2))) (.seq (.block 3 (.seq (.reg (
 oo 71 (.Ai 4 (.t 2))::
oo 72 (.Af (.t 71))::
om 73 6::
oo 74 (.Bb 4 (.t 72) (.t 73))::
oo 75 (.Az 4 (.t 74))::
oo 7 (.alloc [k0,k0,k0,k0] 33)::
oz (.store 4 (.t 7) (.t 75))::[])) (.seq (.BN (
 oo 76 (.Ai 0 (.t 3))::
oo 77 (.Af (.t 76))::
oo 78 (.Ai 0 (.t 7))::
oo 79 (.Af (.t 78))::
oo 80 (.Bb 1 (.t 77) (.t 79))::
oo 81 (.Af (.t 80))::
oo 82 (.Ai 1 (.t 3))::
oo 83 (.Af (.t 82))::
oo 84 (.Ai 1 (.t 7))::
oo 85 (.Af (.t 84))::
oo 86 (.Bb 1 (.t 83) (.t 85))::
oo 87 (.Af (.t 86))::
oo 88 (.int .add (.t 81) (.t 87))::
om 8 88::[]) []) (.seq (.reg (
 om 89 8::
oo 90 (.Ai 2 (.t 7))::
oo 91 (.Ai 0 (.t 90))::
oo 92 (.Af (.t 91))::
oo 93 (.int .lss (.t 89) (.t 92))::
om 94 93::
og 95 94 false (.mv (.t 8))::
og 96 94 false (.Ai 2 (.t 7))::
og 97 94 false (.Ai 1 (.t 96))::
og 98 94 false (.Af (.t 97))::
og 99 94 false (.int .gtr (.t 95) (.t 98))::
oo 100 (.pick (.t 94) (.c (Value.bool true)) (.t 99))::[])) (.cond (.t 100) (.seq (.reg (
 oo 4 (.mv (.c (Value.int .i64 20)))::[])) .ret) .skip))))) (.reg (
 om 69 6::
oo 70 (.int .add (.t 69) z1)::
om 6 70::[]))))))) (.seq (.reg (
 oo 4 (.mv z0)::[])) .ret)))))))
def r16:List ResultVar:=[.tmp 4]
theorem Agl:Cf Tryz.prog 16 101 2 a16 r16:=
  ⟨rfl,Tryz.f16,_,rfl,rfl,rfl,by decide,rfl,rfl,rfl⟩
noncomputable def a17:Ay:=(.seq (.reg (
 oo 3 (.box (.t 1) 43)::
oo 4 (.mv z0)::[])) (.seq (.seq (.reg (
 om 5 0::
oc 6 8 [(.t 5)]::
oo 7 (.int .neq (.t 6) z0)::[])) (.cond (.t 7) (.seq (.reg (
 om 8 0::
oc 9 8 [(.t 8)]::
om 4 9::[])) .ret) .skip)) (.seq (.seq (.reg (
 oo 10 (.Az 3 (.t 3))::
oc 11 52 [(.t 10)]::
oo 12 (.not (.t 11))::[])) (.cond (.t 12) (.seq (.reg (
 oo 4 (.mv (.c (Value.int .i64 2)))::[])) .ret) .skip)) (.seq (.seq (.reg (
 om 13 0::
oo 14 (.Az 3 (.t 3))::
oc 15 53 [(.t 13),(.t 14)]::
oo 16 (.not (.t 15))::[])) (.cond (.t 16) (.seq (.reg (
 oo 4 (.mv (.c (Value.int .i64 20)))::[])) .ret) .skip)) (.seq (.reg (
 oo 4 (.mv z0)::[])) .ret)))))
def r17:List ResultVar:=[.tmp 4]
theorem Agk:Cf Tryz.prog 17 17 2 a17 r17:=
  ⟨rfl,Tryz.f17,_,rfl,rfl,rfl,by decide,rfl,rfl,rfl⟩
noncomputable def a18:Ay:=(.seq (.reg (
 oo 3 (.box (.t 1) 43)::
oo 4 (.mv z0)::[])) (.seq (.seq (.reg (
 om 8 0::
oc 9 44 [(.t 8)]::
om 5 9::[])) (.seq (.reg (
 om 10 5::
oo 11 (.int .neq (.t 10) z0)::[])) (.cond (.t 11) (.seq (.reg (
 om 12 5::
om 4 12::[])) .ret) .skip))) (.seq (.seq (.reg (
 oo 13 (.Ai 2 (.t 3))::
oo 14 (.Af (.t 13))::
oo 15 (.BF [k0] [(0,1,(.t 14))] 1 2)::
oc 16 54 [z1,(.c (Value.int .i64 1099511627776)),(.t 15)]::
oo 17 (.not (.t 16))::
om 18 17::
og 19 18 false (.Ai 0 (.t 3))::
og 20 18 false (.Af (.t 19))::
og 21 18 false (.Ai 1 (.t 3))::
og 22 18 false (.Af (.t 21))::
og 23 18 false (.BF [k0,k0] [(0,1,(.t 20)),(1,1,(.t 22))] 2 2)::
F6 24 18 false 54 [(.c (Value.int .i64 (-1099511627776))),(.c (Value.int .i64 1099511627776)),(.t 23)]::
og 25 18 false (.not (.t 24))::
oo 26 (.pick (.t 18) (.c (Value.bool true)) (.t 25))::[])) (.cond (.t 26) (.seq (.reg (
 oo 4 (.mv (.c (Value.int .i64 2)))::[])) .ret) .skip)) (.seq (.seq (.reg (
 om 27 0::
oo 28 (.len (.t 27))::
oo 29 (.mv z0)::[])) (.block 0 (.loop (.seq (.reg (
 oo 30 (.int .lss (.t 29) (.t 28))::[])) (.seq (.cond (.t 30) .skip (.exit 0)) (.seq (.block 1 (.seq (.reg (
 oo 31 (.Bb 4 (.t 27) (.t 29))::
oo 32 (.Az 4 (.t 31))::
oo 7 (.alloc [k0,k0,k0,k0] 27)::
oz (.store 4 (.t 7) (.t 32))::[])) (.seq (.reg (
 oo 33 (.Ai 2 (.t 7))::
oo 34 (.Ai 0 (.t 33))::
oo 35 (.Af (.t 34))::
oo 36 (.Ai 2 (.t 3))::
oo 37 (.Af (.t 36))::
oo 38 (.int .mul (.t 35) (.t 37))::
oo 39 (.Ai 2 (.t 7))::
oo 40 (.Ai 1 (.t 39))::
oo 41 (.Af (.t 40))::
oo 42 (.Ai 2 (.t 3))::
oo 43 (.Af (.t 42))::
oo 44 (.int .mul (.t 41) (.t 43))::
oo 45 (.Ai 0 (.t 7))::
oo 46 (.Af (.t 45))::
oo 47 (.Ai 0 (.t 3))::
oo 48 (.Af (.t 47))::
oo 49 (.int .mul (.t 46) (.t 48))::
oo 50 (.Ai 1 (.t 7))::
oo 51 (.Af (.t 50))::
oo 52 (.Ai 1 (.t 3))::
oo 53 (.Af (.t 52))::
oo 54 (.int .mul (.t 51) (.t 53))::
oo 55 (.int .add (.t 49) (.t 54))::
oo 56 (.BF [k0] [(0,1,(.t 55))] 1 2)::
oc 57 54 [(.t 38),(.t 44),(.t 56)]::
oo 58 (.not (.t 57))::[])) (.cond (.t 58) (.seq (.reg (
 oo 4 (.mv (.c (Value.int .i64 20)))::[])) .ret) .skip)))) (.reg (
 oo 59 (.int .add (.t 29) z1)::
om 29 59::[])))))))) (.seq (.reg (
 oo 4 (.mv z0)::[])) .ret)))))
def r18:List ResultVar:=[.tmp 4]
theorem Agj:Cf Tryz.prog 18 60 2 a18 r18:=
  ⟨rfl,Tryz.f18,_,rfl,rfl,rfl,by decide,rfl,rfl,rfl⟩
noncomputable def a19:Ay:=(.seq (.reg (
 oo 2 (.box (.t 0) 31)::
oo 4 (.alloc [k0,k0] 23)::
oo 5 (.mv z0)::[])) (.seq (.reg (
 oo 12 (.Az 5 (.t 2))::
om 13 1::
oo 14 (.BF [k0] [(0,1,(.t 13))] 1 3)::
oc 15 55 [(.t 12),(.t 14)]::
om 11 15::
oo 16 (.extract (.t 11) 0)::
oo 17 (.extract (.t 11) 1)::
oo 18 (.extract (.t 11) 2)::
om 6 16::
om 7 17::
om 8 18::[])) (.seq (.seq (.reg (
 om 19 8::
oo 20 (.int .neq (.t 19) z0)::[])) (.cond (.t 20) (.seq (.reg (
 oo 21 (.build [k0,k0] [])::
om 22 8::
oz (.store 2 (.t 4) (.t 21))::
om 5 22::[])) .ret) .skip)) (.seq (.reg (
 om 24 6::
oc 25 56 [(.t 24)]::
oc 26 40 [(.t 25)]::
om 23 26::
oo 27 (.extract (.t 23) 0)::
oo 28 (.extract (.t 23) 1)::
om 9 27::
om 10 28::[])) (.seq (.BN (
 om 29 7::
oc 30 41 [(.t 29),z1]::
oo 31 (.field1 1 (.t 30))::
om 32 1::
oo 33 (.Bb 1 (.t 31) (.t 32))::
oo 34 (.Af (.t 33))::
om 35 9::
oc 36 41 [(.t 35),(.c (Value.int .i64 (-1)))]::
oo 37 (.field1 1 (.t 36))::
om 38 1::
oo 39 (.Bb 1 (.t 37) (.t 38))::
oo 40 (.Af (.t 39))::
oo 41 (.build [k0,k0] [(0,1,(.t 34)),(1,1,(.t 40))])::
oz (.store 2 (.t 4) (.t 41))::
oo 5 (.mv z0)::[]) []) .ret)))))
def r19:List ResultVar:=[.cell 4 23,.tmp 5]
theorem Agi:Cf Tryz.prog 19 42 2 a19 r19:=
  ⟨rfl,Tryz.f19,_,rfl,rfl,rfl,by decide,rfl,rfl,rfl⟩
noncomputable def a20:Ay:=(.seq (.reg (
 oo 6 (.alloc [k0,k0] 57)::
oo 7 (.mv z0)::[])) (.seq (.reg (
 om 11 0::
om 12 1::
om 13 2::
oc 14 57 [(.t 11),(.t 12),(.t 13)]::
om 10 14::
oo 15 (.extract (.t 10) 0)::
oo 16 (.extract (.t 10) 1)::
oo 8 (.alloc [Value.map none,k0,k0,k0,k0] 111)::
oz (.store 5 (.t 8) (.t 15))::
om 9 16::[])) (.seq (.seq (.reg (
 om 17 9::
oo 18 (.int .neq (.t 17) z0)::[])) (.cond (.t 18) (.seq (.reg (
 oo 19 (.build [k0,k0] [])::
om 20 9::
oz (.store 2 (.t 6) (.t 19))::
om 7 20::[])) .ret) .skip)) (.seq (.reg (
 oo 21 (.Az 5 (.t 8))::
oc 22 58 [(.t 21)]::
oz (.store 2 (.t 6) (.t 22))::
oo 7 (.mv z0)::[])) .ret))))
def r20:List ResultVar:=[.cell 6 57,.tmp 7]
theorem Agh:Cf Tryz.prog 20 23 3 a20 r20:=
  ⟨rfl,Tryz.f20,_,rfl,rfl,rfl,by decide,rfl,rfl,rfl⟩
noncomputable def a21:Ay:=(.seq (.reg (
 oo 1 (.box (.t 0) 67)::
oo 2 (.mv z0)::[])) (.seq (.seq (.reg (
 oo 3 (.Ai 0 (.t 1))::
oo 4 (.Af (.t 3))::
oc 5 59 [(.t 4),z1,(.c (Value.int .i64 10000))]::
oo 6 (.not (.t 5))::
om 7 6::
og 8 7 false (.Ai 1 (.t 1))::
og 9 7 false (.Af (.t 8))::
F6 10 7 false 59 [(.t 9),z1,(.c (Value.int .i64 10000))]::
og 11 7 false (.not (.t 10))::
oo 12 (.pick (.t 7) (.c (Value.bool true)) (.t 11))::
om 13 12::
og 14 13 false (.Ai 2 (.t 1))::
og 15 13 false (.Af (.t 14))::
F6 16 13 false 59 [(.t 15),z1,(.c (Value.int .i64 1000000))]::
og 17 13 false (.not (.t 16))::
oo 18 (.pick (.t 13) (.c (Value.bool true)) (.t 17))::
om 19 18::
og 20 19 false (.Ai 3 (.t 1))::
og 21 19 false (.Af (.t 20))::
F6 22 19 false 59 [(.t 21),z1,(.c (Value.int .i64 10))]::
og 23 19 false (.not (.t 22))::
oo 24 (.pick (.t 19) (.c (Value.bool true)) (.t 23))::
om 25 24::
og 26 25 false (.Ai 4 (.t 1))::
og 27 25 false (.Az 2 (.t 26))::
F6 28 25 false 60 [(.t 27),z0,(.c (Value.int .i64 100000000))]::
og 29 25 false (.not (.t 28))::
oo 30 (.pick (.t 25) (.c (Value.bool true)) (.t 29))::
om 31 30::
og 32 31 false (.Ai 6 (.t 1))::
og 33 31 false (.Az 2 (.t 32))::
F6 34 31 false 60 [(.t 33),(.c (Value.int .i64 500)),(.c (Value.int .i64 3000))]::
og 35 31 false (.not (.t 34))::
oo 36 (.pick (.t 31) (.c (Value.bool true)) (.t 35))::
om 37 36::
og 38 37 false (.Ai 8 (.t 1))::
og 39 37 false (.Az 2 (.t 38))::
F6 40 37 false 60 [(.t 39),(.c (Value.int .i64 500)),(.c (Value.int .i64 3000))]::
og 41 37 false (.not (.t 40))::
oo 42 (.pick (.t 37) (.c (Value.bool true)) (.t 41))::
om 43 42::
og 44 43 false (.Ai 10 (.t 1))::
og 45 43 false (.Az 2 (.t 44))::
F6 46 43 false 60 [(.t 45),z0,(.c (Value.int .i64 1000))]::
og 47 43 false (.not (.t 46))::
oo 48 (.pick (.t 43) (.c (Value.bool true)) (.t 47))::
om 49 48::
og 50 49 false (.Ai 12 (.t 1))::
og 51 49 false (.Az 2 (.t 50))::
F6 52 49 false 60 [(.t 51),z0,(.c (Value.int .i64 200))]::
og 53 49 false (.not (.t 52))::
oo 54 (.pick (.t 49) (.c (Value.bool true)) (.t 53))::
om 55 54::
og 56 55 false (.Ai 14 (.t 1))::
og 57 55 false (.Az 2 (.t 56))::
F6 58 55 false 60 [(.t 57),z0,(.c (Value.int .i64 2000))]::
og 59 55 false (.not (.t 58))::
oo 60 (.pick (.t 55) (.c (Value.bool true)) (.t 59))::[])) (.cond (.t 60) (.seq (.reg (
 oo 2 (.mv (.c (Value.int .i64 2)))::[])) .ret) .skip)) (.seq (.reg (
 oo 2 (.mv z0)::[])) .ret)))
def r21:List ResultVar:=[.tmp 2]
theorem Agg:Cf Tryz.prog 21 61 1 a21 r21:=
  ⟨rfl,Tryz.f21,_,rfl,rfl,rfl,by decide,rfl,rfl,rfl⟩
noncomputable def a22:Ay:=(.seq (.reg (
 oo 1 (.box (.t 0) 71)::
oo 2 (.mv z0)::[])) (.seq (.seq (.reg (
 oo 4 (.Ai 0 (.t 1))::
oo 5 (.Af (.t 4))::
oo 6 (.len (.t 5))::
oo 7 (.int .lss (.t 6) (.c (Value.int .i64 2)))::
om 8 7::
og 9 8 false (.Ai 0 (.t 1))::
og 10 8 false (.Af (.t 9))::
og 11 8 false (.len (.t 10))::
og 12 8 false (.int .gtr (.t 11) (.c (Value.int .i64 12)))::
oo 13 (.pick (.t 8) (.c (Value.bool true)) (.t 12))::[])) (.cond (.t 13) (.seq (.reg (
 oo 2 (.mv (.c (Value.int .i64 6)))::[])) .ret) .skip)) (.seq (.seq (.reg (
 oo 14 (.Ai 1 (.t 1))::
oo 15 (.Af (.t 14))::
oo 16 (.len (.t 15))::
oo 17 (.Ai 0 (.t 1))::
oo 18 (.Af (.t 17))::
oo 19 (.len (.t 18))::
oo 20 (.int .neq (.t 16) (.t 19))::[])) (.cond (.t 20) (.seq (.reg (
 oo 2 (.mv (.c (Value.int .i64 15)))::[])) .ret) .skip)) (.seq (.seq (.reg (
 oo 3 (.mv z0)::[])) (.block 0 (.loop (.seq (.seq (.reg (
 om 21 3::
oo 22 (.Ai 0 (.t 1))::
oo 23 (.Af (.t 22))::
oo 24 (.len (.t 23))::
oo 25 (.int .lss (.t 21) (.t 24))::[])) (.cond (.t 25) .skip (.exit 0))) (.seq (.block 1 (.seq (.BN (
 oo 28 (.Ai 0 (.t 1))::
oo 29 (.Af (.t 28))::
om 30 3::
oo 31 (.Bb 1 (.t 29) (.t 30))::
oo 32 (.Af (.t 31))::
oc 33 59 [(.t 32),z1,(.c (Value.int .i64 1000000000))]::
oo 34 (.not (.t 33))::
om 35 34::
og 36 35 false (.Ai 1 (.t 1))::
og 37 35 false (.Af (.t 36))::
og 38 35 false (.mv (.t 3))::
og 39 35 false (.Bb 1 (.t 37) (.t 38))::
og 40 35 false (.Af (.t 39))::
F6 41 35 false 59 [(.t 40),z0,(.c (Value.int .i64 100000))]::
og 42 35 false (.not (.t 41))::
oo 43 (.pick (.t 35) (.c (Value.bool true)) (.t 42))::
om 44 43::
og 45 44 false (.mv (.t 3))::
og 46 44 false (.int .gtr (.t 45) z0)::
og 47 44 false (.mv (.t 46))::
og 48 47 true (.Ai 0 (.t 1))::
og 49 47 true (.Af (.t 48))::
og 50 47 true (.mv (.t 3))::
og 51 47 true (.Bb 1 (.t 49) (.t 50))::
og 52 47 true (.Af (.t 51))::
og 53 47 true (.Ai 0 (.t 1))::
og 54 47 true (.Af (.t 53))::
og 55 47 true (.mv (.t 3))::
og 56 47 true (.int .sub (.t 55) z1)::
og 57 47 true (.Bb 1 (.t 54) (.t 56))::
og 58 47 true (.Af (.t 57))::
og 59 47 true (.int .leq (.t 52) (.t 58))::
og 60 47 true (.mv (.t 59))::
og 61 60 false (.Ai 1 (.t 1))::
og 62 60 false (.Af (.t 61))::
og 63 60 false (.mv (.t 3))::
og 64 60 false (.Bb 1 (.t 62) (.t 63))::
og 65 60 false (.Af (.t 64))::
og 66 60 false (.Ai 1 (.t 1))::
og 67 60 false (.Af (.t 66))::
og 68 60 false (.mv (.t 3))::
og 69 60 false (.int .sub (.t 68) z1)::
og 70 60 false (.Bb 1 (.t 67) (.t 69))::
og 71 60 false (.Af (.t 70))::
og 72 60 false (.int .gtr (.t 65) (.t 71))::
og 73 47 true (.pick (.t 60) (.c (Value.bool true)) (.t 72))::
og 74 44 false (.pick (.t 47) (.t 73) (.c (Value.bool false)))::
oo 75 (.pick (.t 44) (.c (Value.bool true)) (.t 74))::[]) []) (.cond (.t 75) (.seq (.reg (
 oo 2 (.mv (.c (Value.int .i64 2)))::[])) .ret) .skip))) (.reg (
 om 26 3::
oo 27 (.int .add (.t 26) z1)::
om 3 27::[]))))))) (.seq (.reg (
 oo 2 (.mv z0)::[])) .ret)))))
def r22:List ResultVar:=[.tmp 2]
theorem Agf:Cf Tryz.prog 22 76 1 a22 r22:=
  ⟨rfl,Tryz.f22,_,rfl,rfl,rfl,by decide,rfl,rfl,rfl⟩
noncomputable def a23:Ay:=(.seq (.reg (
 oo 2 (.box (.t 0) 67)::
oo 4 (.alloc [k0,k0] 23)::
oo 5 (.mv z0)::[])) (.seq (.reg (
 oo 9 (.Az 16 (.t 2))::
om 10 1::
oc 11 61 [(.t 9),(.t 10)]::
om 8 11::
oo 12 (.extract (.t 8) 0)::
oo 13 (.extract (.t 8) 1)::
oo 6 (.alloc [k0,k0,k0,k0,k0,k0,k0,k0,k0,k0,k0,k0,k0,k0,k0,k0] 135)::
oz (.store 16 (.t 6) (.t 12))::
om 7 13::[])) (.seq (.seq (.reg (
 om 14 7::
oo 15 (.int .neq (.t 14) z0)::[])) (.cond (.t 15) (.seq (.reg (
 oo 16 (.build [k0,k0] [])::
om 17 7::
oz (.store 2 (.t 4) (.t 16))::
om 5 17::[])) .ret) .skip)) (.seq (.BN (
 oo 18 (.Az 16 (.t 6))::
om 19 1::
oc 20 62 [(.t 18),(.t 19),(.c (Value.int .i64 (-1)))]::
oo 21 (.field1 7 (.t 20))::
oo 22 (.Az 16 (.t 6))::
om 23 1::
oc 24 62 [(.t 22),(.t 23),z1]::
oo 25 (.field1 7 (.t 24))::
oo 26 (.build [k0,k0] [(0,1,(.t 21)),(1,1,(.t 25))])::
oz (.store 2 (.t 4) (.t 26))::
oo 5 (.mv z0)::[]) []) .ret))))
def r23:List ResultVar:=[.cell 4 23,.tmp 5]
theorem Age:Cf Tryz.prog 23 27 2 a23 r23:=
  ⟨rfl,Tryz.f23,_,rfl,rfl,rfl,by decide,rfl,rfl,rfl⟩
noncomputable def a24:Ay:=(.seq (.reg (
 oo 1 (.box (.t 0) 77)::
oo 2 (.mv z0)::[])) (.seq (.seq (.reg (
 oo 5 (.Ai 0 (.t 1))::
oo 6 (.Af (.t 5))::
oo 7 (.len (.t 6))::
oo 8 (.int .lss (.t 7) z1)::
om 9 8::
og 10 9 false (.Ai 0 (.t 1))::
og 11 9 false (.Af (.t 10))::
og 12 9 false (.len (.t 11))::
og 13 9 false (.int .gtr (.t 12) (.c (Value.int .i64 24)))::
oo 14 (.pick (.t 9) (.c (Value.bool true)) (.t 13))::[])) (.cond (.t 14) (.seq (.reg (
 oo 2 (.mv (.c (Value.int .i64 6)))::[])) .ret) .skip)) (.seq (.seq (.reg (
 oo 15 (.Ai 1 (.t 1))::
oo 16 (.Af (.t 15))::
oo 17 (.int .lss (.t 16) z0)::
om 18 17::
og 19 18 false (.Ai 1 (.t 1))::
og 20 18 false (.Af (.t 19))::
og 21 18 false (.int .gtr (.t 20) (.c (Value.int .i64 1000000)))::
oo 22 (.pick (.t 18) (.c (Value.bool true)) (.t 21))::[])) (.cond (.t 22) (.seq (.reg (
 oo 2 (.mv (.c (Value.int .i64 2)))::[])) .ret) .skip)) (.seq (.seq (.reg (
 oo 3 (.mv z0)::[])) (.block 0 (.loop (.seq (.seq (.reg (
 om 23 3::
oo 24 (.Ai 0 (.t 1))::
oo 25 (.Af (.t 24))::
oo 26 (.len (.t 25))::
oo 27 (.int .lss (.t 23) (.t 26))::[])) (.cond (.t 27) .skip (.exit 0))) (.seq (.block 1 (.seq (.reg (
 oo 30 (.Ai 0 (.t 1))::
oo 31 (.Af (.t 30))::
om 32 3::
oo 33 (.Bb 2 (.t 31) (.t 32))::
oo 34 (.Az 2 (.t 33))::
oo 4 (.alloc [k0,k0] 23)::
oz (.store 2 (.t 4) (.t 34))::[])) (.seq (.reg (
 oo 35 (.Ai 0 (.t 4))::
oo 36 (.Af (.t 35))::
oo 37 (.int .lss (.t 36) (.c (Value.int .i64 (-1000000))))::
om 38 37::
og 39 38 false (.Ai 0 (.t 4))::
og 40 38 false (.Af (.t 39))::
og 41 38 false (.Ai 1 (.t 4))::
og 42 38 false (.Af (.t 41))::
og 43 38 false (.int .gtr (.t 40) (.t 42))::
oo 44 (.pick (.t 38) (.c (Value.bool true)) (.t 43))::
om 45 44::
og 46 45 false (.Ai 1 (.t 4))::
og 47 45 false (.Af (.t 46))::
og 48 45 false (.int .gtr (.t 47) (.c (Value.int .i64 1000000)))::
oo 49 (.pick (.t 45) (.c (Value.bool true)) (.t 48))::
om 50 49::
og 51 50 false (.Ai 1 (.t 4))::
og 52 50 false (.Af (.t 51))::
og 53 50 false (.Ai 0 (.t 4))::
og 54 50 false (.Af (.t 53))::
og 55 50 false (.int .sub (.t 52) (.t 54))::
og 56 50 false (.int .gtr (.t 55) (.c (Value.int .i64 4)))::
oo 57 (.pick (.t 50) (.c (Value.bool true)) (.t 56))::[])) (.cond (.t 57) (.seq (.reg (
 oo 2 (.mv (.c (Value.int .i64 2)))::[])) .ret) .skip)))) (.reg (
 om 28 3::
oo 29 (.int .add (.t 28) z1)::
om 3 29::[]))))))) (.seq (.reg (
 oo 2 (.mv z0)::[])) .ret)))))
def r24:List ResultVar:=[.tmp 2]
theorem Agd:Cf Tryz.prog 24 58 1 a24 r24:=
  ⟨rfl,Tryz.f24,_,rfl,rfl,rfl,by decide,rfl,rfl,rfl⟩
noncomputable def a25:Ay:=(.seq (.reg (
 oo 1 (.box (.t 0) 77)::
oo 2 (.mv (.c (Value.slice none 0 0)))::
oo 3 (.mv z0)::
oo 4 (.mv z0)::[])) (.seq (.seq (.reg (
 oo 8 (.Az 2 (.t 1))::
oc 9 63 [(.t 8)]::
om 5 9::[])) (.seq (.reg (
 om 10 5::
oo 11 (.int .neq (.t 10) z0)::[])) (.cond (.t 11) (.seq (.reg (
 om 12 5::
oo 2 (.mv (.c (Value.slice none 0 0)))::
oo 3 (.mv z0)::
om 4 12::[])) .ret) .skip))) (.seq (.reg (
 oo 14 (.Az 2 (.t 1))::
oo 15 (.Ai 1 (.t 1))::
oo 16 (.Af (.t 15))::
oc 17 64 [(.t 14),z1,(.t 16)]::
oc 18 65 [(.t 17)]::
om 13 18::
oo 19 (.extract (.t 13) 0)::
oo 20 (.extract (.t 13) 1)::
om 6 19::
om 7 20::[])) (.seq (.reg (
 om 21 6::
om 22 7::
om 2 21::
om 3 22::
oo 4 (.mv z0)::[])) .ret))))
def r25:List ResultVar:=[.tmp 2,.tmp 3,.tmp 4]
theorem Agc:Cf Tryz.prog 25 23 1 a25 r25:=
  ⟨rfl,Tryz.f25,_,rfl,rfl,rfl,by decide,rfl,rfl,rfl⟩
noncomputable def a26:Ay:=(.seq (.reg (
 oo 2 (.box (.t 0) 77)::
oo 4 (.mv z0)::
oo 5 (.mv z0)::[])) (.seq (.seq (.reg (
 oo 11 (.Az 2 (.t 2))::
oc 12 63 [(.t 11)]::
om 6 12::[])) (.seq (.reg (
 om 13 6::
oo 14 (.int .neq (.t 13) z0)::[])) (.cond (.t 14) (.seq (.reg (
 om 15 6::
oo 4 (.mv z0)::
om 5 15::[])) .ret) .skip))) (.seq (.seq (.reg (
 om 16 1::
oo 17 (.len (.t 16))::
oo 18 (.Ai 0 (.t 2))::
oo 19 (.Af (.t 18))::
oo 20 (.len (.t 19))::
oo 21 (.int .neq (.t 17) (.t 20))::[])) (.cond (.t 21) (.seq (.reg (
 oo 4 (.mv z0)::
oo 5 (.mv (.c (Value.int .i64 15)))::[])) .ret) .skip)) (.seq (.seq (.reg (
 oo 22 (.Ai 0 (.t 2))::
oo 23 (.Af (.t 22))::
oo 24 (.len (.t 23))::
oo 25 (.mv z0)::[])) (.block 0 (.loop (.seq (.reg (
 oo 26 (.int .lss (.t 25) (.t 24))::[])) (.seq (.cond (.t 26) .skip (.exit 0)) (.seq (.block 1 (.seq (.reg (
 om 27 25::
oo 28 (.Bb 2 (.t 23) (.t 25))::
oo 29 (.Az 2 (.t 28))::
oo 8 (.alloc [k0,k0] 23)::
om 7 27::
oz (.store 2 (.t 8) (.t 29))::[])) (.seq (.BN (
 oo 30 (.Ai 0 (.t 8))::
oo 31 (.Af (.t 30))::
oo 32 (.Ai 1 (.t 8))::
oo 33 (.Af (.t 32))::
om 34 1::
om 35 7::
oo 36 (.Bb 1 (.t 34) (.t 35))::
oo 37 (.Af (.t 36))::
oo 38 (.BF [k0] [(0,1,(.t 37))] 1 2)::
oc 39 66 [(.t 31),(.t 33),(.t 38)]::
oo 40 (.not (.t 39))::[]) []) (.cond (.t 40) (.seq (.reg (
 oo 4 (.mv z0)::
oo 5 (.mv (.c (Value.int .i64 17)))::[])) .ret) .skip)))) (.reg (
 oo 41 (.int .add (.t 25) z1)::
om 25 41::[])))))))) (.seq (.reg (
 om 43 1::
oc 44 67 [(.t 43)]::
om 42 44::
oo 45 (.extract (.t 42) 0)::
oo 46 (.extract (.t 42) 1)::
om 9 45::
om 10 46::[])) (.seq (.reg (
 om 47 10::
oo 48 (.Ai 1 (.t 2))::
oo 49 (.Af (.t 48))::
om 50 9::
oo 51 (.int .mul (.t 49) (.t 50))::
oo 52 (.int .add (.t 47) (.t 51))::
om 4 52::
oo 5 (.mv z0)::[])) .ret))))))
def r26:List ResultVar:=[.tmp 4,.tmp 5]
theorem Agb:Cf Tryz.prog 26 53 2 a26 r26:=
  ⟨rfl,Tryz.f26,_,rfl,rfl,rfl,by decide,rfl,rfl,rfl⟩
noncomputable def a27:Ay:=(.seq (.reg (
 oo 1 (.box (.t 0) 85)::
oo 2 (.mv z0)::[])) (.seq (.reg (
 oo 9 (.Ai 2 (.t 1))::
oo 10 (.Af (.t 9))::
oo 11 (.len (.t 10))::
om 3 11::[])) (.seq (.seq (.reg (
 om 12 3::
oo 13 (.int .lss (.t 12) (.c (Value.int .i64 2)))::
om 14 13::
og 15 14 false (.mv (.t 3))::
og 16 14 false (.int .gtr (.t 15) (.c (Value.int .i64 10)))::
oo 17 (.pick (.t 14) (.c (Value.bool true)) (.t 16))::
om 18 17::
og 19 18 false (.Ai 2 (.t 1))::
og 20 18 false (.Af (.t 19))::
og 21 18 false (.Bb 1 (.t 20) z0)::
og 22 18 false (.Af (.t 21))::
og 23 18 false (.len (.t 22))::
og 24 18 false (.int .lss (.t 23) (.c (Value.int .i64 2)))::
oo 25 (.pick (.t 18) (.c (Value.bool true)) (.t 24))::
om 26 25::
og 27 26 false (.Ai 2 (.t 1))::
og 28 26 false (.Af (.t 27))::
og 29 26 false (.Bb 1 (.t 28) z0)::
og 30 26 false (.Af (.t 29))::
og 31 26 false (.len (.t 30))::
og 32 26 false (.int .gtr (.t 31) (.c (Value.int .i64 6)))::
oo 33 (.pick (.t 26) (.c (Value.bool true)) (.t 32))::[])) (.cond (.t 33) (.seq (.reg (
 oo 2 (.mv (.c (Value.int .i64 6)))::[])) .ret) .skip)) (.seq (.seq (.reg (
 oo 4 (.mv z0)::[])) (.block 0 (.loop (.seq (.seq (.reg (
 om 34 4::
om 35 3::
oo 36 (.int .lss (.t 34) (.t 35))::[])) (.cond (.t 36) .skip (.exit 0))) (.seq (.block 1 (.seq (.BN (
 oo 39 (.Ai 2 (.t 1))::
oo 40 (.Af (.t 39))::
om 41 4::
oo 42 (.Bb 1 (.t 40) (.t 41))::
oo 43 (.Af (.t 42))::
oo 44 (.len (.t 43))::
oo 45 (.Ai 2 (.t 1))::
oo 46 (.Af (.t 45))::
oo 47 (.Bb 1 (.t 46) z0)::
oo 48 (.Af (.t 47))::
oo 49 (.len (.t 48))::
oo 50 (.int .neq (.t 44) (.t 49))::[]) []) (.cond (.t 50) (.seq (.reg (
 oo 2 (.mv (.c (Value.int .i64 15)))::[])) .ret) .skip))) (.reg (
 om 37 4::
oo 38 (.int .add (.t 37) z1)::
om 4 38::[]))))))) (.seq (.seq (.reg (
 oo 51 (.Ai 0 (.t 1))::
oo 52 (.Af (.t 51))::
oo 53 (.int .lss (.t 52) z1)::
om 54 53::
og 55 54 false (.Ai 0 (.t 1))::
og 56 54 false (.Af (.t 55))::
og 57 54 false (.int .gtr (.t 56) (.c (Value.int .i64 1000)))::
oo 58 (.pick (.t 54) (.c (Value.bool true)) (.t 57))::
om 59 58::
og 60 59 false (.Ai 1 (.t 1))::
og 61 59 false (.Af (.t 60))::
og 62 59 false (.int .lss (.t 61) z1)::
oo 63 (.pick (.t 59) (.c (Value.bool true)) (.t 62))::
om 64 63::
og 65 64 false (.Ai 1 (.t 1))::
og 66 64 false (.Af (.t 65))::
og 67 64 false (.int .gtr (.t 66) (.c (Value.int .i64 100)))::
oo 68 (.pick (.t 64) (.c (Value.bool true)) (.t 67))::[])) (.cond (.t 68) (.seq (.reg (
 oo 2 (.mv (.c (Value.int .i64 2)))::[])) .ret) .skip)) (.seq (.reg (
 oo 5 (.mv (.c (Value.bool false)))::[])) (.seq (.seq (.reg (
 oo 6 (.mv z0)::[])) (.block 2 (.loop (.seq (.seq (.reg (
 om 69 6::
om 70 3::
oo 71 (.int .lss (.t 69) (.t 70))::[])) (.cond (.t 71) .skip (.exit 2))) (.seq (.block 3 (.seq (.reg (
 oo 7 (.mv z0)::[])) (.block 4 (.loop (.seq (.seq (.reg (
 om 74 7::
oo 75 (.Ai 2 (.t 1))::
oo 76 (.Af (.t 75))::
om 77 6::
oo 78 (.Bb 1 (.t 76) (.t 77))::
oo 79 (.Af (.t 78))::
oo 80 (.len (.t 79))::
oo 81 (.int .lss (.t 74) (.t 80))::[])) (.cond (.t 81) .skip (.exit 4))) (.seq (.block 5 (.seq (.reg (
 oo 84 (.Ai 2 (.t 1))::
oo 85 (.Af (.t 84))::
om 86 6::
oo 87 (.Bb 1 (.t 85) (.t 86))::
oo 88 (.Af (.t 87))::
om 89 7::
oo 90 (.Bb 2 (.t 88) (.t 89))::
oo 91 (.Az 2 (.t 90))::
oo 8 (.alloc [k0,k0] 23)::
oz (.store 2 (.t 8) (.t 91))::[])) (.seq (.seq (.reg (
 oo 92 (.Ai 0 (.t 8))::
oo 93 (.Af (.t 92))::
oo 94 (.int .lss (.t 93) z0)::
om 95 94::
og 96 95 false (.Ai 0 (.t 8))::
og 97 95 false (.Af (.t 96))::
og 98 95 false (.Ai 1 (.t 8))::
og 99 95 false (.Af (.t 98))::
og 100 95 false (.int .gtr (.t 97) (.t 99))::
oo 101 (.pick (.t 95) (.c (Value.bool true)) (.t 100))::
om 102 101::
og 103 102 false (.Ai 1 (.t 8))::
og 104 102 false (.Af (.t 103))::
og 105 102 false (.int .gtr (.t 104) (.c (Value.int .i64 500)))::
oo 106 (.pick (.t 102) (.c (Value.bool true)) (.t 105))::
om 107 106::
og 108 107 false (.Ai 1 (.t 8))::
og 109 107 false (.Af (.t 108))::
og 110 107 false (.Ai 0 (.t 8))::
og 111 107 false (.Af (.t 110))::
og 112 107 false (.int .sub (.t 109) (.t 111))::
og 113 107 false (.int .gtr (.t 112) (.c (Value.int .i64 20)))::
oo 114 (.pick (.t 107) (.c (Value.bool true)) (.t 113))::[])) (.cond (.t 114) (.seq (.reg (
 oo 2 (.mv (.c (Value.int .i64 2)))::[])) .ret) .skip)) (.reg (
 om 115 5::
om 116 115::
og 117 116 false (.Ai 0 (.t 8))::
og 118 116 false (.Af (.t 117))::
og 119 116 false (.int .gtr (.t 118) z0)::
oo 120 (.pick (.t 116) (.c (Value.bool true)) (.t 119))::
om 5 120::[]))))) (.reg (
 om 82 7::
oo 83 (.int .add (.t 82) z1)::
om 7 83::[])))))))) (.reg (
 om 72 6::
oo 73 (.int .add (.t 72) z1)::
om 6 73::[]))))))) (.seq (.seq (.reg (
 om 121 5::
oo 122 (.not (.t 121))::[])) (.cond (.t 122) (.seq (.reg (
 oo 2 (.mv (.c (Value.int .i64 2)))::[])) .ret) .skip)) (.seq (.reg (
 oo 2 (.mv z0)::[])) .ret)))))))))
def r27:List ResultVar:=[.tmp 2]
theorem Aga:Cf Tryz.prog 27 123 1 a27 r27:=
  ⟨rfl,Tryz.f27,_,rfl,rfl,rfl,by decide,rfl,rfl,rfl⟩
noncomputable def a28:Ay:=(.seq (.reg (
 oo 2 (.box (.t 0) 85)::
oo 4 (.mv (.c (Value.slice none 0 0)))::[])) (.seq (.reg (
 oo 5 (.mv (.c (Value.slice none 0 0)))::[])) (.seq (.reg (
 oo 6 (.mv z0)::[])) (.seq (.seq (.reg (
 oo 7 (.mv z0)::[])) (.block 0 (.loop (.seq (.seq (.reg (
 om 12 7::
oo 13 (.Ai 2 (.t 2))::
oo 14 (.Af (.t 13))::
oo 15 (.len (.t 14))::
oo 16 (.int .lss (.t 12) (.t 15))::[])) (.cond (.t 16) .skip (.exit 0))) (.seq (.block 1 (.seq (.reg (
 oo 8 (.mv (.c (Value.slice none 0 0)))::[])) (.seq (.seq (.reg (
 oo 9 (.mv z0)::[])) (.block 2 (.loop (.seq (.seq (.reg (
 om 19 9::
oo 20 (.Ai 2 (.t 2))::
oo 21 (.Af (.t 20))::
om 22 7::
oo 23 (.Bb 1 (.t 21) (.t 22))::
oo 24 (.Af (.t 23))::
oo 25 (.len (.t 24))::
oo 26 (.int .lss (.t 19) (.t 25))::[])) (.cond (.t 26) .skip (.exit 2))) (.seq (.block 3 (.seq (.reg (
 oo 29 (.Ai 2 (.t 2))::
oo 30 (.Af (.t 29))::
om 31 7::
oo 32 (.Bb 1 (.t 30) (.t 31))::
oo 33 (.Af (.t 32))::
om 34 9::
oo 35 (.Bb 2 (.t 33) (.t 34))::
oo 36 (.Az 2 (.t 35))::
oo 10 (.alloc [k0,k0] 23)::
oz (.store 2 (.t 10) (.t 36))::[])) (.seq (.reg (
 oo 37 (.Ai 0 (.t 10))::
oo 38 (.Af (.t 37))::
om 11 38::[])) (.seq (.seq (.reg (
 om 39 1::
oo 40 (.len (.t 39))::
oo 41 (.int .gtr (.t 40) z0)::[])) (.cond (.t 41) (.BN (
 om 42 11::
om 43 1::
om 44 6::
om 45 1::
oo 46 (.len (.t 45))::
oo 47 (.EV false (.t 44) (.t 46))::
oo 48 (.Bb 1 (.t 43) (.t 47))::
oo 49 (.Af (.t 48))::
oo 50 (.conv .i64 (.t 49))::
oo 51 (.Ai 1 (.t 10))::
oo 52 (.Af (.t 51))::
oo 53 (.Ai 0 (.t 10))::
oo 54 (.Af (.t 53))::
oo 55 (.int .sub (.t 52) (.t 54))::
oo 56 (.int .add (.t 55) z1)::
oo 57 (.EV false (.t 50) (.t 56))::
oo 58 (.int .add (.t 42) (.t 57))::
om 11 58::[]) []) .skip)) (.seq (.reg (
 om 59 8::
om 60 11::
oo 61 (.BF [k0] [(0,1,(.t 60))] 1 2)::
oo 62 (.append 2 1 8 (.t 59) (.t 61))::
om 8 62::[])) (.reg (
 om 63 6::
oo 64 (.int .add (.t 63) z1)::
om 6 64::[]))))))) (.reg (
 om 27 9::
oo 28 (.int .add (.t 27) z1)::
om 9 28::[]))))))) (.reg (
 om 65 5::
om 66 8::
oo 67 (.BF [Value.slice none 0 0] [(0,1,(.t 66))] 1 37)::
oo 68 (.append 37 1 24 (.t 65) (.t 67))::
om 5 68::[]))))) (.reg (
 om 17 7::
oo 18 (.int .add (.t 17) z1)::
om 7 18::[]))))))) (.seq (.reg (
 om 69 5::
om 4 69::[])) .ret)))))
def r28:List ResultVar:=[.tmp 4]
theorem Af9:Cf Tryz.prog 28 70 2 a28 r28:=
  ⟨rfl,Tryz.f28,_,rfl,rfl,rfl,by decide,rfl,rfl,rfl⟩
noncomputable def a29:Ay:=(.seq (.reg (
 oo 2 (.box (.t 0) 85)::
oo 4 (.alloc [k0,k0] 57)::
oo 5 (.mv z0)::[])) (.seq (.seq (.reg (
 oo 7 (.Az 3 (.t 2))::
om 8 1::
oc 9 68 [(.t 7),(.t 8)]::
om 6 9::[])) (.seq (.reg (
 om 10 6::
oo 11 (.int .neq (.t 10) z0)::[])) (.cond (.t 11) (.seq (.reg (
 oo 12 (.build [k0,k0] [])::
om 13 6::
oz (.store 2 (.t 4) (.t 12))::
om 5 13::[])) .ret) .skip))) (.seq (.reg (
 oo 14 (.Az 3 (.t 2))::
om 15 1::
oc 16 69 [(.t 14),(.t 15)]::
oz (.store 2 (.t 4) (.t 16))::
oo 5 (.mv z0)::[])) .ret)))
def r29:List ResultVar:=[.cell 4 57,.tmp 5]
theorem Af8:Cf Tryz.prog 29 17 2 a29 r29:=
  ⟨rfl,Tryz.f29,_,rfl,rfl,rfl,by decide,rfl,rfl,rfl⟩
noncomputable def a30:Ay:=(.seq (.reg (
 oo 1 (.box (.t 0) 85)::
oo 2 (.alloc [k0,k0,k0,k0] 93)::
oo 3 (.mv z0)::[])) (.seq (.seq (.reg (
 oo 7 (.Az 3 (.t 1))::
oc 8 70 [(.t 7)]::
om 4 8::[])) (.seq (.reg (
 om 9 4::
oo 10 (.int .neq (.t 9) z0)::[])) (.cond (.t 10) (.seq (.reg (
 oo 11 (.build [k0,k0,k0,k0] [])::
om 12 4::
oz (.store 4 (.t 2) (.t 11))::
om 3 12::[])) .ret) .skip))) (.seq (.reg (
 oo 13 (.Az 3 (.t 1))::
oc 14 71 [(.t 13),(.c (Value.func (.func 72) #[] #[]))]::
om 5 14::[])) (.seq (.reg (
 oo 15 (.Az 3 (.t 1))::
oc 16 71 [(.t 15),(.c (Value.func (.func 73) #[] #[]))]::
om 6 16::[])) (.seq (.BN (
 oo 17 (.Az 3 (.t 1))::
om 18 5::
oc 19 69 [(.t 17),(.t 18)]::
oo 20 (.Az 3 (.t 1))::
om 21 6::
oc 22 69 [(.t 20),(.t 21)]::
oo 23 (.build [k0,k0,k0,k0] [(0,2,(.t 19)),(2,2,(.t 22))])::
oz (.store 4 (.t 2) (.t 23))::
oo 3 (.mv z0)::[]) []) .ret)))))
def r30:List ResultVar:=[.cell 2 93,.tmp 3]
theorem Af7:Cf Tryz.prog 30 24 1 a30 r30:=
  ⟨rfl,Tryz.f30,_,rfl,rfl,rfl,by decide,rfl,rfl,rfl⟩
noncomputable def a31:Ay:=(.seq (.reg (
 oo 2 (.box (.t 0) 31)::
oo 3 (.box (.t 1) 39)::
oo 4 (.mv z0)::[])) (.seq (.seq (.reg (
 oo 11 (.Az 5 (.t 2))::
oc 12 38 [(.t 11)]::
om 5 12::[])) (.seq (.reg (
 om 13 5::
oo 14 (.int .neq (.t 13) z0)::[])) (.cond (.t 14) (.seq (.reg (
 om 15 5::
om 4 15::[])) .ret) .skip))) (.seq (.block 0 (.seq (.reg (
 oo 17 (.Ai 0 (.t 3))::
oo 18 (.Af (.t 17))::
oo 19 (.len (.t 18))::
oo 20 (.Ai 0 (.t 2))::
oo 21 (.Af (.t 20))::
oo 22 (.int .neq (.t 19) (.t 21))::
om 23 22::
og 24 23 false (.Ai 1 (.t 3))::
og 25 23 false (.Af (.t 24))::
og 26 23 false (.len (.t 25))::
og 27 23 false (.Ai 1 (.t 2))::
og 28 23 false (.Af (.t 27))::
og 29 23 false (.int .neq (.t 26) (.t 28))::
oo 30 (.pick (.t 23) (.c (Value.bool true)) (.t 29))::
om 16 30::[])) (.cond (.t 16) (.seq (.reg (
 oo 4 (.mv (.c (Value.int .i64 15)))::[])) .ret) (.seq (.reg (
 oo 32 (.Ai 0 (.t 3))::
oo 33 (.Af (.t 32))::
oc 34 74 [(.c (Value.int .i64 1099511627776)),(.t 33)]::
oo 35 (.not (.t 34))::
om 36 35::
og 37 36 false (.Ai 1 (.t 3))::
og 38 36 false (.Af (.t 37))::
F6 39 36 false 74 [(.c (Value.int .i64 1099511627776)),(.t 38)]::
og 40 36 false (.not (.t 39))::
oo 41 (.pick (.t 36) (.c (Value.bool true)) (.t 40))::
om 31 41::[])) (.cond (.t 31) (.seq (.reg (
 oo 4 (.mv (.c (Value.int .i64 3)))::[])) .ret) .skip))))) (.seq (.reg (
 oo 6 (.mv (.c (Value.func (.func 75) #[] #[])))::[])) (.seq (.seq (.reg (
 oo 42 (.Ai 0 (.t 3))::
oo 43 (.Af (.t 42))::
oo 44 (.len (.t 43))::
oo 45 (.mv z0)::[])) (.block 1 (.loop (.seq (.reg (
 oo 46 (.int .lss (.t 45) (.t 44))::[])) (.seq (.cond (.t 46) .skip (.exit 1)) (.seq (.block 2 (.seq (.reg (
 oo 47 (.Bb 1 (.t 43) (.t 45))::
oo 48 (.Af (.t 47))::
om 8 48::[])) (.seq (.reg (
 om 49 6::
oo 50 (.Ai 2 (.t 2))::
oo 51 (.Az 2 (.t 50))::
om 52 8::
⟨(some 53),none,(.call (.t 49) [(.t 51),(.t 52)])⟩::
oo 54 (.not (.t 53))::[])) (.cond (.t 54) (.seq (.reg (
 oo 4 (.mv (.c (Value.int .i64 20)))::[])) .ret) .skip)))) (.reg (
 oo 55 (.int .add (.t 45) z1)::
om 45 55::[])))))))) (.seq (.seq (.reg (
 oo 56 (.Ai 4 (.t 2))::
oo 57 (.Af (.t 56))::
oo 58 (.len (.t 57))::
oo 59 (.mv z0)::[])) (.block 3 (.loop (.seq (.reg (
 oo 60 (.int .lss (.t 59) (.t 58))::[])) (.seq (.cond (.t 60) .skip (.exit 3)) (.seq (.block 4 (.seq (.reg (
 oo 61 (.Bb 4 (.t 57) (.t 59))::
oo 62 (.Az 4 (.t 61))::
oo 10 (.alloc [k0,k0,k0,k0] 33)::
oz (.store 4 (.t 10) (.t 62))::[])) (.seq (.seq (.BN (
 om 63 6::
oo 64 (.Ai 2 (.t 10))::
oo 65 (.Az 2 (.t 64))::
oo 66 (.Ai 0 (.t 3))::
oo 67 (.Af (.t 66))::
oo 68 (.Ai 0 (.t 10))::
oo 69 (.Af (.t 68))::
oo 70 (.Bb 1 (.t 67) (.t 69))::
oo 71 (.Af (.t 70))::
oo 72 (.Ai 1 (.t 3))::
oo 73 (.Af (.t 72))::
oo 74 (.Ai 1 (.t 10))::
oo 75 (.Af (.t 74))::
oo 76 (.Bb 1 (.t 73) (.t 75))::
oo 77 (.Af (.t 76))::
oo 78 (.int .add (.t 71) (.t 77))::[]) []) (.reg (
    ⟨(some 79),none,(.call (.t 63) [(.t 65),(.t 78)])⟩::
oo 80 (.not (.t 79))::[]))) (.cond (.t 80) (.seq (.reg (
 oo 4 (.mv (.c (Value.int .i64 20)))::[])) .ret) .skip)))) (.reg (
 oo 81 (.int .add (.t 59) z1)::
om 59 81::[])))))))) (.seq (.reg (
 oo 4 (.mv z0)::[])) .ret)))))))
def r31:List ResultVar:=[.tmp 4]
theorem Af6:Cf Tryz.prog 31 82 2 a31 r31:=
  ⟨rfl,Tryz.f31,_,rfl,rfl,rfl,by decide,rfl,rfl,rfl⟩
noncomputable def a32:Ay:=(.seq (.reg (
 oo 0 (.mv (.c (Value.bool false)))::[])) (.seq (.reg (
 oc 1 76 []::
om 2 1::
F6 3 2 true 77 []::
oo 4 (.pick (.t 2) (.t 3) (.c (Value.bool false)))::
om 5 4::
F6 6 5 true 78 []::
oo 7 (.pick (.t 5) (.t 6) (.c (Value.bool false)))::
om 0 7::[])) .ret))
def r32:List ResultVar:=[.tmp 0]
theorem Af5:Cf Tryz.prog 32 8 0 a32 r32:=
  ⟨rfl,Tryz.f32,_,rfl,rfl,rfl,by decide,rfl,rfl,rfl⟩
noncomputable def a35:Ay:=(.seq (.reg (
 oo 2 (.mv (.c (Value.bool false)))::[])) (.seq (.reg (
 om 3 0::
oo 4 (.int .geq (.t 3) (.c (Value.int .i64 (-20))))::
om 5 4::
og 6 5 true (.mv (.t 0))::
og 7 5 true (.int .leq (.t 6) (.c (Value.int .i64 20)))::
oo 8 (.pick (.t 5) (.t 7) (.c (Value.bool false)))::
om 2 8::[])) .ret))
def r35:List ResultVar:=[.tmp 2]
theorem Af4:Cf Tryz.prog 35 9 1 a35 r35:=
  ⟨rfl,Tryz.f35,_,rfl,rfl,rfl,by decide,rfl,rfl,rfl⟩
noncomputable def a36:Ay:=(.seq (.reg (
 oo 1 (.box (.t 0) 23)::
oo 2 (.mv (.c (Value.bool false)))::[])) (.seq (.reg (
 oo 3 (.Ai 0 (.t 1))::
oo 4 (.Af (.t 3))::
oo 5 (.int .geq (.t 4) (.c (Value.int .i64 (-100000))))::
om 6 5::
og 7 6 true (.Ai 0 (.t 1))::
og 8 6 true (.Af (.t 7))::
og 9 6 true (.Ai 1 (.t 1))::
og 10 6 true (.Af (.t 9))::
og 11 6 true (.int .leq (.t 8) (.t 10))::
oo 12 (.pick (.t 6) (.t 11) (.c (Value.bool false)))::
om 13 12::
og 14 13 true (.Ai 1 (.t 1))::
og 15 13 true (.Af (.t 14))::
og 16 13 true (.int .leq (.t 15) (.c (Value.int .i64 100000)))::
oo 17 (.pick (.t 13) (.t 16) (.c (Value.bool false)))::
om 2 17::[])) .ret))
def r36:List ResultVar:=[.tmp 2]
theorem Af3:Cf Tryz.prog 36 18 1 a36 r36:=
  ⟨rfl,Tryz.f36,_,rfl,rfl,rfl,by decide,rfl,rfl,rfl⟩
noncomputable def a37:Ay:=(.seq (.reg (
 oo 1 (.box (.t 0) 23)::
oo 2 (.mv (.c (Value.bool false)))::[])) (.seq (.reg (
 oo 3 (.Ai 0 (.t 1))::
oo 4 (.Af (.t 3))::
oo 5 (.int .geq (.t 4) (.c (Value.int .i64 (-1000000))))::
om 6 5::
og 7 6 true (.Ai 0 (.t 1))::
og 8 6 true (.Af (.t 7))::
og 9 6 true (.Ai 1 (.t 1))::
og 10 6 true (.Af (.t 9))::
og 11 6 true (.int .leq (.t 8) (.t 10))::
oo 12 (.pick (.t 6) (.t 11) (.c (Value.bool false)))::
om 13 12::
og 14 13 true (.Ai 1 (.t 1))::
og 15 13 true (.Af (.t 14))::
og 16 13 true (.int .leq (.t 15) (.c (Value.int .i64 1000000)))::
oo 17 (.pick (.t 13) (.t 16) (.c (Value.bool false)))::
om 2 17::[])) .ret))
def r37:List ResultVar:=[.tmp 2]
theorem Af2:Cf Tryz.prog 37 18 1 a37 r37:=
  ⟨rfl,Tryz.f37,_,rfl,rfl,rfl,by decide,rfl,rfl,rfl⟩
noncomputable def a38:Ay:=(.seq (.reg (
 oo 1 (.box (.t 0) 31)::
oo 2 (.mv z0)::[])) (.seq (.reg (
 oo 3 (.alloc [Value.nilFunc] 178)::
oz (.store 1 (.t 3) (.c (Value.func (.func 96) #[] #[])))::[])) (.seq (.block 0 (.seq (.reg (
 oo 5 (.Ai 4 (.t 1))::
oo 6 (.Af (.t 5))::
oo 7 (.len (.t 6))::
oo 8 (.int .gtr (.t 7) (.c (Value.int .i64 24)))::
om 4 8::[])) (.cond (.t 4) (.seq (.reg (
 oo 2 (.mv (.c (Value.int .i64 6)))::[])) .ret) (.seq (.reg (
 oo 10 (.Ai 0 (.t 1))::
oo 11 (.Af (.t 10))::
oo 12 (.int .lss (.t 11) z1)::
om 13 12::
og 14 13 false (.Ai 0 (.t 1))::
og 15 13 false (.Af (.t 14))::
og 16 13 false (.int .gtr (.t 15) (.c (Value.int .i64 6)))::
oo 17 (.pick (.t 13) (.c (Value.bool true)) (.t 16))::
om 18 17::
og 19 18 false (.Ai 1 (.t 1))::
og 20 18 false (.Af (.t 19))::
og 21 18 false (.int .lss (.t 20) z1)::
oo 22 (.pick (.t 18) (.c (Value.bool true)) (.t 21))::
om 23 22::
og 24 23 false (.Ai 1 (.t 1))::
og 25 23 false (.Af (.t 24))::
og 26 23 false (.int .gtr (.t 25) (.c (Value.int .i64 6)))::
oo 27 (.pick (.t 23) (.c (Value.bool true)) (.t 26))::
om 28 27::
og 29 28 false (.Ai 2 (.t 1))::
og 30 28 false (.Az 2 (.t 29))::
F6 31 28 false 97 [(.t 30)]::
og 32 28 false (.not (.t 31))::
oo 33 (.pick (.t 28) (.c (Value.bool true)) (.t 32))::
om 9 33::[])) (.cond (.t 9) (.seq (.reg (
 oo 2 (.mv (.c (Value.int .i64 2)))::[])) .ret) (.seq (.reg (
 oo 35 (.Ai 4 (.t 1))::
oo 36 (.Af (.t 35))::
oo 37 (.Hf (Fn.func 99) [] [(.t 3),(.t 1)])::
oc 38 98 [(.t 36),(.t 37)]::
om 34 38::[])) (.cond (.t 34) (.seq (.reg (
 oo 2 (.mv (.c (Value.int .i64 3)))::[])) .ret) (.seq (.reg (
 oo 40 (.Ai 4 (.t 1))::
oo 41 (.Af (.t 40))::
oc 42 98 [(.t 41),(.c (Value.func (.func 100) #[] #[]))]::
om 39 42::[])) (.cond (.t 39) (.seq (.reg (
 oo 2 (.mv (.c (Value.int .i64 2)))::[])) .ret) .skip))))))))) (.seq (.reg (
 oo 2 (.mv z0)::[])) .ret))))
def r38:List ResultVar:=[.tmp 2]
theorem Af1:Cf Tryz.prog 38 43 1 a38 r38:=
  ⟨rfl,Tryz.f38,_,rfl,rfl,rfl,by decide,rfl,rfl,rfl⟩
noncomputable def a39:Ay:=(.seq (.reg (
 oo 1 (.box (.t 0) 31)::
oo 2 (.mv (.c (Value.pointer none)))::[])) (.seq (.reg (
 oo 9 (.Az 5 (.t 1))::
oo 10 (.Ai 0 (.t 1))::
oo 11 (.Af (.t 10))::
oo 12 (.int .add z1 (.t 11))::
oo 13 (.Ai 1 (.t 1))::
oo 14 (.Af (.t 13))::
oo 15 (.int .add (.t 12) (.t 14))::
oo 16 (.build [k0,k0,k0,k0,Value.slice none 0 0,k0,Value.bool false,k0,Value.bool false,k0,Value.bool false,k0,Value.bool false,k0,Value.bool false,k0,Value.bool false,k0,Value.bool false,k0,Value.bool false,k0,Value.bool false,k0,Value.bool false,k0,Value.bool false,k0,Value.bool false,k0,Value.bool false,k0,Value.bool false,k0,Value.bool false,k0,Value.bool false,k0,Value.bool false,k0,Value.bool false,k0,Value.bool false,k0,Value.bool false,k0,Value.bool false,k0,Value.bool false,k0,Value.bool false,k0,Value.bool false,k0,Value.bool false,k0,Value.bool false,k0,Value.bool false,k0,Value.bool false,k0,Value.bool false,k0,Value.bool false,k0,Value.bool false,k0,Value.bool false,k0,Value.bool false,k0,Value.bool false,k0,Value.bool false,k0,Value.bool false,k0,Value.bool false,k0,Value.bool false,k0,Value.bool false,k0,Value.bool false,k0,Value.bool false,k0,Value.bool false,k0,Value.bool false,k0,Value.bool false,k0,Value.bool false,k0,Value.bool false,k0,Value.bool false,k0,Value.bool false,k0,Value.bool false,k0,Value.bool false,k0,Value.bool false,k0,Value.bool false,k0,Value.bool false,k0,Value.bool false,k0,Value.bool false,k0,Value.bool false,k0,Value.bool false,k0,Value.bool false,k0,Value.bool false,k0,Value.bool false,k0,Value.bool false,k0,Value.bool false,k0,Value.bool false,k0,Value.bool false,k0,Value.bool false,k0,Value.bool false,k0,Value.bool false,k0,Value.bool false,k0,Value.bool false,k0,Value.bool false,k0,Value.bool false,k0,Value.bool false,k0,Value.bool false,k0,Value.bool false,k0,Value.bool false,k0,Value.bool false,k0,Value.bool false,k0,Value.bool false,k0,Value.bool false,k0,Value.bool false,k0,Value.bool false,k0,Value.bool false,k0,Value.bool false,k0,Value.bool false,k0,Value.bool false,k0,Value.bool false,k0,Value.bool false,k0,Value.bool false,k0,Value.bool false,k0,Value.bool false,k0,Value.bool false,k0,Value.bool false,k0,Value.bool false,k0,Value.bool false,k0,Value.bool false,k0,Value.bool false,k0,Value.bool false,k0,Value.bool false,k0,Value.bool false,k0,Value.bool false,k0,Value.bool false,k0,Value.bool false,k0,Value.bool false,k0,Value.bool false,k0,Value.bool false,k0,Value.bool false,k0,Value.bool false,k0,Value.bool false,k0,Value.bool false,k0,Value.bool false,k0,Value.bool false,k0,Value.bool false,k0,Value.bool false,k0,Value.bool false,k0,Value.bool false,k0,Value.bool false,k0,Value.bool false,k0,Value.bool false,k0,Value.bool false,k0,Value.bool false,k0,Value.bool false,k0,Value.bool false,k0,Value.bool false,k0,Value.bool false,k0,Value.bool false,k0,Value.bool false,k0,Value.bool false,k0,Value.bool false,k0,Value.bool false,k0,Value.bool false,k0,Value.bool false,k0,Value.bool false,k0,Value.bool false,k0,Value.bool false,k0,Value.bool false,k0,Value.bool false,k0,Value.bool false,k0,Value.bool false,k0,Value.bool false,k0,Value.bool false,k0,Value.bool false,k0,Value.bool false,k0,Value.bool false,k0,Value.bool false,k0,Value.bool false,k0,Value.bool false,k0,Value.bool false,k0,Value.bool false,k0,Value.bool false,k0,Value.bool false,k0,Value.bool false,k0,Value.bool false,k0,Value.bool false,k0,Value.bool false,k0,Value.bool false,k0,Value.bool false,k0,Value.bool false,k0,Value.bool false,k0,Value.bool false,k0,Value.bool false,k0,Value.bool false,k0,Value.bool false,k0,Value.bool false,k0,Value.bool false,k0,Value.bool false,k0,Value.bool false,k0,Value.bool false,k0,Value.bool false,k0,Value.bool false,k0] [(0,5,(.t 9)),(5,1,(.t 15))])::
oo 17 (.box (.t 16) 187)::
om 3 17::[])) (.seq (.seq (.reg (
 om 18 3::
oo 19 (.BP (.t 18))::
oo 20 (.Ai 0 (.t 19))::
oo 21 (.Ai 0 (.t 20))::
oo 22 (.Af (.t 21))::
oo 23 (.mv z0)::[])) (.block 0 (.loop (.seq (.reg (
 oo 24 (.int .lss (.t 23) (.t 22))::[])) (.seq (.cond (.t 24) .skip (.exit 0)) (.seq (.block 1 (.seq (.reg (
 om 25 23::
om 4 25::[])) (.seq (.reg (
 om 26 3::
om 27 4::
oo 28 (.int .add z1 (.t 27))::
om 29 3::
oo 30 (.BP (.t 29))::
oo 31 (.Ai 0 (.t 30))::
oo 32 (.Ai 2 (.t 31))::
oo 33 (.Ai 1 (.t 32))::
oo 34 (.Af (.t 33))::
oc 35 101 [(.t 26),z0,(.t 28),(.t 34)]::[])) (.reg (
 om 36 3::
om 37 4::
oo 38 (.int .add z1 (.t 37))::
om 39 3::
oo 40 (.BP (.t 39))::
oo 41 (.Ai 0 (.t 40))::
oo 42 (.Ai 2 (.t 41))::
oo 43 (.Ai 0 (.t 42))::
oo 44 (.Af (.t 43))::
oo 45 (.neg (.t 44))::
oc 46 101 [(.t 36),(.t 38),z0,(.t 45)]::[]))))) (.reg (
 oo 47 (.int .add (.t 23) z1)::
om 23 47::[])))))))) (.seq (.seq (.reg (
 om 48 3::
oo 49 (.BP (.t 48))::
oo 50 (.Ai 0 (.t 49))::
oo 51 (.Ai 4 (.t 50))::
oo 52 (.Af (.t 51))::
oo 53 (.len (.t 52))::
oo 54 (.mv z0)::[])) (.block 2 (.loop (.seq (.reg (
 oo 55 (.int .lss (.t 54) (.t 53))::[])) (.seq (.cond (.t 55) .skip (.exit 2)) (.seq (.block 3 (.seq (.reg (
 oo 56 (.Bb 4 (.t 52) (.t 54))::
oo 57 (.Az 4 (.t 56))::
oo 6 (.alloc [k0,k0,k0,k0] 33)::
oz (.store 4 (.t 6) (.t 57))::[])) (.seq (.BN (
 oo 58 (.Ai 0 (.t 6))::
oo 59 (.Af (.t 58))::
oo 60 (.int .add z1 (.t 59))::
oo 61 (.Ai 0 (.t 1))::
oo 62 (.Af (.t 61))::
oo 63 (.int .add z1 (.t 62))::
oo 64 (.Ai 1 (.t 6))::
oo 65 (.Af (.t 64))::
oo 66 (.int .add (.t 63) (.t 65))::
om 7 60::
om 8 66::[]) []) (.seq (.reg (
 om 67 3::
om 68 8::
om 69 7::
oo 70 (.Ai 2 (.t 6))::
oo 71 (.Ai 1 (.t 70))::
oo 72 (.Af (.t 71))::
oc 73 101 [(.t 67),(.t 68),(.t 69),(.t 72)]::[])) (.reg (
 om 74 3::
om 75 7::
om 76 8::
oo 77 (.Ai 2 (.t 6))::
oo 78 (.Ai 0 (.t 77))::
oo 79 (.Af (.t 78))::
oo 80 (.neg (.t 79))::
oc 81 101 [(.t 74),(.t 75),(.t 76),(.t 80)]::[])))))) (.reg (
 oo 82 (.int .add (.t 54) z1)::
om 54 82::[])))))))) (.seq (.reg (
 om 83 3::
om 2 83::[])) .ret)))))
def r39:List ResultVar:=[.tmp 2]
theorem Af0:Cf Tryz.prog 39 84 1 a39 r39:=
  ⟨rfl,Tryz.f39,_,rfl,rfl,rfl,by decide,rfl,rfl,rfl⟩
noncomputable def a40:Ay:=(.seq (.reg (
 oo 2 (.mv (.c (Value.pointer none)))::
oo 3 (.mv (.c (Value.bool false)))::[])) (.seq (.reg (
 om 4 0::
oc 5 102 [(.t 4),z0]::
oo 6 (.extract (.t 5) 0)::
oo 7 (.extract (.t 5) 1)::
om 2 6::
om 3 7::[])) .ret))
def r40:List ResultVar:=[.tmp 2,.tmp 3]
theorem Afz:Cf Tryz.prog 40 8 1 a40 r40:=
  ⟨rfl,Tryz.f40,_,rfl,rfl,rfl,by decide,rfl,rfl,rfl⟩
noncomputable def a41:Ay:=(.seq (.reg (
 oo 4 (.alloc [Value.slice none 0 0,Value.slice none 0 0] 39)::[])) (.seq (.reg (
 om 10 0::
oo 11 (.BP (.t 10))::
oo 12 (.Ai 0 (.t 11))::
oo 13 (.Af (.t 12))::
oo 14 (.BP (.t 13))::
oo 15 (.Ai 5 (.t 14))::
oo 16 (.Af (.t 15))::
oo 17 (.FP [k0] 8 2 (.t 16) (.t 16))::
om 5 17::[])) (.seq (.seq (.reg (
 om 18 5::
oo 19 (.len (.t 18))::
oo 20 (.mv z0)::[])) (.block 0 (.loop (.seq (.reg (
 oo 21 (.int .lss (.t 20) (.t 19))::[])) (.seq (.cond (.t 21) .skip (.exit 0)) (.seq (.block 1 (.seq (.reg (
 om 22 20::
om 6 22::[])) (.reg (
 om 23 5::
om 24 6::
om 25 1::
om 26 0::
om 27 6::
oc 28 103 [(.t 26),(.t 27)]::
oo 29 (.int .mul (.t 25) (.t 28))::
oo 30 (.Bb 1 (.t 23) (.t 24))::
oz (.store 1 (.t 30) (.t 29))::[])))) (.reg (
 oo 31 (.int .add (.t 20) z1)::
om 20 31::[])))))))) (.seq (.reg (
 om 32 0::
oo 33 (.BP (.t 32))::
oo 34 (.Ai 0 (.t 33))::
oo 35 (.Af (.t 34))::
oo 36 (.BP (.t 35))::
oo 37 (.Ai 0 (.t 36))::
oo 38 (.Ai 0 (.t 37))::
oo 39 (.Af (.t 38))::
oo 40 (.FP [k0] 8 2 (.t 39) (.t 39))::
oo 41 (.build [Value.slice none 0 0,Value.slice none 0 0] [(0,1,(.t 40))])::
oo 7 (.alloc [Value.slice none 0 0,Value.slice none 0 0] 39)::
oz (.store 2 (.t 7) (.t 41))::[])) (.seq (.BN (
 oo 42 (.Ai 0 (.t 7))::
oo 43 (.Af (.t 42))::
om 44 5::
oo 45 (.HL 1 (.t 44) (some z1) none none)::
oo 46 (.copy 1 (.t 43) (.t 45))::[]) []) (.seq (.seq (.reg (
 om 47 5::
om 48 0::
oo 49 (.BP (.t 48))::
oo 50 (.Ai 0 (.t 49))::
oo 51 (.Af (.t 50))::
oo 52 (.BP (.t 51))::
oo 53 (.Ai 0 (.t 52))::
oo 54 (.Ai 0 (.t 53))::
oo 55 (.Af (.t 54))::
oo 56 (.int .add z1 (.t 55))::
oo 57 (.HL 1 (.t 47) (some (.t 56)) none none)::
oo 58 (.len (.t 57))::
oo 59 (.mv z0)::[])) (.block 2 (.loop (.seq (.reg (
 oo 60 (.int .lss (.t 59) (.t 58))::[])) (.seq (.cond (.t 60) .skip (.exit 2)) (.seq (.block 3 (.seq (.reg (
 oo 61 (.Bb 1 (.t 57) (.t 59))::
oo 62 (.Af (.t 61))::
om 9 62::[])) (.reg (
 oo 63 (.Ai 1 (.t 7))::
oo 64 (.Af (.t 63))::
om 65 9::
oo 66 (.neg (.t 65))::
oo 67 (.BF [k0] [(0,1,(.t 66))] 1 2)::
oo 68 (.append 2 1 8 (.t 64) (.t 67))::
oo 69 (.Ai 1 (.t 7))::
oz (.store 1 (.t 69) (.t 68))::[])))) (.reg (
 oo 70 (.int .add (.t 59) z1)::
om 59 70::[])))))))) (.seq (.reg (
 oo 71 (.Az 2 (.t 7))::
oz (.store 2 (.t 4) (.t 71))::[])) .ret)))))))
def r41:List ResultVar:=[.cell 4 39]
theorem Afy:Cf Tryz.prog 41 72 2 a41 r41:=
  ⟨rfl,Tryz.f41,_,rfl,rfl,rfl,by decide,rfl,rfl,rfl⟩
noncomputable def gD:Ay:=(.reg (
 oo 11 (.alloc [k0,k0,k0] 43)::
oz (.store 3 (.t 11) (.t 28))::[]))
noncomputable def gy:Ay:=(.block 1 (.seq (.BN (
 oo 29 (.Af (.t 3))::
oo 30 (.Az 3 (.t 11))::
oc 31 18 [(.t 29),(.t 30)]::
oo 32 (.int .eql (.t 31) z0)::
om 33 32::
og 34 33 true (.Af (.t 4))::
og 35 33 true (.Ai 0 (.t 11))::
og 36 33 true (.Af (.t 35))::
og 37 33 true (.int .mul (.t 34) (.t 36))::
og 38 33 true (.Af (.t 5))::
og 39 33 true (.Ai 1 (.t 11))::
og 40 33 true (.Af (.t 39))::
og 41 33 true (.int .mul (.t 38) (.t 40))::
og 42 33 true (.int .add (.t 37) (.t 41))::
og 43 33 true (.Ai 2 (.t 11))::
og 44 33 true (.Af (.t 43))::
F6 45 33 true 105 [(.t 42),(.t 44)]::
og 46 33 true (.Az 2 (.t 10))::
og 47 33 true (.pure (Fa Tryz.f42 7 18))::
oo 48 (.pick (.t 33) (.t 47) (.c (Value.bool false)))::[]) []) (.cond (.t 48) (.seq (.reg (
 oo 49 (.Az 3 (.t 11))::
oz (.store 3 (.t 6) (.t 49))::
oz (.store 1 (.t 7) z0)::[])) .ret) .skip)))
theorem Ag8:ET Tryz.prog 51 false (He Tryz.f42 0).1=some gD:=rfl
theorem Ag7:ET Tryz.prog 51 false (He Tryz.f42 0).2=some gy:=rfl
noncomputable def a42:Ay:=(.seq (.reg (
 oo 3 (.box (.t 0) 28)::
oo 4 (.box (.t 1) 2)::
oo 5 (.box (.t 2) 2)::
oo 6 (.alloc [k0,k0,k0] 43)::
oo 7 (.alloc [k0] 34)::[])) (.seq (.reg (
 oo 13 (.Af (.t 3))::
oo 14 (.Af (.t 4))::
oo 15 (.Af (.t 5))::
oc 16 57 [(.t 13),(.t 14),(.t 15)]::
om 12 16::
oo 17 (.extract (.t 12) 0)::
oo 18 (.extract (.t 12) 1)::
oo 8 (.alloc [Value.map none,k0,k0,k0,k0] 111)::
oz (.store 5 (.t 8) (.t 17))::
om 9 18::[])) (.seq (.seq (.reg (
 om 19 9::
oo 20 (.int .neq (.t 19) z0)::[])) (.cond (.t 20) (.seq (.reg (
 oo 21 (.build [k0,k0,k0] [])::
om 22 9::
oz (.store 3 (.t 6) (.t 21))::
oz (.store 1 (.t 7) (.t 22))::[])) .ret) .skip)) (.seq (.reg (
 oo 23 (.Az 5 (.t 8))::
oc 24 58 [(.t 23)]::
oo 10 (.alloc [k0,k0] 57)::
oz (.store 2 (.t 10) (.t 24))::[])) (.seq (.seq (.reg (
 oo 25 (.Af (.t 3))::
oc 26 45 [(.t 25)]::
oc 27 104 [(.t 26)]::[])) (.block 0 (.range (.t 27) [28] 51 (He Tryz.f42 0).1 (He Tryz.f42 0).2 gD gy))) (.seq (.reg (
 oo 50 (.build [k0,k0,k0] [])::
oz (.store 3 (.t 6) (.t 50))::
oz (.store 1 (.t 7) (.c (Value.int .i64 20)))::[])) .ret))))))
def r42:List ResultVar:=[.cell 6 43,.cell 7 34]
theorem vW:Cf Tryz.prog 42 51 3 a42 r42:=
  ⟨rfl,Tryz.f42,_,rfl,rfl,rfl,by decide,rfl,rfl,rfl⟩
noncomputable def a43:Ay:=(.seq (.reg (
 oo 2 (.mv (.c (Value.slice none 0 0)))::[])) (.seq (.reg (
 om 9 0::
oo 10 (.BP (.t 9))::
oo 11 (.Ai 27 (.t 10))::
oo 12 (.Af (.t 11))::
oc 13 106 [(.t 12)]::
om 3 13::[])) (.seq (.reg (
 om 14 0::
oo 15 (.BP (.t 14))::
oo 16 (.Ai 28 (.t 15))::
oo 17 (.Af (.t 16))::
om 4 17::[])) (.seq .skip (.seq (.block 0 (.loop (.block 1 (.seq (.reg (
 om 19 3::
om 20 4::
oo 21 (.lookup 3 (k0) true (.t 19) (.t 20))::
om 18 21::
oo 22 (.extract (.t 18) 0)::
oo 23 (.extract (.t 18) 1)::
om 5 22::
om 6 23::[])) (.seq (.seq (.reg (
 om 24 6::
oo 25 (.not (.t 24))::[])) (.cond (.t 25) (.exit 0) .skip)) (.seq (.reg (
 om 26 3::
om 27 4::
oz (.delete 3 (.t 26) (.t 27))::[])) (.reg (
 om 28 5::
om 4 28::[])))))))) (.seq (.reg (
 om 29 4::
oo 30 (.BF [k0] [(0,1,(.t 29))] 1 3)::
om 7 30::[])) (.seq (.seq (.reg (
 om 31 0::
oo 32 (.BP (.t 31))::
oo 33 (.Ai 27 (.t 32))::
oo 34 (.Af (.t 33))::
om 35 4::
oo 36 (.lookup 3 (k0) false (.t 34) (.t 35))::
om 8 36::[])) (.block 2 (.loop (.seq (.seq (.reg (
 om 37 8::
om 38 4::
oo 39 (.int .neq (.t 37) (.t 38))::[])) (.cond (.t 39) .skip (.exit 2))) (.seq (.block 3 (.reg (
 om 46 7::
om 47 8::
oo 48 (.BF [k0] [(0,1,(.t 47))] 1 3)::
oo 49 (.append 3 1 8 (.t 46) (.t 48))::
om 7 49::[]))) (.reg (
 om 40 0::
oo 41 (.BP (.t 40))::
oo 42 (.Ai 27 (.t 41))::
oo 43 (.Af (.t 42))::
om 44 8::
oo 45 (.lookup 3 (k0) false (.t 43) (.t 44))::
om 8 45::[]))))))) (.seq (.reg (
 om 50 7::
om 51 4::
oo 52 (.BF [k0] [(0,1,(.t 51))] 1 3)::
oo 53 (.append 3 1 8 (.t 50) (.t 52))::
om 7 53::[])) (.seq (.reg (
 om 54 7::
oc 55 107 [(.t 54)]::[])) (.seq (.reg (
 om 56 7::
om 2 56::[])) .ret))))))))))
def r43:List ResultVar:=[.tmp 2]
theorem Afx:Cf Tryz.prog 43 57 1 a43 r43:=
  ⟨rfl,Tryz.f43,_,rfl,rfl,rfl,by decide,rfl,rfl,rfl⟩
noncomputable def a44:Ay:=(.seq (.reg (
 oo 2 (.mv z0)::[])) (.seq (.block 0 (.seq (.reg (
 om 4 0::
oo 5 (.len (.t 4))::
oo 6 (.int .gtr (.t 5) (.c (Value.int .i64 12)))::
om 3 6::[])) (.cond (.t 3) (.seq (.reg (
 oo 2 (.mv (.c (Value.int .i64 6)))::[])) .ret) (.seq (.reg (
 om 8 0::
oc 9 108 [(.t 8),(.c (Value.func (.func 109) #[] #[]))]::
om 7 9::[])) (.cond (.t 7) (.seq (.reg (
 oo 2 (.mv (.c (Value.int .i64 2)))::[])) .ret) .skip))))) (.seq (.reg (
 oo 2 (.mv z0)::[])) .ret)))
def r44:List ResultVar:=[.tmp 2]
theorem Afw:Cf Tryz.prog 44 10 1 a44 r44:=
  ⟨rfl,Tryz.f44,_,rfl,rfl,rfl,by decide,rfl,rfl,rfl⟩
noncomputable def a45:Ay:=(.seq (.reg (
 oo 2 (.mv (.c (Value.pointer none)))::[])) (.seq (.reg (
 oo 7 (.build [Value.slice none 0 0,Value.slice none 0 0] [])::
oo 8 (.box (.t 7) 205)::
om 3 8::[])) (.seq (.seq (.reg (
 om 9 0::
oo 10 (.len (.t 9))::
oo 11 (.mv z0)::[])) (.block 0 (.loop (.seq (.reg (
 oo 12 (.int .lss (.t 11) (.t 10))::[])) (.seq (.cond (.t 12) .skip (.exit 0)) (.seq (.block 1 (.seq (.reg (
 oo 13 (.Bb 4 (.t 9) (.t 11))::
oo 14 (.Az 4 (.t 13))::
oo 5 (.alloc [k0,k0,k0,k0] 27)::
oz (.store 4 (.t 5) (.t 14))::[])) (.seq (.reg (
 oo 15 (.Az 4 (.t 5))::
oc 16 111 [(.t 15)]::
oo 6 (.alloc [k0,k0,k0,k0,k0,k0,k0,k0,k0,k0] 207)::
oz (.store 10 (.t 6) (.t 16))::[])) (.seq (.BN (
 om 17 3::
om 18 3::
oo 19 (.BP (.t 18))::
oo 20 (.Ai 0 (.t 19))::
oo 21 (.Af (.t 20))::
oo 22 (.Az 10 (.t 6))::
oo 23 (.BF [k0,k0,k0,k0,k0,k0,k0,k0,k0,k0] [(0,10,(.t 22))] 1 207)::
oo 24 (.append 207 10 80 (.t 21) (.t 23))::
oo 25 (.BP (.t 17))::
oo 26 (.Ai 0 (.t 25))::
oz (.store 1 (.t 26) (.t 24))::[]) []) (.BN (
 om 27 3::
om 28 3::
oo 29 (.BP (.t 28))::
oo 30 (.Ai 1 (.t 29))::
oo 31 (.Af (.t 30))::
oo 32 (.Ai 4 (.t 6))::
oo 33 (.Az 3 (.t 32))::
oo 34 (.Ai 7 (.t 6))::
oo 35 (.Az 3 (.t 34))::
oo 36 (.BF [k0,k0,k0,k0,k0,k0] [(0,3,(.t 33)),(3,3,(.t 35))] 2 109)::
oo 37 (.append 109 3 24 (.t 31) (.t 36))::
oo 38 (.BP (.t 27))::
oo 39 (.Ai 1 (.t 38))::
oz (.store 1 (.t 39) (.t 37))::[]) []))))) (.reg (
 oo 40 (.int .add (.t 11) z1)::
om 11 40::[])))))))) (.seq (.reg (
 om 41 3::
om 2 41::[])) .ret))))
def r45:List ResultVar:=[.tmp 2]
theorem Afv:Cf Tryz.prog 45 42 1 a45 r45:=
  ⟨rfl,Tryz.f45,_,rfl,rfl,rfl,by decide,rfl,rfl,rfl⟩
noncomputable def gu:Ay:=(.reg (
 om 6 10::[]))
noncomputable def gk:Ay:=(.block 1 (.seq (.reg (
 oo 11 (.Af (.t 1))::
om 12 6::
oc 13 113 [(.t 11),(.t 12)]::
oo 7 (.alloc [Value.map none,k0,k0,k0,k0] 111)::
oz (.store 5 (.t 7) (.t 13))::[])) (.seq (.reg (
 oo 14 (.Ai 4 (.t 7))::
oo 15 (.Af (.t 14))::
oo 16 (.int .eql (.t 15) z1)::
om 17 16::
og 18 17 true (.Ai 1 (.t 7))::
og 19 17 true (.Az 3 (.t 18))::
F6 20 17 true 114 [(.t 19)]::
og 21 17 true (.build [k0,k0,k0] [])::
og 22 17 true (.pure (Fa Tryz.f46 6 8))::
oo 23 (.pick (.t 17) (.t 22) (.c (Value.bool false)))::
om 24 23::
og 25 24 true (.Ai 1 (.t 7))::
og 26 24 true (.Cc 3 1 (.t 25) (.c (Value.int .i64 2)))::
og 27 24 true (.Af (.t 26))::
og 28 24 true (.int .gtr (.t 27) z0)::
oo 29 (.pick (.t 24) (.t 28) (.c (Value.bool false)))::[])) (.cond (.t 29) (.seq (.reg (
 oo 30 (.Az 5 (.t 7))::
oz (.store 5 (.t 4) (.t 30))::
oz (.store 1 (.t 5) (.c (Value.bool true)))::[])) (.exit 0)) .skip))))
theorem Ag6:ET Tryz.prog 33 false (He Tryz.f46 0).1=some gu:=rfl
theorem Ag5:ET Tryz.prog 33 false (He Tryz.f46 0).2=some gk:=rfl
noncomputable def a46:Ay:=(.seq (.reg (
 oo 1 (.box (.t 0) 113)::
oo 2 (.alloc [Value.map none,k0,k0,k0,k0] 111)::
oo 3 (.mv (.c (Value.bool false)))::[])) (.seq (.reg (
 oo 4 (.alloc [Value.map none,k0,k0,k0,k0] 111)::[])) (.seq (.reg (
 oo 5 (.alloc [Value.bool false] 4)::
oz (.store 1 (.t 5) (.c (Value.bool false)))::[])) (.seq .skip (.seq (.seq (.reg (
 oo 8 (.Af (.t 1))::
oc 9 112 [(.t 8),(.c (Value.int .i64 3))]::[])) (.block 0 (.range (.t 9) [10] 33 (He Tryz.f46 0).1 (He Tryz.f46 0).2 gu gk))) (.seq (.BN (
 oo 31 (.Az 5 (.t 4))::
oo 32 (.Af (.t 5))::
oz (.store 5 (.t 2) (.t 31))::
om 3 32::[]) [((.t 5),(.t 2))]) .ret))))))
def r46:List ResultVar:=[.cell 2 111,.tmp 3]
theorem vV:Cf Tryz.prog 46 33 1 a46 r46:=
  ⟨rfl,Tryz.f46,_,rfl,rfl,rfl,by decide,rfl,rfl,rfl⟩
noncomputable def a47:Ay:=(.seq (.reg (
 oo 1 (.box (.t 0) 111)::
oo 2 (.alloc [Value.slice none 0 0,k0] 51)::[])) (.seq (.reg (
 oo 10 (.Ai 4 (.t 1))::
oo 11 (.Af (.t 10))::
oo 12 (.build [Value.slice none 0 0,k0] [(1,1,(.t 11))])::
oo 3 (.alloc [Value.slice none 0 0,k0] 51)::
oz (.store 2 (.t 3) (.t 12))::[])) (.seq (.seq (.reg (
 oo 13 (.Ai 0 (.t 1))::
oo 14 (.Af (.t 13))::
oo 15 (.GI (.t 14))::[])) (.block 0 (.loop (.seq (.next (.t 15) 16 17) (.seq (.cond (.t 17) .skip (.exit 0)) (.block 1 (.seq (.reg (
 oo 18 (.entry (.t 15))::
oo 19 (.extract (.t 18) 0)::
oo 20 (.extract (.t 18) 1)::
om 4 19::
om 5 20::[])) (.seq (.reg (
 om 21 5::
oo 22 (.int .eql (.t 21) z0)::[])) (.cond (.t 22) (.reg (
 oo 23 (.Ai 0 (.t 1))::
oo 24 (.Af (.t 23))::
om 25 4::
oz (.delete 3 (.t 24) (.t 25))::[])) .skip))))))))) (.seq (.reg (
 oo 6 (.mv (.c (Value.slice none 0 0)))::[])) (.seq (.seq (.reg (
 oo 26 (.Ai 0 (.t 1))::
oo 27 (.Af (.t 26))::
oo 28 (.GI (.t 27))::[])) (.block 2 (.loop (.seq (.next (.t 28) 29 30) (.seq (.cond (.t 30) .skip (.exit 2)) (.block 3 (.seq (.reg (
 oo 31 (.entry (.t 28))::
oo 32 (.extract (.t 31) 0)::
om 7 32::[])) (.reg (
 om 33 6::
om 34 7::
oo 35 (.BF [k0] [(0,1,(.t 34))] 1 3)::
oo 36 (.append 3 1 8 (.t 33) (.t 35))::
om 6 36::[]))))))))) (.seq (.reg (
 om 37 6::
oc 38 115 [(.t 37)]::[])) (.seq (.seq (.reg (
 om 39 6::
oo 40 (.len (.t 39))::
oo 41 (.mv z0)::[])) (.block 4 (.loop (.seq (.reg (
 oo 42 (.int .lss (.t 41) (.t 40))::[])) (.seq (.cond (.t 42) .skip (.exit 4)) (.seq (.block 5 (.seq (.reg (
 oo 43 (.Bb 1 (.t 39) (.t 41))::
oo 44 (.Af (.t 43))::
om 9 44::[])) (.reg (
 oo 45 (.Ai 0 (.t 3))::
oo 46 (.Af (.t 45))::
om 47 9::
oo 48 (.EV true (.t 47) (.c (Value.int .i64 2)))::
om 49 9::
oo 50 (.EV false (.t 49) (.c (Value.int .i64 2)))::
oo 51 (.int .eql (.t 50) z1)::
oo 52 (.Ai 0 (.t 1))::
oo 53 (.Af (.t 52))::
om 54 9::
oo 55 (.lookup 3 (k0) false (.t 53) (.t 54))::
oo 56 (.build [k0,Value.bool false,k0] [(0,1,(.t 48)),(1,1,(.t 51)),(2,1,(.t 55))])::
oo 57 (.BF [k0,Value.bool false,k0] [(0,3,(.t 56))] 1 120)::
oo 58 (.append 120 3 24 (.t 46) (.t 57))::
oo 59 (.Ai 0 (.t 3))::
oz (.store 1 (.t 59) (.t 58))::[])))) (.reg (
 oo 60 (.int .add (.t 41) z1)::
om 41 60::[])))))))) (.seq (.reg (
 oo 61 (.Az 2 (.t 3))::
oz (.store 2 (.t 2) (.t 61))::[])) .ret))))))))
def r47:List ResultVar:=[.cell 2 51]
theorem Afu:ZF Tryz.prog 47 62 1 a47 r47:=
  ⟨rfl,Tryz.f47,_,rfl,rfl,rfl,by decide,rfl,rfl,rfl⟩
noncomputable def a48:Ay:=(.seq (.reg (
 oo 1 (.box (.t 0) 31)::
oo 2 (.mv (.c (Value.slice none 0 0)))::[])) (.seq (.reg (
 oo 13 (.Ai 0 (.t 1))::
oo 14 (.Af (.t 13))::
oo 15 (.int .add z1 (.t 14))::
oo 16 (.Ai 1 (.t 1))::
oo 17 (.Af (.t 16))::
oo 18 (.int .add (.t 15) (.t 17))::
om 3 18::[])) (.seq (.reg (
 oo 4 (.mv (.c (Value.slice none 0 0)))::[])) (.seq (.seq (.reg (
 oo 5 (.mv z0)::[])) (.block 0 (.loop (.seq (.seq (.reg (
 om 19 5::
om 20 3::
oo 21 (.int .lss (.t 19) (.t 20))::[])) (.cond (.t 21) .skip (.exit 0))) (.seq (.block 1 (.seq (.reg (
 oo 6 (.mv (.c (Value.slice none 0 0)))::[])) (.seq (.seq (.reg (
 oo 7 (.mv z0)::[])) (.block 2 (.loop (.seq (.seq (.reg (
 om 24 7::
om 25 3::
oo 26 (.int .lss (.t 24) (.t 25))::[])) (.cond (.t 26) .skip (.exit 2))) (.seq (.block 3 (.reg (
 om 29 6::
oo 30 (.BF [k0] [(0,1,(.c (Value.int .i64 1125899906842624)))] 1 2)::
oo 31 (.append 2 1 8 (.t 29) (.t 30))::
om 6 31::[]))) (.reg (
 om 27 7::
oo 28 (.int .add (.t 27) z1)::
om 7 28::[]))))))) (.reg (
 om 32 4::
om 33 6::
oo 34 (.BF [Value.slice none 0 0] [(0,1,(.t 33))] 1 37)::
oo 35 (.append 37 1 24 (.t 32) (.t 34))::
om 4 35::[]))))) (.reg (
 om 22 5::
oo 23 (.int .add (.t 22) z1)::
om 5 23::[]))))))) (.seq (.seq (.reg (
 oo 8 (.mv z0)::[])) (.block 4 (.loop (.seq (.seq (.reg (
 om 36 8::
oo 37 (.Ai 0 (.t 1))::
oo 38 (.Af (.t 37))::
oo 39 (.int .lss (.t 36) (.t 38))::[])) (.cond (.t 39) .skip (.exit 4))) (.seq (.block 5 (.BN (
 om 42 4::
oo 43 (.Bb 1 (.t 42) z0)::
oo 44 (.Af (.t 43))::
om 45 8::
oo 46 (.int .add z1 (.t 45))::
om 47 4::
om 48 8::
oo 49 (.int .add z1 (.t 48))::
oo 50 (.Bb 1 (.t 47) (.t 49))::
oo 51 (.Af (.t 50))::
oo 52 (.Ai 2 (.t 1))::
oo 53 (.Ai 1 (.t 52))::
oo 54 (.Af (.t 53))::
oo 55 (.Ai 2 (.t 1))::
oo 56 (.Ai 0 (.t 55))::
oo 57 (.Af (.t 56))::
oo 58 (.neg (.t 57))::
oo 59 (.Bb 1 (.t 44) (.t 46))::
oz (.store 1 (.t 59) (.t 54))::
oo 60 (.Bb 1 (.t 51) z0)::
oz (.store 1 (.t 60) (.t 58))::[]) [((.t 56),(.t 59))])) (.reg (
 om 40 8::
oo 41 (.int .add (.t 40) z1)::
om 8 41::[]))))))) (.seq (.seq (.reg (
 oo 9 (.mv z0)::[])) (.block 6 (.loop (.seq (.seq (.reg (
 om 61 9::
oo 62 (.Ai 4 (.t 1))::
oo 63 (.Af (.t 62))::
oo 64 (.len (.t 63))::
oo 65 (.int .lss (.t 61) (.t 64))::[])) (.cond (.t 65) .skip (.exit 6))) (.seq (.block 7 (.seq (.reg (
 oo 68 (.Ai 4 (.t 1))::
oo 69 (.Af (.t 68))::
om 70 9::
oo 71 (.Bb 4 (.t 69) (.t 70))::
oo 72 (.Az 4 (.t 71))::
oo 10 (.alloc [k0,k0,k0,k0] 33)::
oz (.store 4 (.t 10) (.t 72))::[])) (.seq (.BN (
 oo 73 (.Ai 0 (.t 10))::
oo 74 (.Af (.t 73))::
oo 75 (.int .add z1 (.t 74))::
oo 76 (.Ai 0 (.t 1))::
oo 77 (.Af (.t 76))::
oo 78 (.int .add z1 (.t 77))::
oo 79 (.Ai 1 (.t 10))::
oo 80 (.Af (.t 79))::
oo 81 (.int .add (.t 78) (.t 80))::
om 11 75::
om 12 81::[]) []) (.seq (.BN (
 om 82 4::
om 83 12::
oo 84 (.Bb 1 (.t 82) (.t 83))::
oo 85 (.Af (.t 84))::
om 86 11::
om 87 4::
om 88 12::
oo 89 (.Bb 1 (.t 87) (.t 88))::
oo 90 (.Af (.t 89))::
om 91 11::
oo 92 (.Bb 1 (.t 90) (.t 91))::
oo 93 (.Af (.t 92))::
oo 94 (.Ai 2 (.t 10))::
oo 95 (.Ai 1 (.t 94))::
oo 96 (.Af (.t 95))::
oo 97 (.Il false (.t 93) (.t 96))::
oo 98 (.Bb 1 (.t 85) (.t 86))::
oz (.store 1 (.t 98) (.t 97))::[]) []) (.BN (
 om 99 4::
om 100 11::
oo 101 (.Bb 1 (.t 99) (.t 100))::
oo 102 (.Af (.t 101))::
om 103 12::
om 104 4::
om 105 11::
oo 106 (.Bb 1 (.t 104) (.t 105))::
oo 107 (.Af (.t 106))::
om 108 12::
oo 109 (.Bb 1 (.t 107) (.t 108))::
oo 110 (.Af (.t 109))::
oo 111 (.Ai 2 (.t 10))::
oo 112 (.Ai 0 (.t 111))::
oo 113 (.Af (.t 112))::
oo 114 (.neg (.t 113))::
oo 115 (.Il false (.t 110) (.t 114))::
oo 116 (.Bb 1 (.t 102) (.t 103))::
oz (.store 1 (.t 116) (.t 115))::[]) []))))) (.reg (
 om 66 9::
oo 67 (.int .add (.t 66) z1)::
om 9 67::[]))))))) (.seq (.reg (
 om 117 4::
om 2 117::[])) .ret)))))))
def r48:List ResultVar:=[.tmp 2]
theorem Aft:Cf Tryz.prog 48 118 1 a48 r48:=
  ⟨rfl,Tryz.f48,_,rfl,rfl,rfl,by decide,rfl,rfl,rfl⟩
noncomputable def a49:Ay:=(.seq (.reg (
 oo 6 (.mv z0)::[])) (.seq (.seq (.reg (
 om 7 0::
oc 8 8 [(.t 7)]::
oo 9 (.int .neq (.t 8) z0)::[])) (.cond (.t 9) (.seq (.reg (
 om 10 0::
oc 11 8 [(.t 10)]::
om 6 11::[])) .ret) .skip)) (.seq (.seq (.reg (
 om 12 1::
oc 13 35 [(.t 12)]::
oo 14 (.not (.t 13))::
om 15 14::
og 16 15 false (.mv (.t 2))::
F6 17 15 false 35 [(.t 16)]::
og 18 15 false (.not (.t 17))::
oo 19 (.pick (.t 15) (.c (Value.bool true)) (.t 18))::[])) (.cond (.t 19) (.seq (.reg (
 oo 6 (.mv (.c (Value.int .i64 3)))::[])) .ret) .skip)) (.seq (.reg (
 oo 6 (.mv z0)::[])) .ret))))
def r49:List ResultVar:=[.tmp 6]
theorem Afs:Cf Tryz.prog 49 20 3 a49 r49:=
  ⟨rfl,Tryz.f49,_,rfl,rfl,rfl,by decide,rfl,rfl,rfl⟩
noncomputable def a50:Ay:=(.seq (.reg (
 oo 4 (.alloc [k0,k0] 57)::[])) (.seq (.reg (
 om 6 0::
oc 7 117 [(.t 6)]::
om 8 1::
oc 9 116 [(.t 7),(.t 8)]::
om 5 9::[])) (.seq (.BN (
 om 10 0::
om 11 5::
oo 12 (.EV true (.t 10) (.t 11))::
om 13 1::
om 14 5::
oo 15 (.EV true (.t 13) (.t 14))::
oo 16 (.build [k0,k0] [(0,1,(.t 12)),(1,1,(.t 15))])::
oz (.store 2 (.t 4) (.t 16))::[]) []) .ret)))
def r50:List ResultVar:=[.cell 4 57]
theorem Afr:Cf Tryz.prog 50 17 2 a50 r50:=
  ⟨rfl,Tryz.f50,_,rfl,rfl,rfl,by decide,rfl,rfl,rfl⟩
noncomputable def a51:Ay:=(.seq (.reg (
 oo 2 (.mv (.c (Value.bool false)))::[])) (.seq (.seq (.reg (
 oo 3 (.mv z0)::[])) (.block 0 (.loop (.seq (.seq (.reg (
 om 4 3::
om 5 0::
oo 6 (.len (.t 5))::
oo 7 (.int .lss (.t 4) (.t 6))::[])) (.cond (.t 7) .skip (.exit 0))) (.seq (.block 1 (.seq (.reg (
 om 10 0::
om 11 3::
oo 12 (.Bb 1 (.t 10) (.t 11))::
oo 13 (.Af (.t 12))::
oo 14 (.int .lss (.t 13) (.c (Value.int .i64 (-1099511627776))))::
om 15 14::
og 16 15 false (.mv (.t 0))::
og 17 15 false (.mv (.t 3))::
og 18 15 false (.Bb 1 (.t 16) (.t 17))::
og 19 15 false (.Af (.t 18))::
og 20 15 false (.int .gtr (.t 19) (.c (Value.int .i64 1099511627776)))::
oo 21 (.pick (.t 15) (.c (Value.bool true)) (.t 20))::[])) (.cond (.t 21) (.seq (.reg (
 oo 2 (.mv (.c (Value.bool false)))::[])) .ret) .skip))) (.reg (
 om 8 3::
oo 9 (.int .add (.t 8) z1)::
om 3 9::[]))))))) (.seq (.reg (
 oo 2 (.mv (.c (Value.bool true)))::[])) .ret)))
def r51:List ResultVar:=[.tmp 2]
theorem Afq:Cf Tryz.prog 51 22 1 a51 r51:=
  ⟨rfl,Tryz.f51,_,rfl,rfl,rfl,by decide,rfl,rfl,rfl⟩
noncomputable def a52:Ay:=(.seq (.reg (
 oo 1 (.box (.t 0) 43)::
oo 2 (.mv (.c (Value.bool false)))::[])) (.seq (.reg (
 oo 3 (.Ai 2 (.t 1))::
oo 4 (.Af (.t 3))::
oo 5 (.int .geq (.t 4) z1)::
om 6 5::
og 7 6 true (.Ai 2 (.t 1))::
og 8 6 true (.Af (.t 7))::
og 9 6 true (.int .leq (.t 8) (.c (Value.int .i64 1099511627776)))::
oo 10 (.pick (.t 6) (.t 9) (.c (Value.bool false)))::
om 11 10::
og 12 11 true (.Ai 0 (.t 1))::
og 13 11 true (.Af (.t 12))::
og 14 11 true (.int .geq (.t 13) (.c (Value.int .i64 (-1099511627776))))::
oo 15 (.pick (.t 11) (.t 14) (.c (Value.bool false)))::
om 16 15::
og 17 16 true (.Ai 0 (.t 1))::
og 18 16 true (.Af (.t 17))::
og 19 16 true (.int .leq (.t 18) (.c (Value.int .i64 1099511627776)))::
oo 20 (.pick (.t 16) (.t 19) (.c (Value.bool false)))::
om 21 20::
og 22 21 true (.Ai 1 (.t 1))::
og 23 21 true (.Af (.t 22))::
og 24 21 true (.int .geq (.t 23) (.c (Value.int .i64 (-1099511627776))))::
oo 25 (.pick (.t 21) (.t 24) (.c (Value.bool false)))::
om 26 25::
og 27 26 true (.Ai 1 (.t 1))::
og 28 26 true (.Af (.t 27))::
og 29 26 true (.int .leq (.t 28) (.c (Value.int .i64 1099511627776)))::
oo 30 (.pick (.t 26) (.t 29) (.c (Value.bool false)))::
om 2 30::[])) .ret))
def r52:List ResultVar:=[.tmp 2]
theorem Afp:Cf Tryz.prog 52 31 1 a52 r52:=
  ⟨rfl,Tryz.f52,_,rfl,rfl,rfl,by decide,rfl,rfl,rfl⟩
noncomputable def a53:Ay:=(.seq (.reg (
 oo 3 (.box (.t 1) 43)::
oo 4 (.mv (.c (Value.bool false)))::[])) (.seq (.seq (.reg (
 oo 5 (.mv z0)::[])) (.block 0 (.loop (.seq (.seq (.reg (
 om 7 5::
om 8 0::
oo 9 (.len (.t 8))::
oo 10 (.int .lss (.t 7) (.t 9))::[])) (.cond (.t 10) .skip (.exit 0))) (.seq (.block 1 (.seq (.BN (
 om 13 0::
om 14 5::
oo 15 (.Bb 4 (.t 13) (.t 14))::
oo 16 (.Ai 0 (.t 15))::
oo 17 (.Af (.t 16))::
oo 18 (.Ai 0 (.t 3))::
oo 19 (.Af (.t 18))::
oo 20 (.int .mul (.t 17) (.t 19))::
om 21 0::
om 22 5::
oo 23 (.Bb 4 (.t 21) (.t 22))::
oo 24 (.Ai 1 (.t 23))::
oo 25 (.Af (.t 24))::
oo 26 (.Ai 1 (.t 3))::
oo 27 (.Af (.t 26))::
oo 28 (.int .mul (.t 25) (.t 27))::
oo 29 (.int .add (.t 20) (.t 28))::
om 6 29::[]) []) (.seq (.BN (
 om 30 6::
om 31 0::
om 32 5::
oo 33 (.Bb 4 (.t 31) (.t 32))::
oo 34 (.Ai 2 (.t 33))::
oo 35 (.Ai 0 (.t 34))::
oo 36 (.Af (.t 35))::
oo 37 (.Ai 2 (.t 3))::
oo 38 (.Af (.t 37))::
oo 39 (.int .mul (.t 36) (.t 38))::
oo 40 (.int .lss (.t 30) (.t 39))::
om 41 40::
og 42 41 false (.mv (.t 6))::
og 43 41 false (.mv (.t 0))::
og 44 41 false (.mv (.t 5))::
og 45 41 false (.Bb 4 (.t 43) (.t 44))::
og 46 41 false (.Ai 2 (.t 45))::
og 47 41 false (.Ai 1 (.t 46))::
og 48 41 false (.Af (.t 47))::
og 49 41 false (.Ai 2 (.t 3))::
og 50 41 false (.Af (.t 49))::
og 51 41 false (.int .mul (.t 48) (.t 50))::
og 52 41 false (.int .gtr (.t 42) (.t 51))::
oo 53 (.pick (.t 41) (.c (Value.bool true)) (.t 52))::[]) []) (.cond (.t 53) (.seq (.reg (
 oo 4 (.mv (.c (Value.bool false)))::[])) .ret) .skip)))) (.reg (
 om 11 5::
oo 12 (.int .add (.t 11) z1)::
om 5 12::[]))))))) (.seq (.reg (
 oo 4 (.mv (.c (Value.bool true)))::[])) .ret)))
def r53:List ResultVar:=[.tmp 4]
theorem Afo:Cf Tryz.prog 53 54 2 a53 r53:=
  ⟨rfl,Tryz.f53,_,rfl,rfl,rfl,by decide,rfl,rfl,rfl⟩
noncomputable def a54:Ay:=(.seq (.reg (
 oo 3 (.box (.t 0) 2)::
oo 4 (.box (.t 1) 2)::
oo 6 (.mv (.c (Value.bool false)))::[])) (.seq (.reg (
 om 7 2::
oo 8 (.Hf (Fn.func 119) [] [(.t 3),(.t 4)])::
oc 9 118 [(.t 7),(.t 8)]::
oo 10 (.not (.t 9))::
om 6 10::[])) .ret))
def r54:List ResultVar:=[.tmp 6]
theorem Afn:Cf Tryz.prog 54 11 3 a54 r54:=
  ⟨rfl,Tryz.f54,_,rfl,rfl,rfl,by decide,rfl,rfl,rfl⟩
noncomputable def a55:Ay:=(.seq (.reg (
 oo 2 (.box (.t 0) 31)::
oo 4 (.mv (.c (Value.pointer none)))::
oo 5 (.mv (.c (Value.pointer none)))::
oo 6 (.mv z0)::[])) (.seq (.seq (.reg (
 oo 15 (.Az 5 (.t 2))::
oc 16 38 [(.t 15)]::
om 7 16::[])) (.seq (.reg (
 om 17 7::
oo 18 (.int .neq (.t 17) z0)::[])) (.cond (.t 18) (.seq (.reg (
 om 19 7::
oo 4 (.mv (.c (Value.pointer none)))::
oo 5 (.mv (.c (Value.pointer none)))::
om 6 19::[])) .ret) .skip))) (.seq (.seq (.reg (
 om 20 1::
oo 21 (.len (.t 20))::
oo 22 (.mv z0)::[])) (.block 0 (.loop (.seq (.reg (
 oo 23 (.int .lss (.t 22) (.t 21))::[])) (.seq (.cond (.t 23) .skip (.exit 0)) (.seq (.block 1 (.seq (.reg (
 oo 24 (.Bb 1 (.t 20) (.t 22))::
oo 25 (.Af (.t 24))::
om 9 25::[])) (.seq (.reg (
 om 26 9::
oo 27 (.int .lss (.t 26) z0)::
om 28 27::
og 29 28 false (.mv (.t 9))::
og 30 28 false (.Ai 1 (.t 2))::
og 31 28 false (.Af (.t 30))::
og 32 28 false (.int .geq (.t 29) (.t 31))::
oo 33 (.pick (.t 28) (.c (Value.bool true)) (.t 32))::[])) (.cond (.t 33) (.seq (.reg (
 oo 4 (.mv (.c (Value.pointer none)))::
oo 5 (.mv (.c (Value.pointer none)))::
oo 6 (.mv (.c (Value.int .i64 3)))::[])) .ret) .skip)))) (.reg (
 oo 34 (.int .add (.t 22) z1)::
om 22 34::[])))))))) (.seq (.reg (
 oo 35 (.Az 5 (.t 2))::
oc 36 39 [(.t 35)]::
om 10 36::[])) (.seq (.reg (
 om 38 10::
oc 39 40 [(.t 38)]::
om 37 39::
oo 40 (.extract (.t 37) 0)::
oo 41 (.extract (.t 37) 1)::
om 11 40::
om 12 41::[])) (.seq (.seq (.reg (
 om 42 12::
oo 43 (.not (.t 42))::[])) (.cond (.t 43) (.seq (.reg (
 oo 4 (.mv (.c (Value.pointer none)))::
oo 5 (.mv (.c (Value.pointer none)))::
oo 6 (.mv (.c (Value.int .i64 20)))::[])) .ret) .skip)) (.seq (.seq (.reg (
 om 44 1::
oo 45 (.len (.t 44))::
oo 46 (.mv z0)::[])) (.block 2 (.loop (.seq (.reg (
 oo 47 (.int .lss (.t 46) (.t 45))::[])) (.seq (.cond (.t 47) .skip (.exit 2)) (.seq (.block 3 (.seq (.reg (
 oo 48 (.Bb 1 (.t 44) (.t 46))::
oo 49 (.Af (.t 48))::
oo 14 (.alloc [k0] 3)::
oz (.store 1 (.t 14) (.t 49))::[])) (.seq (.reg (
 oo 50 (.Ai 4 (.t 2))::
oo 51 (.Af (.t 50))::
oo 52 (.Hf (Fn.func 120) [] [(.t 14)])::
oc 53 98 [(.t 51),(.t 52)]::
oo 54 (.not (.t 53))::[])) (.cond (.t 54) (.seq (.reg (
 oo 4 (.mv (.c (Value.pointer none)))::
oo 5 (.mv (.c (Value.pointer none)))::
oo 6 (.mv (.c (Value.int .i64 5)))::[])) .ret) .skip)))) (.reg (
 oo 55 (.int .add (.t 46) z1)::
om 46 55::[])))))))) (.seq (.reg (
 om 56 10::
om 57 11::
om 4 56::
om 5 57::
oo 6 (.mv z0)::[])) .ret))))))))
def r55:List ResultVar:=[.tmp 4,.tmp 5,.tmp 6]
theorem Afm:Cf Tryz.prog 55 58 2 a55 r55:=
  ⟨rfl,Tryz.f55,_,rfl,rfl,rfl,by decide,rfl,rfl,rfl⟩
noncomputable def a56:Ay:=(.seq (.reg (
 oo 2 (.mv (.c (Value.pointer none)))::[])) (.seq (.BN (
 om 6 0::
oo 7 (.BP (.t 6))::
oo 8 (.Ai 0 (.t 7))::
oo 9 (.Az 5 (.t 8))::
om 10 0::
oo 11 (.BP (.t 10))::
oo 12 (.Ai 5 (.t 11))::
oo 13 (.Af (.t 12))::
oo 14 (.build [k0,k0,k0,k0,Value.slice none 0 0,k0,Value.bool false,k0,Value.bool false,k0,Value.bool false,k0,Value.bool false,k0,Value.bool false,k0,Value.bool false,k0,Value.bool false,k0,Value.bool false,k0,Value.bool false,k0,Value.bool false,k0,Value.bool false,k0,Value.bool false,k0,Value.bool false,k0,Value.bool false,k0,Value.bool false,k0,Value.bool false,k0,Value.bool false,k0,Value.bool false,k0,Value.bool false,k0,Value.bool false,k0,Value.bool false,k0,Value.bool false,k0,Value.bool false,k0,Value.bool false,k0,Value.bool false,k0,Value.bool false,k0,Value.bool false,k0,Value.bool false,k0,Value.bool false,k0,Value.bool false,k0,Value.bool false,k0,Value.bool false,k0,Value.bool false,k0,Value.bool false,k0,Value.bool false,k0,Value.bool false,k0,Value.bool false,k0,Value.bool false,k0,Value.bool false,k0,Value.bool false,k0,Value.bool false,k0,Value.bool false,k0,Value.bool false,k0,Value.bool false,k0,Value.bool false,k0,Value.bool false,k0,Value.bool false,k0,Value.bool false,k0,Value.bool false,k0,Value.bool false,k0,Value.bool false,k0,Value.bool false,k0,Value.bool false,k0,Value.bool false,k0,Value.bool false,k0,Value.bool false,k0,Value.bool false,k0,Value.bool false,k0,Value.bool false,k0,Value.bool false,k0,Value.bool false,k0,Value.bool false,k0,Value.bool false,k0,Value.bool false,k0,Value.bool false,k0,Value.bool false,k0,Value.bool false,k0,Value.bool false,k0,Value.bool false,k0,Value.bool false,k0,Value.bool false,k0,Value.bool false,k0,Value.bool false,k0,Value.bool false,k0,Value.bool false,k0,Value.bool false,k0,Value.bool false,k0,Value.bool false,k0,Value.bool false,k0,Value.bool false,k0,Value.bool false,k0,Value.bool false,k0,Value.bool false,k0,Value.bool false,k0,Value.bool false,k0,Value.bool false,k0,Value.bool false,k0,Value.bool false,k0,Value.bool false,k0,Value.bool false,k0,Value.bool false,k0,Value.bool false,k0,Value.bool false,k0,Value.bool false,k0,Value.bool false,k0,Value.bool false,k0,Value.bool false,k0,Value.bool false,k0,Value.bool false,k0,Value.bool false,k0,Value.bool false,k0,Value.bool false,k0,Value.bool false,k0,Value.bool false,k0,Value.bool false,k0,Value.bool false,k0,Value.bool false,k0,Value.bool false,k0,Value.bool false,k0,Value.bool false,k0,Value.bool false,k0,Value.bool false,k0,Value.bool false,k0,Value.bool false,k0,Value.bool false,k0,Value.bool false,k0,Value.bool false,k0,Value.bool false,k0,Value.bool false,k0,Value.bool false,k0,Value.bool false,k0,Value.bool false,k0,Value.bool false,k0,Value.bool false,k0,Value.bool false,k0,Value.bool false,k0,Value.bool false,k0,Value.bool false,k0,Value.bool false,k0,Value.bool false,k0,Value.bool false,k0,Value.bool false,k0,Value.bool false,k0,Value.bool false,k0,Value.bool false,k0,Value.bool false,k0,Value.bool false,k0,Value.bool false,k0,Value.bool false,k0,Value.bool false,k0,Value.bool false,k0,Value.bool false,k0,Value.bool false,k0,Value.bool false,k0,Value.bool false,k0,Value.bool false,k0,Value.bool false,k0,Value.bool false,k0,Value.bool false,k0,Value.bool false,k0,Value.bool false,k0,Value.bool false,k0,Value.bool false,k0,Value.bool false,k0,Value.bool false,k0,Value.bool false,k0,Value.bool false,k0,Value.bool false,k0,Value.bool false,k0,Value.bool false,k0,Value.bool false,k0,Value.bool false,k0,Value.bool false,k0,Value.bool false,k0,Value.bool false,k0,Value.bool false,k0,Value.bool false,k0,Value.bool false,k0,Value.bool false,k0] [(0,5,(.t 9)),(5,1,(.t 13))])::
oo 15 (.box (.t 14) 187)::
om 3 15::[]) []) (.seq (.seq (.reg (
 om 16 0::
oo 17 (.BP (.t 16))::
oo 18 (.Ai 5 (.t 17))::
oo 19 (.Af (.t 18))::
oo 20 (.mv z0)::[])) (.block 0 (.loop (.seq (.reg (
 oo 21 (.int .lss (.t 20) (.t 19))::[])) (.seq (.cond (.t 21) .skip (.exit 0)) (.seq (.block 1 (.seq (.reg (
 om 22 20::
om 4 22::[])) (.seq (.reg (
 om 23 0::
oo 24 (.BP (.t 23))::
oo 25 (.Ai 5 (.t 24))::
oo 26 (.Af (.t 25))::
oo 27 (.mv z0)::[])) (.block 2 (.loop (.seq (.reg (
 oo 28 (.int .lss (.t 27) (.t 26))::[])) (.seq (.cond (.t 28) .skip (.exit 2)) (.seq (.block 3 (.seq (.reg (
 om 29 27::
om 5 29::[])) (.BN (
 om 30 3::
om 31 5::
om 32 4::
om 33 0::
om 34 4::
om 35 5::
oo 36 (.BP (.t 33))::
oo 37 (.Ai 6 (.t 36))::
oo 38 (.Cc 13 26 (.t 37) (.t 34))::
oo 39 (.Cc 13 2 (.t 38) (.t 35))::
oo 40 (.Az 2 (.t 39))::
oo 41 (.BP (.t 30))::
oo 42 (.Ai 6 (.t 41))::
oo 43 (.Cc 13 26 (.t 42) (.t 31))::
oo 44 (.Cc 13 2 (.t 43) (.t 32))::
oz (.store 2 (.t 44) (.t 40))::[]) []))) (.reg (
 oo 45 (.int .add (.t 27) z1)::
om 27 45::[])))))))))) (.reg (
 oo 46 (.int .add (.t 20) z1)::
om 20 46::[])))))))) (.seq (.reg (
 om 47 3::
om 2 47::[])) .ret))))
def r56:List ResultVar:=[.tmp 2]
theorem Afl:Cf Tryz.prog 56 48 1 a56 r56:=
  ⟨rfl,Tryz.f56,_,rfl,rfl,rfl,by decide,rfl,rfl,rfl⟩
noncomputable def a57:Ay:=(.seq (.reg (
 oo 6 (.alloc [Value.map none,k0,k0,k0,k0] 111)::
oo 7 (.mv z0)::[])) (.seq (.seq (.reg (
 om 14 0::
om 15 1::
om 16 2::
oc 17 121 [(.t 14),(.t 15),(.t 16)]::
om 8 17::[])) (.seq (.reg (
 om 18 8::
oo 19 (.int .neq (.t 18) z0)::[])) (.cond (.t 19) (.seq (.reg (
 oo 20 (.build [Value.map none,k0,k0,k0,k0] [])::
om 21 8::
oz (.store 5 (.t 6) (.t 20))::
om 7 21::[])) .ret) .skip))) (.seq (.reg (
 om 22 0::
oc 23 45 [(.t 22)]::
om 9 23::[])) (.seq (.seq (.reg (
 om 25 9::
oc 26 46 [(.t 25)]::
om 24 26::
oo 27 (.extract (.t 24) 0)::
oo 28 (.extract (.t 24) 1)::
oo 10 (.alloc [Value.map none,k0,k0,k0,k0] 111)::
oz (.store 5 (.t 10) (.t 27))::
om 11 28::[])) (.seq (.reg (
 om 29 11::[])) (.cond (.t 29) (.seq (.reg (
 oo 30 (.build [Value.map none,k0,k0,k0,k0] [])::
oz (.store 5 (.t 6) (.t 30))::
oo 7 (.mv (.c (Value.int .i64 20)))::[])) .ret) .skip))) (.seq (.reg (
 om 32 9::
om 33 1::
om 34 2::
oc 35 122 [(.t 32),(.t 33),(.t 34)]::
om 31 35::
oo 36 (.extract (.t 31) 0)::
oo 37 (.extract (.t 31) 1)::
oo 12 (.alloc [Value.map none,k0,k0,k0,k0] 111)::
oz (.store 5 (.t 12) (.t 36))::
om 13 37::[])) (.seq (.seq (.reg (
 om 38 13::
oo 39 (.not (.t 38))::[])) (.cond (.t 39) (.seq (.reg (
 oo 40 (.build [Value.map none,k0,k0,k0,k0] [])::
oz (.store 5 (.t 6) (.t 40))::
oo 7 (.mv (.c (Value.int .i64 5)))::[])) .ret) .skip)) (.seq (.reg (
 oo 41 (.Az 5 (.t 12))::
oz (.store 5 (.t 6) (.t 41))::
oo 7 (.mv z0)::[])) .ret)))))))
def r57:List ResultVar:=[.cell 6 111,.tmp 7]
theorem Afk:Cf Tryz.prog 57 42 3 a57 r57:=
  ⟨rfl,Tryz.f57,_,rfl,rfl,rfl,by decide,rfl,rfl,rfl⟩
noncomputable def a58:Ay:=(.seq (.reg (
 oo 1 (.box (.t 0) 111)::
oo 2 (.alloc [k0,k0] 57)::[])) (.seq (.reg (
 oo 3 (.Ai 1 (.t 1))::
oo 4 (.Cc 3 1 (.t 3) (.c (Value.int .i64 2)))::
oo 5 (.Af (.t 4))::
oo 6 (.Ai 4 (.t 1))::
oo 7 (.Af (.t 6))::
oc 8 105 [(.t 5),(.t 7)]::
oz (.store 2 (.t 2) (.t 8))::[])) .ret))
def r58:List ResultVar:=[.cell 2 57]
theorem Afj:Cf Tryz.prog 58 9 1 a58 r58:=
  ⟨rfl,Tryz.f58,_,rfl,rfl,rfl,by decide,rfl,rfl,rfl⟩
noncomputable def a59:Ay:=(.seq (.reg (
 oo 6 (.mv (.c (Value.bool false)))::[])) (.seq (.reg (
 om 7 0::
om 8 1::
oo 9 (.int .geq (.t 7) (.t 8))::
om 10 9::
og 11 10 true (.mv (.t 0))::
og 12 10 true (.mv (.t 2))::
og 13 10 true (.int .leq (.t 11) (.t 12))::
oo 14 (.pick (.t 10) (.t 13) (.c (Value.bool false)))::
om 6 14::[])) .ret))
def r59:List ResultVar:=[.tmp 6]
theorem Afi:Cf Tryz.prog 59 15 3 a59 r59:=
  ⟨rfl,Tryz.f59,_,rfl,rfl,rfl,by decide,rfl,rfl,rfl⟩
noncomputable def a60:Ay:=(.seq (.reg (
 oo 3 (.box (.t 0) 23)::
oo 6 (.mv (.c (Value.bool false)))::[])) (.seq (.reg (
 oo 7 (.Ai 0 (.t 3))::
oo 8 (.Af (.t 7))::
om 9 1::
oo 10 (.int .geq (.t 8) (.t 9))::
om 11 10::
og 12 11 true (.Ai 0 (.t 3))::
og 13 11 true (.Af (.t 12))::
og 14 11 true (.Ai 1 (.t 3))::
og 15 11 true (.Af (.t 14))::
og 16 11 true (.int .leq (.t 13) (.t 15))::
oo 17 (.pick (.t 11) (.t 16) (.c (Value.bool false)))::
om 18 17::
og 19 18 true (.Ai 1 (.t 3))::
og 20 18 true (.Af (.t 19))::
og 21 18 true (.mv (.t 2))::
og 22 18 true (.int .leq (.t 20) (.t 21))::
oo 23 (.pick (.t 18) (.t 22) (.c (Value.bool false)))::
om 6 23::[])) .ret))
def r60:List ResultVar:=[.tmp 6]
theorem Afh:Cf Tryz.prog 60 24 3 a60 r60:=
  ⟨rfl,Tryz.f60,_,rfl,rfl,rfl,by decide,rfl,rfl,rfl⟩
noncomputable def a61:Ay:=(.seq (.reg (
 oo 2 (.box (.t 0) 67)::
oo 4 (.alloc [k0,k0,k0,k0,k0,k0,k0,k0,k0,k0,k0,k0,k0,k0,k0,k0] 135)::
oo 5 (.mv z0)::[])) (.seq (.reg (
 oo 9 (.Az 16 (.t 2))::
oo 10 (.build [k0,k0,k0,k0,k0,k0,k0,k0,k0,k0,k0,k0,k0,k0,k0,k0] [(0,16,(.t 9))])::
oo 6 (.alloc [k0,k0,k0,k0,k0,k0,k0,k0,k0,k0,k0,k0,k0,k0,k0,k0] 135)::
oz (.store 16 (.t 6) (.t 10))::[])) (.seq (.seq (.reg (
 oo 11 (.Az 16 (.t 2))::
oc 12 123 [(.t 11)]::
om 7 12::[])) (.seq (.reg (
 om 13 7::
oo 14 (.int .neq (.t 13) z0)::[])) (.cond (.t 14) (.seq (.reg (
 oo 15 (.Az 16 (.t 6))::
om 16 7::
oz (.store 16 (.t 4) (.t 15))::
om 5 16::[])) .ret) .skip))) (.seq (.seq (.reg (
 om 17 1::
oc 18 124 [(.t 17)]::
om 8 18::[])) (.seq (.reg (
 om 19 8::
oo 20 (.int .neq (.t 19) z0)::[])) (.cond (.t 20) (.seq (.reg (
 oo 21 (.Az 16 (.t 6))::
om 22 8::
oz (.store 16 (.t 4) (.t 21))::
om 5 22::[])) .ret) .skip))) (.seq (.seq (.reg (
 om 23 1::
oo 24 (.Hf (Fn.func 126) [] [(.t 6)])::
oc 25 125 [(.t 23),(.t 24)]::[])) (.cond (.t 25) (.seq (.reg (
 oo 26 (.Az 16 (.t 6))::
oz (.store 16 (.t 4) (.t 26))::
oo 5 (.mv (.c (Value.int .i64 19)))::[])) .ret) .skip)) (.seq (.reg (
 oo 27 (.Az 16 (.t 6))::
oz (.store 16 (.t 4) (.t 27))::
oo 5 (.mv z0)::[])) .ret))))))
def r61:List ResultVar:=[.cell 4 135,.tmp 5]
theorem Afg:Cf Tryz.prog 61 28 2 a61 r61:=
  ⟨rfl,Tryz.f61,_,rfl,rfl,rfl,by decide,rfl,rfl,rfl⟩
noncomputable def a62:Ay:=(.seq (.reg (
 oo 3 (.box (.t 0) 135)::
oo 6 (.alloc [k0,k0,k0,k0,k0,k0,k0,k0] 141)::[])) (.seq (.reg (
 oo 14 (.Ai 0 (.t 3))::
oo 15 (.Ai 4 (.t 14))::
oo 16 (.Ai 0 (.t 15))::
oo 17 (.Af (.t 16))::
oo 18 (.Ai 0 (.t 3))::
oo 19 (.Ai 6 (.t 18))::
oo 20 (.Ai 1 (.t 19))::
oo 21 (.Af (.t 20))::
oo 22 (.Ai 0 (.t 3))::
oo 23 (.Ai 8 (.t 22))::
oo 24 (.Ai 0 (.t 23))::
oo 25 (.Af (.t 24))::
oo 26 (.Ai 0 (.t 3))::
oo 27 (.Ai 12 (.t 26))::
oo 28 (.Ai 1 (.t 27))::
oo 29 (.Af (.t 28))::
oo 30 (.Ai 0 (.t 3))::
oo 31 (.Ai 14 (.t 30))::
oo 32 (.Ai 0 (.t 31))::
oo 33 (.Af (.t 32))::
oo 34 (.build [k0,k0,k0,k0,k0,k0] [(0,1,(.t 17)),(1,1,(.t 21)),(2,1,(.t 25)),(4,1,(.t 29)),(5,1,(.t 33))])::
oo 35 (.Ai 0 (.t 3))::
oo 36 (.Ai 4 (.t 35))::
oo 37 (.Ai 1 (.t 36))::
oo 38 (.Af (.t 37))::
oo 39 (.Ai 0 (.t 3))::
oo 40 (.Ai 6 (.t 39))::
oo 41 (.Ai 0 (.t 40))::
oo 42 (.Af (.t 41))::
oo 43 (.Ai 0 (.t 3))::
oo 44 (.Ai 8 (.t 43))::
oo 45 (.Ai 1 (.t 44))::
oo 46 (.Af (.t 45))::
oo 47 (.Ai 0 (.t 3))::
oo 48 (.Ai 12 (.t 47))::
oo 49 (.Ai 0 (.t 48))::
oo 50 (.Af (.t 49))::
oo 51 (.Ai 0 (.t 3))::
oo 52 (.Ai 14 (.t 51))::
oo 53 (.Ai 1 (.t 52))::
oo 54 (.Af (.t 53))::
oo 55 (.build [k0,k0,k0,k0,k0,k0] [(0,1,(.t 38)),(1,1,(.t 42)),(2,1,(.t 46)),(4,1,(.t 50)),(5,1,(.t 54))])::
oo 56 (.build [k0,k0,k0,k0,k0,k0,k0,k0,k0,k0,k0,k0] [(0,6,(.t 34)),(6,6,(.t 55))])::
oo 7 (.alloc [k0,k0,k0,k0,k0,k0,k0,k0,k0,k0,k0,k0] 224)::
oz (.store 12 (.t 7) (.t 56))::[])) (.seq (.reg (
 om 57 2::
oo 58 (.int .add (.t 57) z1)::
oo 59 (.EV true (.t 58) (.c (Value.int .i64 2)))::
oo 60 (.Cc 2 6 (.t 7) (.t 59))::
oo 61 (.Az 6 (.t 60))::
oo 8 (.alloc [k0,k0,k0,k0,k0,k0] 139)::
oz (.store 6 (.t 8) (.t 61))::[])) (.seq (.reg (
 oo 62 (.build [k0,k0,k0,k0,k0,k0,k0,k0] [(0,1,(.c (Value.int .i64 (-1))))])::
oo 9 (.alloc [k0,k0,k0,k0,k0,k0,k0,k0] 141)::
oz (.store 8 (.t 9) (.t 62))::[])) (.seq (.reg (
 oo 63 (.Az 8 (.t 9))::
oo 10 (.alloc [k0,k0,k0,k0,k0,k0,k0,k0] 141)::
oz (.store 8 (.t 10) (.t 63))::[])) (.seq (.seq (.reg (
 om 64 1::
oo 65 (.len (.t 64))::
oo 66 (.mv z0)::[])) (.block 0 (.loop (.seq (.reg (
 oo 67 (.int .lss (.t 66) (.t 65))::[])) (.seq (.cond (.t 67) .skip (.exit 0)) (.seq (.block 1 (.seq (.reg (
 om 68 66::
oo 69 (.Bb 2 (.t 64) (.t 66))::
oo 70 (.Az 2 (.t 69))::
oo 12 (.alloc [Value.slice none 0 0,Value.slice none 0 0] 71)::
om 11 68::
oz (.store 2 (.t 12) (.t 70))::[])) (.seq (.reg (
 oo 71 (.Ai 0 (.t 3))::
oo 72 (.Ai 10 (.t 71))::
oo 73 (.Ai 0 (.t 72))::
oo 74 (.Af (.t 73))::
oo 75 (.Ai 3 (.t 8))::
oz (.store 1 (.t 75) (.t 74))::[])) (.block 2 (.loop (.seq (.seq (.reg (
 oo 76 (.Ai 3 (.t 8))::
oo 77 (.Af (.t 76))::
oo 78 (.Ai 0 (.t 3))::
oo 79 (.Ai 10 (.t 78))::
oo 80 (.Ai 1 (.t 79))::
oo 81 (.Af (.t 80))::
oo 82 (.int .leq (.t 77) (.t 81))::[])) (.cond (.t 82) .skip (.exit 2))) (.seq (.block 3 (.seq (.reg (
 oo 87 (.Az 16 (.t 3))::
oo 88 (.Az 2 (.t 12))::
oo 89 (.build [Value.slice none 0 0,Value.slice none 0 0] [(0,2,(.t 88))])::
oo 90 (.Az 6 (.t 8))::
oc 91 128 [(.t 87),(.t 89),(.t 90)]::
om 13 91::[])) (.seq (.reg (
 oo 92 (.Az 8 (.t 10))::
oo 93 (.Az 8 (.t 9))::
oo 94 (.pure (Fa Tryz.f62 12 2))::
om 95 94::
og 96 95 false (.mv (.t 2))::
og 97 95 false (.mv (.t 13))::
og 98 95 false (.int .mul (.t 96) (.t 97))::
og 99 95 false (.mv (.t 2))::
og 100 95 false (.Ai 7 (.t 10))::
og 101 95 false (.Af (.t 100))::
og 102 95 false (.int .mul (.t 99) (.t 101))::
og 103 95 false (.int .gtr (.t 98) (.t 102))::
oo 104 (.pick (.t 95) (.c (Value.bool true)) (.t 103))::[])) (.cond (.t 104) (.reg (
 om 105 11::
oo 106 (.Az 6 (.t 8))::
om 107 13::
oo 108 (.build [k0,k0,k0,k0,k0,k0,k0,k0] [(0,1,(.t 105)),(1,6,(.t 106)),(7,1,(.t 107))])::
oz (.store 8 (.t 10) (.t 108))::[])) .skip)))) (.reg (
 oo 83 (.Ai 3 (.t 8))::
oo 84 (.Af (.t 83))::
oo 85 (.int .add (.t 84) z1)::
oo 86 (.Ai 3 (.t 8))::
oz (.store 1 (.t 86) (.t 85))::[]))))))))) (.reg (
 oo 109 (.int .add (.t 66) z1)::
om 66 109::[])))))))) (.seq (.reg (
 oo 110 (.Az 8 (.t 10))::
oz (.store 8 (.t 6) (.t 110))::[])) .ret)))))))
def r62:List ResultVar:=[.cell 6 141]
theorem vU:Cf Tryz.prog 62 111 3 a62 r62:=
  ⟨rfl,Tryz.f62,_,rfl,rfl,rfl,by decide,rfl,rfl,rfl⟩
noncomputable def a63:Ay:=(.seq (.reg (
 oo 1 (.box (.t 0) 77)::
oo 2 (.mv z0)::[])) (.seq (.reg (
 oo 3 (.mv (.c (Value.func (.func 129) #[] #[])))::[])) (.seq (.block 0 (.seq (.reg (
 oo 5 (.Ai 0 (.t 1))::
oo 6 (.Af (.t 5))::
oo 7 (.len (.t 6))::
oo 8 (.int .eql (.t 7) z0)::
om 9 8::
og 10 9 false (.Ai 0 (.t 1))::
og 11 9 false (.Af (.t 10))::
og 12 9 false (.len (.t 11))::
og 13 9 false (.int .gtr (.t 12) (.c (Value.int .i64 24)))::
oo 14 (.pick (.t 9) (.c (Value.bool true)) (.t 13))::
om 4 14::[])) (.cond (.t 4) (.seq (.reg (
 oo 2 (.mv (.c (Value.int .i64 6)))::[])) .ret) (.seq (.reg (
 oo 16 (.Ai 1 (.t 1))::
oo 17 (.Af (.t 16))::
oo 18 (.BF [k0] [(0,1,(.t 17))] 1 2)::
oc 19 66 [z0,(.c (Value.int .i64 1000000)),(.t 18)]::
oo 20 (.not (.t 19))::
om 21 20::
og 22 21 false (.Ai 0 (.t 1))::
og 23 21 false (.Af (.t 22))::
og 24 21 false (.mv (.t 3))::
F6 25 21 false 130 [(.t 23),(.t 24)]::
oo 26 (.pick (.t 21) (.c (Value.bool true)) (.t 25))::
om 15 26::[])) (.cond (.t 15) (.seq (.reg (
 oo 2 (.mv (.c (Value.int .i64 2)))::[])) .ret) .skip))))) (.seq (.reg (
 oo 2 (.mv z0)::[])) .ret))))
def r63:List ResultVar:=[.tmp 2]
theorem Aff:Cf Tryz.prog 63 27 1 a63 r63:=
  ⟨rfl,Tryz.f63,_,rfl,rfl,rfl,by decide,rfl,rfl,rfl⟩
noncomputable def a64:Ay:=(.seq (.reg (
 oo 3 (.box (.t 0) 77)::
oo 6 (.mv (.c (Value.pointer none)))::[])) (.seq (.BN (
 oo 7 (.Az 2 (.t 3))::
om 8 1::
om 9 2::
oo 10 (.Ai 0 (.t 3))::
oo 11 (.Af (.t 10))::
oo 12 (.len (.t 11))::
oo 13 (.FP [k0,k0,k0,k0,k0,k0,k0,k0,k0,k0,k0,k0,k0,k0,k0,k0,k0,k0,k0,k0,k0,k0,k0,k0,k0,k0,k0,k0,k0,k0,k0,k0,k0,k0,k0,k0,k0,k0,k0,k0,k0,k0,k0,k0,k0,k0,k0,k0,k0,k0,k0,k0,k0,k0,k0,k0,k0,k0,k0,k0,k0,k0,k0,k0,k0,k0,k0,k0,k0,k0,k0,k0,k0,k0,k0] 600 338 (.t 12) (.t 12))::
oo 14 (.build [Value.slice none 0 0,k0,k0,k0,Value.slice none 0 0] [(0,2,(.t 7)),(2,1,(.t 8)),(3,1,(.t 9)),(4,1,(.t 13))])::
oo 15 (.box (.t 14) 229)::
om 6 15::[]) []) .ret))
def r64:List ResultVar:=[.tmp 6]
theorem Afe:Cf Tryz.prog 64 16 3 a64 r64:=
  ⟨rfl,Tryz.f64,_,rfl,rfl,rfl,by decide,rfl,rfl,rfl⟩
noncomputable def a65:Ay:=(.seq (.reg (
 oo 1 (.box (.t 0) 144)::
oo 2 (.mv (.c (Value.slice none 0 0)))::
oo 3 (.mv z0)::[])) (.seq (.reg (
 oo 11 (.Af (.t 1))::
oc 12 131 [(.t 11)]::[])) (.seq (.reg (
 oo 13 (.Af (.t 1))::
oo 14 (.BP (.t 13))::
oo 15 (.Ai 0 (.t 14))::
oo 16 (.Ai 0 (.t 15))::
oo 17 (.Af (.t 16))::
oo 18 (.Bb 2 (.t 17) z0)::
oo 19 (.Ai 0 (.t 18))::
oo 20 (.Af (.t 19))::
oo 21 (.BF [k0] [(0,1,(.t 20))] 1 2)::
om 4 21::[])) (.seq (.seq (.reg (
 oo 22 (.Af (.t 1))::
oo 23 (.BP (.t 22))::
oo 24 (.Ai 0 (.t 23))::
oo 25 (.Ai 0 (.t 24))::
oo 26 (.Af (.t 25))::
oo 27 (.len (.t 26))::
oo 28 (.int .eql (.t 27) z1)::[])) (.cond (.t 28) (.seq (.reg (
 om 29 4::
om 2 29::
oo 3 (.mv z0)::[])) .ret) .skip)) (.seq (.reg (
 oo 30 (.Af (.t 1))::
oc 31 132 [(.t 30),z1]::
oo 5 (.alloc [k0] 3)::
oz (.store 1 (.t 5) (.t 31))::[])) (.seq (.BN (
 oo 33 (.Af (.t 1))::
oc 34 132 [(.t 33),z0]::
oo 35 (.Af (.t 5))::
oo 36 (.int .mul (.t 34) (.t 35))::
oo 37 (.Hf (Fn.func 134) [] [(.t 1),(.t 5)])::
oc 38 133 [(.t 36),(.t 37)]::
om 32 38::
oo 39 (.extract (.t 32) 0)::
oo 40 (.extract (.t 32) 1)::
om 6 39::
om 7 40::[]) []) (.seq (.BN (
 om 41 6::
oo 42 (.Af (.t 5))::
oo 43 (.EV true (.t 41) (.t 42))::
om 44 6::
oo 45 (.Af (.t 5))::
oo 46 (.EV false (.t 44) (.t 45))::
oo 47 (.build [k0] [])::
oo 48 (.build [k0,k0,k0,k0] [(0,1,z1),(1,1,(.t 43)),(2,1,(.t 46)),(3,1,(.t 47))])::
oo 8 (.alloc [k0,k0,k0,k0] 236)::
oz (.store 4 (.t 8) (.t 48))::[]) []) (.seq (.BN (
 om 49 4::
oo 50 (.Bb 1 (.t 49) z0)::
oo 51 (.Af (.t 50))::
oo 52 (.Ai 1 (.t 8))::
oo 53 (.Af (.t 52))::
oo 54 (.int .add (.t 51) (.t 53))::
oo 55 (.Bb 1 (.t 49) z0)::
oz (.store 1 (.t 55) (.t 54))::[]) []) (.seq (.BN (
 om 56 4::
oo 57 (.Af (.t 1))::
oo 58 (.BP (.t 57))::
oo 59 (.Ai 0 (.t 58))::
oo 60 (.Ai 0 (.t 59))::
oo 61 (.Af (.t 60))::
oo 62 (.Bb 2 (.t 61) z1)::
oo 63 (.Ai 0 (.t 62))::
oo 64 (.Af (.t 63))::
oo 65 (.Ai 2 (.t 8))::
oo 66 (.Af (.t 65))::
oo 67 (.int .add (.t 64) (.t 66))::
oo 68 (.BF [k0] [(0,1,(.t 67))] 1 2)::
oo 69 (.append 2 1 8 (.t 56) (.t 68))::
om 4 69::[]) []) (.seq (.block 0 (.loop (.seq (.seq (.BN (
 oo 70 (.Ai 0 (.t 8))::
oo 71 (.Af (.t 70))::
oo 72 (.int .add (.t 71) z1)::
oo 73 (.Af (.t 1))::
oo 74 (.BP (.t 73))::
oo 75 (.Ai 0 (.t 74))::
oo 76 (.Ai 0 (.t 75))::
oo 77 (.Af (.t 76))::
oo 78 (.len (.t 77))::
oo 79 (.int .lss (.t 72) (.t 78))::[]) []) (.cond (.t 79) .skip (.exit 0))) (.block 1 (.seq (.reg (
 oo 81 (.Af (.t 1))::
oo 82 (.Az 4 (.t 8))::
oc 83 136 [(.t 81),(.t 82)]::
om 80 83::
oo 84 (.extract (.t 80) 0)::
oo 85 (.extract (.t 80) 1)::
om 9 84::
om 10 85::[])) (.seq (.reg (
 oo 87 (.Af (.t 1))::
oo 88 (.Az 4 (.t 8))::
om 89 9::
oc 90 137 [(.t 87),(.t 88),(.t 89)]::
om 86 90::
oo 91 (.extract (.t 86) 0)::
oo 92 (.extract (.t 86) 1)::
oz (.store 4 (.t 8) (.t 91))::[])) (.BN (
 om 93 4::
oo 94 (.Af (.t 1))::
oo 95 (.BP (.t 94))::
oo 96 (.Ai 0 (.t 95))::
oo 97 (.Ai 0 (.t 96))::
oo 98 (.Af (.t 97))::
oo 99 (.Ai 0 (.t 8))::
oo 100 (.Af (.t 99))::
oo 101 (.Bb 2 (.t 98) (.t 100))::
oo 102 (.Ai 0 (.t 101))::
oo 103 (.Af (.t 102))::
om 104 9::
oo 105 (.int .add (.t 103) (.t 104))::
oo 106 (.BF [k0] [(0,1,(.t 105))] 1 2)::
oo 107 (.append 2 1 8 (.t 93) (.t 106))::
om 4 107::[]) []))))))) (.seq (.reg (
 om 108 4::
om 109 7::
om 2 108::
om 3 109::[])) .ret)))))))))))
def r65:List ResultVar:=[.tmp 2,.tmp 3]
theorem Afd:Cf Tryz.prog 65 110 1 a65 r65:=
  ⟨rfl,Tryz.f65,_,rfl,rfl,rfl,by decide,rfl,rfl,rfl⟩
noncomputable def a66:Ay:=(.seq (.reg (
 oo 3 (.box (.t 0) 2)::
oo 4 (.box (.t 1) 2)::
oo 6 (.mv (.c (Value.bool false)))::[])) (.seq (.reg (
 om 7 2::
oo 8 (.Hf (Fn.func 138) [] [(.t 3),(.t 4)])::
oc 9 118 [(.t 7),(.t 8)]::
oo 10 (.not (.t 9))::
om 6 10::[])) .ret))
def r66:List ResultVar:=[.tmp 6]
theorem Afc:Cf Tryz.prog 66 11 3 a66 r66:=
  ⟨rfl,Tryz.f66,_,rfl,rfl,rfl,by decide,rfl,rfl,rfl⟩
noncomputable def a67:Ay:=(.seq (.reg (
 oo 2 (.mv z0)::
oo 3 (.mv z0)::[])) (.seq (.reg (
 oo 4 (.mv z0)::
oo 5 (.mv z0)::[])) (.seq (.reg (
 oo 6 (.alloc [k0] 234)::[])) (.seq (.seq (.reg (
 oo 7 (.mv z1)::[])) (.block 0 (.loop (.seq (.seq (.reg (
 om 12 7::
oo 13 (.int .add (.t 12) z1)::
om 14 0::
oo 15 (.len (.t 14))::
oo 16 (.int .lss (.t 13) (.t 15))::[])) (.cond (.t 16) .skip (.exit 0))) (.seq (.block 1 (.seq (.BN (
 om 19 0::
om 20 7::
oo 21 (.int .sub (.t 20) z1)::
oo 22 (.Bb 1 (.t 19) (.t 21))::
oo 23 (.Af (.t 22))::
om 24 0::
om 25 7::
oo 26 (.Bb 1 (.t 24) (.t 25))::
oo 27 (.Af (.t 26))::
oo 28 (.int .mul (.c (Value.int .i64 2)) (.t 27))::
oo 29 (.int .sub (.t 23) (.t 28))::
om 30 0::
om 31 7::
oo 32 (.int .add (.t 31) z1)::
oo 33 (.Bb 1 (.t 30) (.t 32))::
oo 34 (.Af (.t 33))::
oo 35 (.int .add (.t 29) (.t 34))::
om 8 35::[]) []) (.seq (.reg (
 oo 36 (.Az 1 (.t 6))::
oo 37 (.Hf (Fn.func 139) [(.t 36)] [])::
om 9 37::[])) (.seq (.reg (
 om 39 9::
om 40 8::
⟨(some 41),none,(.call (.t 39) [(.t 40)])⟩::
om 38 41::
oo 42 (.extract (.t 38) 0)::
oo 43 (.extract (.t 38) 1)::
oo 10 (.alloc [k0] 234)::
oz (.store 1 (.t 10) (.t 42))::
om 11 43::[])) (.seq (.reg (
 oo 44 (.Az 1 (.t 10))::
oz (.store 1 (.t 6) (.t 44))::[])) (.seq (.reg (
 om 45 4::
om 46 11::
oo 47 (.int .add (.t 45) (.t 46))::
om 4 47::[])) (.reg (
 om 48 5::
om 49 8::
om 50 8::
oo 51 (.neg (.t 50))::
oo 52 (.Il true (.t 49) (.t 51))::
oo 53 (.int .add (.t 48) (.t 52))::
om 5 53::[])))))))) (.reg (
 om 17 7::
oo 18 (.int .add (.t 17) z1)::
om 7 18::[]))))))) (.seq (.reg (
 om 54 4::
om 55 5::
om 2 54::
om 3 55::[])) .ret)))))
def r67:List ResultVar:=[.tmp 2,.tmp 3]
theorem Afb:Cf Tryz.prog 67 56 1 a67 r67:=
  ⟨rfl,Tryz.f67,_,rfl,rfl,rfl,by decide,rfl,rfl,rfl⟩
noncomputable def a68:Ay:=(.seq (.reg (
 oo 2 (.box (.t 0) 85)::
oo 4 (.mv z0)::[])) (.seq (.seq (.reg (
 oo 11 (.Az 3 (.t 2))::
oc 12 70 [(.t 11)]::
om 5 12::[])) (.seq (.reg (
 om 13 5::
oo 14 (.int .neq (.t 13) z0)::[])) (.cond (.t 14) (.seq (.reg (
 om 15 5::
om 4 15::[])) .ret) .skip))) (.seq (.seq (.reg (
 om 16 1::
oo 17 (.len (.t 16))::
oo 18 (.Ai 2 (.t 2))::
oo 19 (.Af (.t 18))::
oo 20 (.len (.t 19))::
oo 21 (.int .neq (.t 17) (.t 20))::[])) (.cond (.t 21) (.seq (.reg (
 oo 4 (.mv (.c (Value.int .i64 15)))::[])) .ret) .skip)) (.seq (.reg (
 oo 6 (.mv z0)::[])) (.seq (.seq (.reg (
 om 22 1::
oo 23 (.len (.t 22))::
oo 24 (.mv z0)::[])) (.block 0 (.loop (.seq (.reg (
 oo 25 (.int .lss (.t 24) (.t 23))::[])) (.seq (.cond (.t 25) .skip (.exit 0)) (.seq (.block 1 (.seq (.reg (
 om 26 24::
oo 27 (.Bb 1 (.t 22) (.t 24))::
oo 28 (.Af (.t 27))::
om 7 26::
om 8 28::[])) (.seq (.seq (.reg (
 om 29 8::
oo 30 (.len (.t 29))::
oo 31 (.Ai 2 (.t 2))::
oo 32 (.Af (.t 31))::
om 33 7::
oo 34 (.Bb 1 (.t 32) (.t 33))::
oo 35 (.Af (.t 34))::
oo 36 (.len (.t 35))::
oo 37 (.int .neq (.t 30) (.t 36))::[])) (.cond (.t 37) (.seq (.reg (
 oo 4 (.mv (.c (Value.int .i64 15)))::[])) .ret) .skip)) (.seq (.reg (
 om 38 8::
oo 39 (.len (.t 38))::
oo 40 (.mv z0)::[])) (.block 2 (.loop (.seq (.reg (
 oo 41 (.int .lss (.t 40) (.t 39))::[])) (.seq (.cond (.t 41) .skip (.exit 2)) (.seq (.block 3 (.seq (.reg (
 om 42 40::
oo 43 (.Bb 1 (.t 38) (.t 40))::
oo 44 (.Af (.t 43))::
om 9 42::
om 10 44::[])) (.seq (.BN (
 oo 45 (.Ai 2 (.t 2))::
oo 46 (.Af (.t 45))::
om 47 7::
oo 48 (.Bb 1 (.t 46) (.t 47))::
oo 49 (.Af (.t 48))::
om 50 9::
oo 51 (.Bb 2 (.t 49) (.t 50))::
oo 52 (.Ai 0 (.t 51))::
oo 53 (.Af (.t 52))::
oo 54 (.Ai 2 (.t 2))::
oo 55 (.Af (.t 54))::
om 56 7::
oo 57 (.Bb 1 (.t 55) (.t 56))::
oo 58 (.Af (.t 57))::
om 59 9::
oo 60 (.Bb 2 (.t 58) (.t 59))::
oo 61 (.Ai 1 (.t 60))::
oo 62 (.Af (.t 61))::
om 63 10::
oo 64 (.BF [k0] [(0,1,(.t 63))] 1 2)::
oc 65 140 [(.t 53),(.t 62),(.t 64)]::
oo 66 (.not (.t 65))::[]) []) (.cond (.t 66) (.reg (
 oo 6 (.mv (.c (Value.int .i64 3)))::[])) .skip)))) (.reg (
 oo 67 (.int .add (.t 40) z1)::
om 40 67::[]))))))))))) (.reg (
 oo 68 (.int .add (.t 24) z1)::
om 24 68::[])))))))) (.seq (.reg (
 om 69 6::
om 4 69::[])) .ret))))))
def r68:List ResultVar:=[.tmp 4]
theorem Afa:Cf Tryz.prog 68 70 2 a68 r68:=
  ⟨rfl,Tryz.f68,_,rfl,rfl,rfl,by decide,rfl,rfl,rfl⟩
noncomputable def gj:Ay:=(.reg (
 oo 7 (.alloc [k0,k0,k0,k0,Value.bool false] 249)::
oz (.store 5 (.t 7) (.t 13))::[]))
noncomputable def fZ:Ay:=(.block 1 (.BN (
 oo 14 (.Af (.t 6))::
oo 15 (.Ai 2 (.t 7))::
oo 16 (.Af (.t 15))::
oo 17 (.Af (.t 3))::
oo 18 (.Ai 0 (.t 7))::
oo 19 (.Af (.t 18))::
oo 20 (.Bb 1 (.t 17) (.t 19))::
oo 21 (.Af (.t 20))::
oo 22 (.Ai 1 (.t 7))::
oo 23 (.Af (.t 22))::
oo 24 (.Bb 1 (.t 21) (.t 23))::
oo 25 (.Af (.t 24))::
oo 26 (.int .mul (.t 16) (.t 25))::
oo 27 (.int .add (.t 14) (.t 26))::
oz (.store 1 (.t 6) (.t 27))::[]) []))
theorem Ag4:ET Tryz.prog 36 false (He Tryz.f69 0).1=some gj:=rfl
theorem Ag3:ET Tryz.prog 36 false (He Tryz.f69 0).2=some fZ:=rfl
noncomputable def a69:Ay:=(.seq (.reg (
 oo 2 (.box (.t 0) 85)::
oo 3 (.box (.t 1) 89)::
oo 4 (.alloc [k0,k0] 57)::[])) (.seq (.reg (
 oo 8 (.Az 3 (.t 2))::
oo 9 (.build [k0,k0,Value.slice none 0 0,k0] [(0,3,(.t 8)),(3,1,z0)])::
oo 10 (.box (.t 9) 244)::
om 5 10::[])) (.seq (.reg (
 oo 6 (.alloc [k0] 2)::
oz (.store 1 (.t 6) z0)::[])) (.seq (.seq (.reg (
 om 11 5::
oc 12 141 [(.t 11)]::[])) (.block 0 (.range (.t 12) [13] 36 (He Tryz.f69 0).1 (He Tryz.f69 0).2 gj fZ))) (.seq (.reg (
 oo 28 (.Ai 0 (.t 2))::
oo 29 (.Af (.t 28))::
oo 30 (.Ai 1 (.t 2))::
oo 31 (.Af (.t 30))::
oo 32 (.int .mul (.t 29) (.t 31))::
oo 33 (.Af (.t 6))::
oo 34 (.int .mul (.t 32) (.t 33))::
oc 35 142 [(.t 34),(.c (Value.int .i64 2))]::
oz (.store 2 (.t 4) (.t 35))::[])) .ret)))))
def r69:List ResultVar:=[.cell 4 57]
theorem vT:Cf Tryz.prog 69 36 2 a69 r69:=
  ⟨rfl,Tryz.f69,_,rfl,rfl,rfl,by decide,rfl,rfl,rfl⟩
noncomputable def a70:Ay:=(.seq (.reg (
 oo 1 (.box (.t 0) 85)::
oo 2 (.mv z0)::[])) (.seq (.seq (.reg (
 oo 10 (.Ai 2 (.t 1))::
oo 11 (.Af (.t 10))::
oo 12 (.len (.t 11))::
oo 13 (.int .lss (.t 12) (.c (Value.int .i64 2)))::
om 14 13::
og 15 14 false (.Ai 2 (.t 1))::
og 16 14 false (.Af (.t 15))::
og 17 14 false (.len (.t 16))::
og 18 14 false (.int .gtr (.t 17) (.c (Value.int .i64 10)))::
oo 19 (.pick (.t 14) (.c (Value.bool true)) (.t 18))::[])) (.cond (.t 19) (.seq (.reg (
 oo 2 (.mv (.c (Value.int .i64 6)))::[])) .ret) .skip)) (.seq (.reg (
 oo 20 (.Ai 2 (.t 1))::
oo 21 (.Af (.t 20))::
oo 22 (.Bb 1 (.t 21) z0)::
oo 23 (.Af (.t 22))::
oo 24 (.len (.t 23))::
oo 3 (.alloc [k0] 3)::
oz (.store 1 (.t 3) (.t 24))::[])) (.seq (.seq (.reg (
 oo 25 (.Af (.t 3))::
oo 26 (.int .lss (.t 25) (.c (Value.int .i64 2)))::
om 27 26::
og 28 27 false (.Af (.t 3))::
og 29 27 false (.int .gtr (.t 28) (.c (Value.int .i64 6)))::
oo 30 (.pick (.t 27) (.c (Value.bool true)) (.t 29))::[])) (.cond (.t 30) (.seq (.reg (
 oo 2 (.mv (.c (Value.int .i64 6)))::[])) .ret) .skip)) (.seq (.seq (.reg (
 oo 31 (.Ai 2 (.t 1))::
oo 32 (.Af (.t 31))::
oo 33 (.Hf (Fn.func 144) [] [(.t 3)])::
oc 34 143 [(.t 32),(.t 33)]::[])) (.cond (.t 34) (.seq (.reg (
 oo 2 (.mv (.c (Value.int .i64 15)))::[])) .ret) .skip)) (.seq (.reg (
 oo 35 (.Ai 0 (.t 1))::
oo 36 (.Af (.t 35))::
oo 37 (.BF [k0] [(0,1,(.t 36))] 1 2)::
oc 38 140 [z1,(.c (Value.int .i64 1000)),(.t 37)]::
om 39 38::
og 40 39 true (.Ai 1 (.t 1))::
og 41 39 true (.Af (.t 40))::
og 42 39 true (.BF [k0] [(0,1,(.t 41))] 1 2)::
F6 43 39 true 140 [z1,(.c (Value.int .i64 100)),(.t 42)]::
oo 44 (.pick (.t 39) (.t 43) (.c (Value.bool false)))::
om 4 44::[])) (.seq (.reg (
 oo 5 (.mv z0)::[])) (.seq (.seq (.reg (
 oo 45 (.Ai 2 (.t 1))::
oo 46 (.Af (.t 45))::
oo 47 (.len (.t 46))::
oo 48 (.mv z0)::[])) (.block 0 (.loop (.seq (.reg (
 oo 49 (.int .lss (.t 48) (.t 47))::[])) (.seq (.cond (.t 49) .skip (.exit 0)) (.seq (.block 1 (.seq (.reg (
 oo 50 (.Bb 1 (.t 46) (.t 48))::
oo 51 (.Af (.t 50))::
om 7 51::[])) (.seq (.reg (
 om 52 7::
oo 53 (.len (.t 52))::
oo 54 (.mv z0)::[])) (.block 2 (.loop (.seq (.reg (
 oo 55 (.int .lss (.t 54) (.t 53))::[])) (.seq (.cond (.t 55) .skip (.exit 2)) (.seq (.block 3 (.seq (.reg (
 oo 56 (.Bb 2 (.t 52) (.t 54))::
oo 57 (.Az 2 (.t 56))::
oo 9 (.alloc [k0,k0] 23)::
oz (.store 2 (.t 9) (.t 57))::[])) (.seq (.reg (
 om 58 4::
om 59 58::
og 60 59 true (.Ai 0 (.t 9))::
og 61 59 true (.Af (.t 60))::
og 62 59 true (.Ai 1 (.t 9))::
og 63 59 true (.Af (.t 62))::
og 64 59 true (.BF [k0,k0] [(0,1,(.t 61)),(1,1,(.t 63))] 2 2)::
F6 65 59 true 140 [z0,(.c (Value.int .i64 500)),(.t 64)]::
oo 66 (.pick (.t 59) (.t 65) (.c (Value.bool false)))::
om 67 66::
og 68 67 true (.Ai 1 (.t 9))::
og 69 67 true (.Af (.t 68))::
og 70 67 true (.Ai 0 (.t 9))::
og 71 67 true (.Af (.t 70))::
og 72 67 true (.int .sub (.t 69) (.t 71))::
og 73 67 true (.BF [k0] [(0,1,(.t 72))] 1 2)::
F6 74 67 true 140 [z0,(.c (Value.int .i64 20)),(.t 73)]::
oo 75 (.pick (.t 67) (.t 74) (.c (Value.bool false)))::
om 4 75::[])) (.reg (
 om 76 5::
oo 77 (.Ai 0 (.t 9))::
oo 78 (.Af (.t 77))::
oo 79 (.Il true (.t 76) (.t 78))::
om 5 79::[]))))) (.reg (
 oo 80 (.int .add (.t 54) z1)::
om 54 80::[])))))))))) (.reg (
 oo 81 (.int .add (.t 48) z1)::
om 48 81::[])))))))) (.seq (.seq (.reg (
 om 82 4::
oo 83 (.not (.t 82))::
om 84 83::
og 85 84 false (.mv (.t 5))::
og 86 84 false (.int .eql (.t 85) z0)::
oo 87 (.pick (.t 84) (.c (Value.bool true)) (.t 86))::[])) (.cond (.t 87) (.seq (.reg (
 oo 2 (.mv (.c (Value.int .i64 2)))::[])) .ret) .skip)) (.seq (.reg (
 oo 2 (.mv z0)::[])) .ret))))))))))
def r70:List ResultVar:=[.tmp 2]
theorem Ae9:Cf Tryz.prog 70 88 1 a70 r70:=
  ⟨rfl,Tryz.f70,_,rfl,rfl,rfl,by decide,rfl,rfl,rfl⟩
noncomputable def a71:Ay:=(.seq (.reg (
 oo 2 (.box (.t 0) 85)::
oo 4 (.mv (.c (Value.slice none 0 0)))::[])) (.seq (.reg (
 oo 5 (.mv (.c (Value.slice none 0 0)))::[])) (.seq (.seq (.reg (
 oo 11 (.Ai 2 (.t 2))::
oo 12 (.Af (.t 11))::
oo 13 (.len (.t 12))::
oo 14 (.mv z0)::[])) (.block 0 (.loop (.seq (.reg (
 oo 15 (.int .lss (.t 14) (.t 13))::[])) (.seq (.cond (.t 15) .skip (.exit 0)) (.seq (.block 1 (.seq (.reg (
 om 16 14::
oo 17 (.Bb 1 (.t 12) (.t 14))::
oo 18 (.Af (.t 17))::
om 6 16::
om 7 18::[])) (.seq (.reg (
 om 19 7::
oo 20 (.len (.t 19))::
oo 21 (.FP [k0] 8 2 (.t 20) (.t 20))::
om 8 21::[])) (.seq (.seq (.reg (
 om 22 7::
oo 23 (.len (.t 22))::
oo 24 (.mv z0)::[])) (.block 2 (.loop (.seq (.reg (
 oo 25 (.int .lss (.t 24) (.t 23))::[])) (.seq (.cond (.t 25) .skip (.exit 2)) (.seq (.block 3 (.seq (.reg (
 om 26 24::
oo 27 (.Bb 2 (.t 22) (.t 24))::
oo 28 (.Az 2 (.t 27))::
oo 10 (.alloc [k0,k0] 23)::
om 9 26::
oz (.store 2 (.t 10) (.t 28))::[])) (.reg (
 om 29 8::
om 30 9::
om 31 1::
om 32 6::
om 33 9::
oo 34 (.Az 2 (.t 10))::
⟨(some 35),none,(.call (.t 31) [(.t 32),(.t 33),(.t 34)])⟩::
oo 36 (.Bb 1 (.t 29) (.t 30))::
oz (.store 1 (.t 36) (.t 35))::[])))) (.reg (
 oo 37 (.int .add (.t 24) z1)::
om 24 37::[])))))))) (.reg (
 om 38 5::
om 39 8::
oo 40 (.BF [Value.slice none 0 0] [(0,1,(.t 39))] 1 37)::
oo 41 (.append 37 1 24 (.t 38) (.t 40))::
om 5 41::[])))))) (.reg (
 oo 42 (.int .add (.t 14) z1)::
om 14 42::[])))))))) (.seq (.reg (
 om 43 5::
om 4 43::[])) .ret))))
def r71:List ResultVar:=[.tmp 4]
theorem Ae8:Cf Tryz.prog 71 44 2 a71 r71:=
  ⟨rfl,Tryz.f71,_,rfl,rfl,rfl,by decide,rfl,rfl,rfl⟩
noncomputable def a72:Ay:=(.seq (.reg (
 oo 5 (.box (.t 2) 23)::
oo 6 (.mv z0)::[])) (.seq (.reg (
 oo 7 (.Ai 0 (.t 5))::
oo 8 (.Af (.t 7))::
om 6 8::[])) .ret))
def r72:List ResultVar:=[.tmp 6]
theorem Ae7:Cf Tryz.prog 72 9 3 a72 r72:=
  ⟨rfl,Tryz.f72,_,rfl,rfl,rfl,by decide,rfl,rfl,rfl⟩
noncomputable def a73:Ay:=(.seq (.reg (
 oo 5 (.box (.t 2) 23)::
oo 6 (.mv z0)::[])) (.seq (.reg (
 oo 7 (.Ai 1 (.t 5))::
oo 8 (.Af (.t 7))::
om 6 8::[])) .ret))
def r73:List ResultVar:=[.tmp 6]
theorem Ae6:Cf Tryz.prog 73 9 3 a73 r73:=
  ⟨rfl,Tryz.f73,_,rfl,rfl,rfl,by decide,rfl,rfl,rfl⟩
noncomputable def a74:Ay:=(.seq (.reg (
 oo 2 (.box (.t 0) 2)::
oo 4 (.mv (.c (Value.bool false)))::[])) (.seq (.reg (
 om 5 1::
oo 6 (.Hf (Fn.func 145) [] [(.t 2)])::
oc 7 118 [(.t 5),(.t 6)]::
oo 8 (.not (.t 7))::
om 4 8::[])) .ret))
def r74:List ResultVar:=[.tmp 4]
theorem Ae5:Cf Tryz.prog 74 9 2 a74 r74:=
  ⟨rfl,Tryz.f74,_,rfl,rfl,rfl,by decide,rfl,rfl,rfl⟩
noncomputable def a75:Ay:=(.seq (.reg (
 oo 2 (.box (.t 0) 23)::
oo 4 (.mv (.c (Value.bool false)))::[])) (.seq (.reg (
 oo 5 (.Ai 0 (.t 2))::
oo 6 (.Af (.t 5))::
om 7 1::
oo 8 (.int .leq (.t 6) (.t 7))::
om 9 8::
og 10 9 true (.mv (.t 1))::
og 11 9 true (.Ai 1 (.t 2))::
og 12 9 true (.Af (.t 11))::
og 13 9 true (.int .leq (.t 10) (.t 12))::
oo 14 (.pick (.t 9) (.t 13) (.c (Value.bool false)))::
om 4 14::[])) .ret))
def r75:List ResultVar:=[.tmp 4]
theorem Ae4:Cf Tryz.prog 75 15 2 a75 r75:=
  ⟨rfl,Tryz.f75,_,rfl,rfl,rfl,by decide,rfl,rfl,rfl⟩
noncomputable def a76:Ay:=(.seq (.reg (
 oo 0 (.mv (.c (Value.bool false)))::[])) (.seq (.reg (
 oc 1 146 []::
om 2 1::
F6 3 2 true 147 []::
oo 4 (.pick (.t 2) (.t 3) (.c (Value.bool false)))::
om 5 4::
F6 6 5 true 148 []::
oo 7 (.pick (.t 5) (.t 6) (.c (Value.bool false)))::
om 0 7::[])) .ret))
def r76:List ResultVar:=[.tmp 0]
theorem Ae3:Cf Tryz.prog 76 8 0 a76 r76:=
  ⟨rfl,Tryz.f76,_,rfl,rfl,rfl,by decide,rfl,rfl,rfl⟩
noncomputable def a96:Ay:=(.seq (.reg (
 oo 4 (.mv (.c (Value.bool false)))::[])) (.seq (.reg (
 om 5 0::
oo 6 (.int .geq (.t 5) z0)::
om 7 6::
og 8 7 true (.mv (.t 0))::
og 9 7 true (.mv (.t 1))::
og 10 7 true (.int .lss (.t 8) (.t 9))::
oo 11 (.pick (.t 7) (.t 10) (.c (Value.bool false)))::
om 4 11::[])) .ret))
def r96:List ResultVar:=[.tmp 4]
theorem Ae2:Cf Tryz.prog 96 12 2 a96 r96:=
  ⟨rfl,Tryz.f96,_,rfl,rfl,rfl,by decide,rfl,rfl,rfl⟩
noncomputable def a97:Ay:=(.seq (.reg (
 oo 1 (.box (.t 0) 23)::
oo 2 (.mv (.c (Value.bool false)))::[])) (.seq (.reg (
 oo 3 (.Ai 0 (.t 1))::
oo 4 (.Af (.t 3))::
oo 5 (.Ai 1 (.t 1))::
oo 6 (.Af (.t 5))::
oo 7 (.int .leq (.t 4) (.t 6))::
om 8 7::
og 9 8 true (.Ai 0 (.t 1))::
og 10 8 true (.Af (.t 9))::
og 11 8 true (.Ai 1 (.t 1))::
og 12 8 true (.Af (.t 11))::
og 13 8 true (.BF [k0,k0] [(0,1,(.t 10)),(1,1,(.t 12))] 2 2)::
F6 14 8 true 74 [(.c (Value.int .i64 1000000)),(.t 13)]::
oo 15 (.pick (.t 8) (.t 14) (.c (Value.bool false)))::
om 2 15::[])) .ret))
def r97:List ResultVar:=[.tmp 2]
theorem Ae1:Cf Tryz.prog 97 16 1 a97 r97:=
  ⟨rfl,Tryz.f97,_,rfl,rfl,rfl,by decide,rfl,rfl,rfl⟩
noncomputable def a98:Ay:=(.seq (.reg (
 oo 4 (.mv (.c (Value.bool false)))::[])) (.seq (.reg (
 om 5 0::
om 6 1::
oc 7 188 [(.t 5),(.t 6)]::
oo 8 (.int .geq (.t 7) z0)::
om 4 8::[])) .ret))
def r98:List ResultVar:=[.tmp 4]
theorem Ae0:Cf Tryz.prog 98 9 2 a98 r98:=
  ⟨rfl,Tryz.f98,_,rfl,rfl,rfl,by decide,rfl,rfl,rfl⟩
noncomputable def a99:Ay:=(.seq (.reg (
 oo 3 (.box (.t 0) 33)::
oo 4 (.mv (.c (Value.bool false)))::[])) (.seq (.reg (
 oo 5 (.Af (.t 1))::
oo 6 (.Ai 0 (.t 3))::
oo 7 (.Af (.t 6))::
oo 8 (.Ai 0 (.t 2))::
oo 9 (.Af (.t 8))::
⟨(some 10),none,(.call (.t 5) [(.t 7),(.t 9)])⟩::
oo 11 (.not (.t 10))::
om 12 11::
og 13 12 false (.Af (.t 1))::
og 14 12 false (.Ai 1 (.t 3))::
og 15 12 false (.Af (.t 14))::
og 16 12 false (.Ai 1 (.t 2))::
og 17 12 false (.Af (.t 16))::
⟨(some 18),(some (12,false)),(.call (.t 13) [(.t 15),(.t 17)])⟩::
og 19 12 false (.not (.t 18))::
oo 20 (.pick (.t 12) (.c (Value.bool true)) (.t 19))::
om 4 20::[])) .ret))
def r99:List ResultVar:=[.tmp 4]
theorem Aez:Cf Tryz.prog 99 21 3 a99 r99:=
  ⟨rfl,Tryz.f99,_,rfl,rfl,rfl,by decide,rfl,rfl,rfl⟩
noncomputable def Ai9:Ay:=(.seq (.reg (
 oo 1 (.box (.t 0) 33)::
oo 2 (.mv (.c (Value.bool false)))::[])) (.seq (.reg (
 oo 3 (.Ai 2 (.t 1))::
oo 4 (.Az 2 (.t 3))::
oc 5 97 [(.t 4)]::
oo 6 (.not (.t 5))::
om 2 6::[])) .ret))
def Amm:List ResultVar:=[.tmp 2]
theorem Aa9:Cf Tryz.prog 100 7 1 Ai9 Amm:=
  ⟨rfl,Tryz.f100,_,rfl,rfl,rfl,by decide,rfl,rfl,rfl⟩
noncomputable def Ai8:Ay:=(.seq (.reg (
 om 9 0::
om 10 1::
om 11 2::
oo 12 (.BP (.t 9))::
oo 13 (.Ai 6 (.t 12))::
oo 14 (.Cc 13 26 (.t 13) (.t 10))::
oo 15 (.Cc 13 2 (.t 14) (.t 11))::
oo 16 (.Az 2 (.t 15))::
oo 8 (.alloc [Value.bool false,k0] 182)::
oz (.store 2 (.t 8) (.t 16))::[])) (.BN (
 om 17 0::
om 18 1::
om 19 2::
om 20 3::
oo 21 (.Hf (Fn.func 190) [] [(.t 8)])::
oc 22 189 [(.t 20),(.t 21)]::
oo 23 (.build [Value.bool false,k0] [(0,1,(.c (Value.bool true))),(1,1,(.t 22))])::
oo 24 (.BP (.t 17))::
oo 25 (.Ai 6 (.t 24))::
oo 26 (.Cc 13 26 (.t 25) (.t 18))::
oo 27 (.Cc 13 2 (.t 26) (.t 19))::
oz (.store 2 (.t 27) (.t 23))::[]) []))
def Aml:List ResultVar:=[]
theorem Aa8:Cf Tryz.prog 101 28 4 Ai8 Aml:=
  ⟨rfl,Tryz.f101,_,rfl,rfl,rfl,by decide,rfl,rfl,rfl⟩
noncomputable def Xk:Ay:=(.reg (
 oo 7 (.alloc [k0,k0,k0] 305)::
oz (.store 3 (.t 7) (.t 31))::[]))
noncomputable def Xj:Ay:=(.block 3 (.seq (.BN (
 oo 32 (.Af (.t 6))::
oo 33 (.Ai 0 (.t 7))::
oo 34 (.Af (.t 33))::
oo 35 (.BP (.t 32))::
oo 36 (.Ai 1 (.t 35))::
oo 37 (.Cc 13 2 (.t 36) (.t 34))::
oo 38 (.Az 2 (.t 37))::
oo 39 (.Af (.t 6))::
oo 40 (.Ai 1 (.t 7))::
oo 41 (.Af (.t 40))::
oo 42 (.BP (.t 39))::
oo 43 (.Ai 1 (.t 42))::
oo 44 (.Cc 13 2 (.t 43) (.t 41))::
oo 45 (.Az 2 (.t 44))::
oo 8 (.alloc [Value.bool false,k0] 182)::
oo 9 (.alloc [Value.bool false,k0] 182)::
oz (.store 2 (.t 8) (.t 38))::
oz (.store 2 (.t 9) (.t 45))::[]) [((.t 6),(.t 8)),((.t 40),(.t 8)),((.t 44),(.t 8))]) (.seq (.reg (
 oo 46 (.Ai 0 (.t 8))::
oo 47 (.Af (.t 46))::
om 48 47::
og 49 48 true (.Ai 0 (.t 9))::
og 50 48 true (.Af (.t 49))::
og 51 48 true (.not (.t 50))::
og 52 48 true (.mv (.t 51))::
og 53 52 false (.Ai 1 (.t 8))::
og 54 52 false (.Af (.t 53))::
og 55 52 false (.Ai 2 (.t 7))::
og 56 52 false (.Af (.t 55))::
og 57 52 false (.int .add (.t 54) (.t 56))::
og 58 52 false (.Ai 1 (.t 9))::
og 59 52 false (.Af (.t 58))::
og 60 52 false (.int .lss (.t 57) (.t 59))::
og 61 48 true (.pick (.t 52) (.c (Value.bool true)) (.t 60))::
oo 62 (.pick (.t 48) (.t 61) (.c (Value.bool false)))::[])) (.cond (.t 62) (.seq (.BN (
 oo 63 (.Af (.t 6))::
oo 64 (.Ai 1 (.t 7))::
oo 65 (.Af (.t 64))::
oo 66 (.Ai 1 (.t 8))::
oo 67 (.Af (.t 66))::
oo 68 (.Ai 2 (.t 7))::
oo 69 (.Af (.t 68))::
oo 70 (.int .add (.t 67) (.t 69))::
oo 71 (.build [Value.bool false,k0] [(0,1,(.c (Value.bool true))),(1,1,(.t 70))])::
oo 72 (.BP (.t 63))::
oo 73 (.Ai 1 (.t 72))::
oo 74 (.Cc 13 2 (.t 73) (.t 65))::
oz (.store 2 (.t 74) (.t 71))::[]) []) (.seq (.BN (
 oo 75 (.Af (.t 6))::
oo 76 (.BP (.t 75))::
oo 77 (.Ai 27 (.t 76))::
oo 78 (.Af (.t 77))::
oo 79 (.Ai 1 (.t 7))::
oo 80 (.Af (.t 79))::
oo 81 (.Ai 0 (.t 7))::
oo 82 (.Af (.t 81))::
oz (.Ig 3 (.t 78) (.t 80) (.t 82))::[]) []) (.reg (
 oo 83 (.Af (.t 6))::
oo 84 (.Ai 1 (.t 7))::
oo 85 (.Af (.t 84))::
oo 86 (.BP (.t 83))::
oo 87 (.Ai 28 (.t 86))::
oz (.store 1 (.t 87) (.t 85))::[])))) .skip))))
theorem Ab2:ET Tryz.prog 95 false (He Tryz.f102 0).1=some Xk:=rfl
theorem Ab1:ET Tryz.prog 95 false (He Tryz.f102 0).2=some Xj:=rfl
noncomputable def Ai7:Ay:=(.seq (.reg (
 oo 4 (.mv (.c (Value.pointer none)))::
oo 5 (.mv (.c (Value.bool false)))::[])) (.seq (.reg (
 om 10 0::
oo 11 (.LO)::
oo 12 (.build [Value.pointer none,Value.bool false,k0,Value.bool false,k0,Value.bool false,k0,Value.bool false,k0,Value.bool false,k0,Value.bool false,k0,Value.bool false,k0,Value.bool false,k0,Value.bool false,k0,Value.bool false,k0,Value.bool false,k0,Value.bool false,k0,Value.bool false,k0,Value.map none,k0] [(0,1,(.t 10)),(27,1,(.t 11)),(28,1,(.c (Value.int .i64 (-1))))])::
oo 13 (.box (.t 12) 192)::
oo 6 (.alloc [Value.pointer none] 99)::
oz (.store 1 (.t 6) (.t 13))::[])) (.seq (.reg (
 oo 14 (.Af (.t 6))::
om 15 1::
oo 16 (.build [Value.bool false,k0] [(0,1,(.c (Value.bool true))),(1,1,z0)])::
oo 17 (.BP (.t 14))::
oo 18 (.Ai 1 (.t 17))::
oo 19 (.Cc 13 2 (.t 18) (.t 15))::
oz (.store 2 (.t 19) (.t 16))::[])) (.seq (.seq (.reg (
 om 20 0::
oo 21 (.BP (.t 20))::
oo 22 (.Ai 5 (.t 21))::
oo 23 (.Af (.t 22))::
oo 24 (.mv z0)::[])) (.block 0 (.loop (.seq (.reg (
 oo 25 (.int .lss (.t 24) (.t 23))::[])) (.seq (.cond (.t 25) .skip (.exit 0)) (.seq (.block 1 (.seq (.reg (
 oo 26 (.Af (.t 6))::
oo 27 (.BP (.t 26))::
oo 28 (.Ai 28 (.t 27))::
oz (.store 1 (.t 28) (.c (Value.int .i64 (-1))))::[])) (.seq (.reg (
 om 29 0::
oc 30 191 [(.t 29)]::[])) (.block 2 (.range (.t 30) [31] 95 (He Tryz.f102 0).1 (He Tryz.f102 0).2 Xk Xj))))) (.reg (
 oo 88 (.int .add (.t 24) z1)::
om 24 88::[])))))))) (.seq (.BN (
 oo 89 (.Af (.t 6))::
oo 90 (.Af (.t 6))::
oo 91 (.BP (.t 90))::
oo 92 (.Ai 28 (.t 91))::
oo 93 (.Af (.t 92))::
oo 94 (.int .lss (.t 93) z0)::
om 4 89::
om 5 94::[]) []) .ret)))))
def Amk:List ResultVar:=[.tmp 4,.tmp 5]
theorem oL:Cf Tryz.prog 102 95 2 Ai7 Amk:=
  ⟨rfl,Tryz.f102,_,rfl,rfl,rfl,by decide,rfl,rfl,rfl⟩
noncomputable def Ai6:Ay:=(.seq (.reg (
 oo 4 (.mv z0)::[])) (.seq (.reg (
 om 5 0::
om 6 1::
oo 7 (.BP (.t 5))::
oo 8 (.Ai 1 (.t 7))::
oo 9 (.Cc 13 2 (.t 8) (.t 6))::
oo 10 (.Ai 1 (.t 9))::
oo 11 (.Af (.t 10))::
om 4 11::[])) .ret))
def Amj:List ResultVar:=[.tmp 4]
theorem Aa7:Cf Tryz.prog 103 12 2 Ai6 Amj:=
  ⟨rfl,Tryz.f103,_,rfl,rfl,rfl,by decide,rfl,rfl,rfl⟩
noncomputable def Ai5:Ay:=(.seq (.reg (
 oo 1 (.box (.t 0) 113)::
oo 2 (.mv (.c (Value.nilFunc)))::[])) (.seq (.reg (
 oo 3 (.Hf (Fn.func 192) [] [(.t 1)])::
om 2 3::[])) .ret))
def Ami:List ResultVar:=[.tmp 2]
theorem Aa6:Cf Tryz.prog 104 4 1 Ai5 Ami:=
  ⟨rfl,Tryz.f104,_,rfl,rfl,rfl,by decide,rfl,rfl,rfl⟩
noncomputable def a105:Ay:=(.seq (.reg (
 oo 4 (.alloc [k0,k0] 57)::[])) (.seq (.reg (
 om 6 0::
om 7 1::
oc 8 194 [(.t 6),(.t 7)]::
om 5 8::[])) (.seq (.BN (
 om 9 0::
om 10 5::
oo 11 (.EV true (.t 9) (.t 10))::
om 12 1::
om 13 5::
oo 14 (.EV true (.t 12) (.t 13))::
oo 15 (.build [k0,k0] [(0,1,(.t 11)),(1,1,(.t 14))])::
oz (.store 2 (.t 4) (.t 15))::[]) []) .ret)))
def Amh:List ResultVar:=[.cell 4 57]
theorem Aa5:Cf Tryz.prog 105 16 2 a105 Amh:=
  ⟨rfl,Tryz.f105,_,rfl,rfl,rfl,by decide,rfl,rfl,rfl⟩
noncomputable def Acm:Ay:=(.seq (.reg (
 oo 2 (.mv (.c (Value.map none)))::[])) (.seq (.seq (.reg (
 om 3 0::
oo 4 (.cmp none false (.t 3) (.c (Value.map none)) (Fa Tryz.f106 1 1))::[])) (.cond (.t 4) (.seq (.reg (
 oo 2 (.mv (.c (Value.map none)))::[])) .ret) .skip)) (.seq (.reg (
 om 5 0::
oo 6 (.Wl 190 (.t 5))::
oc 7 195 [(.t 6)]::
oo 8 (.rG 190 (Value.map none) false (.t 7))::
om 2 8::[])) .ret)))
def Amg:List ResultVar:=[.tmp 2]
theorem oK:Cf Tryz.prog 106 9 1 Acm Amg:=
  ⟨rfl,Tryz.f106,_,rfl,rfl,rfl,by decide,rfl,rfl,rfl⟩
noncomputable def a107:Ay:=(.seq (.reg (
 om 4 0::
oo 5 (.len (.t 4))::
oo 6 (.int .sub (.t 5) z1)::
oo 2 (.mv z0)::
om 3 6::[])) (.block 0 (.loop (.seq (.seq (.reg (
 om 7 2::
om 8 3::
oo 9 (.int .lss (.t 7) (.t 8))::[])) (.cond (.t 9) .skip (.exit 0))) (.seq (.block 1 (.BN (
 om 14 0::
om 15 2::
om 16 0::
om 17 3::
om 18 0::
om 19 3::
oo 20 (.Bb 1 (.t 18) (.t 19))::
oo 21 (.Af (.t 20))::
om 22 0::
om 23 2::
oo 24 (.Bb 1 (.t 22) (.t 23))::
oo 25 (.Af (.t 24))::
oo 26 (.Bb 1 (.t 14) (.t 15))::
oz (.store 1 (.t 26) (.t 21))::
oo 27 (.Bb 1 (.t 16) (.t 17))::
oz (.store 1 (.t 27) (.t 25))::[]) [])) (.reg (
 om 10 2::
oo 11 (.int .add (.t 10) z1)::
om 12 3::
oo 13 (.int .sub (.t 12) z1)::
om 2 11::
om 3 13::[])))))))
def Amf:List ResultVar:=[]
theorem Aa4:Cf Tryz.prog 107 28 1 a107 Amf:=
  ⟨rfl,Tryz.f107,_,rfl,rfl,rfl,by decide,rfl,rfl,rfl⟩
noncomputable def Ai4:Ay:=(.seq (.reg (
 oo 4 (.mv (.c (Value.bool false)))::[])) (.seq (.reg (
 om 5 0::
om 6 1::
oc 7 196 [(.t 5),(.t 6)]::
oo 8 (.int .geq (.t 7) z0)::
om 4 8::[])) .ret))
def Ame:List ResultVar:=[.tmp 4]
theorem Aa3:Cf Tryz.prog 108 9 2 Ai4 Ame:=
  ⟨rfl,Tryz.f108,_,rfl,rfl,rfl,by decide,rfl,rfl,rfl⟩
noncomputable def a109:Ay:=(.seq (.reg (
 oo 1 (.box (.t 0) 27)::
oo 2 (.mv (.c (Value.bool false)))::[])) (.seq (.reg (
 oo 3 (.Az 4 (.t 1))::
oc 4 110 [(.t 3)]::
oo 5 (.not (.t 4))::
om 2 5::[])) .ret))
def Amd:List ResultVar:=[.tmp 2]
theorem Aa2:Cf Tryz.prog 109 6 1 a109 Amd:=
  ⟨rfl,Tryz.f109,_,rfl,rfl,rfl,by decide,rfl,rfl,rfl⟩
noncomputable def Ai3:Ay:=(.seq (.reg (
 oo 1 (.box (.t 0) 27)::
oo 2 (.mv (.c (Value.bool false)))::[])) (.seq (.reg (
 oo 3 (.Ai 0 (.t 1))::
oo 4 (.Af (.t 3))::
oo 5 (.Ai 1 (.t 1))::
oo 6 (.Af (.t 5))::
oo 7 (.BF [k0,k0] [(0,1,(.t 4)),(1,1,(.t 6))] 2 2)::
oc 8 197 [(.t 7)]::
om 9 8::
og 10 9 true (.Ai 0 (.t 1))::
og 11 9 true (.Af (.t 10))::
og 12 9 true (.int .neq (.t 11) z0)::
og 13 9 true (.mv (.t 12))::
og 14 13 false (.Ai 1 (.t 1))::
og 15 13 false (.Af (.t 14))::
og 16 13 false (.int .neq (.t 15) z0)::
og 17 9 true (.pick (.t 13) (.c (Value.bool true)) (.t 16))::
oo 18 (.pick (.t 9) (.t 17) (.c (Value.bool false)))::
om 19 18::
og 20 19 true (.Ai 2 (.t 1))::
og 21 19 true (.Ai 0 (.t 20))::
og 22 19 true (.Af (.t 21))::
og 23 19 true (.Ai 2 (.t 1))::
og 24 19 true (.Ai 1 (.t 23))::
og 25 19 true (.Af (.t 24))::
og 26 19 true (.int .leq (.t 22) (.t 25))::
oo 27 (.pick (.t 19) (.t 26) (.c (Value.bool false)))::
om 28 27::
og 29 28 true (.Ai 2 (.t 1))::
og 30 28 true (.Ai 0 (.t 29))::
og 31 28 true (.Af (.t 30))::
og 32 28 true (.Ai 2 (.t 1))::
og 33 28 true (.Ai 1 (.t 32))::
og 34 28 true (.Af (.t 33))::
og 35 28 true (.BF [k0,k0] [(0,1,(.t 31)),(1,1,(.t 34))] 2 2)::
F6 36 28 true 54 [(.c (Value.int .i64 (-100000))),(.c (Value.int .i64 100000)),(.t 35)]::
oo 37 (.pick (.t 28) (.t 36) (.c (Value.bool false)))::
om 2 37::[])) .ret))
def Amc:List ResultVar:=[.tmp 2]
theorem Aa1:Cf Tryz.prog 110 38 1 Ai3 Amc:=
  ⟨rfl,Tryz.f110,_,rfl,rfl,rfl,by decide,rfl,rfl,rfl⟩
noncomputable def Ai2:Ay:=(.seq (.reg (
 oo 1 (.box (.t 0) 27)::
oo 2 (.alloc [k0,k0,k0,k0,k0,k0,k0,k0,k0,k0] 207)::[])) (.seq (.reg (
 oo 3 (.Az 4 (.t 1))::
oo 4 (.Ai 0 (.t 1))::
oo 5 (.Af (.t 4))::
oo 6 (.Ai 1 (.t 1))::
oo 7 (.Af (.t 6))::
oo 8 (.Ai 2 (.t 1))::
oo 9 (.Ai 0 (.t 8))::
oo 10 (.Af (.t 9))::
oo 11 (.build [k0,k0,k0] [(0,1,(.t 5)),(1,1,(.t 7)),(2,1,(.t 10))])::
oo 12 (.Ai 0 (.t 1))::
oo 13 (.Af (.t 12))::
oo 14 (.neg (.t 13))::
oo 15 (.Ai 1 (.t 1))::
oo 16 (.Af (.t 15))::
oo 17 (.neg (.t 16))::
oo 18 (.Ai 2 (.t 1))::
oo 19 (.Ai 1 (.t 18))::
oo 20 (.Af (.t 19))::
oo 21 (.neg (.t 20))::
oo 22 (.build [k0,k0,k0] [(0,1,(.t 14)),(1,1,(.t 17)),(2,1,(.t 21))])::
oo 23 (.build [k0,k0,k0,k0,k0,k0,k0,k0,k0,k0] [(0,4,(.t 3)),(4,3,(.t 11)),(7,3,(.t 22))])::
oz (.store 10 (.t 2) (.t 23))::[])) .ret))
def Amb:List ResultVar:=[.cell 2 207]
theorem Aa0:Cf Tryz.prog 111 24 1 Ai2 Amb:=
  ⟨rfl,Tryz.f111,_,rfl,rfl,rfl,by decide,rfl,rfl,rfl⟩
noncomputable def Ai1:Ay:=(.seq (.reg (
 oo 2 (.box (.t 0) 113)::
oo 3 (.box (.t 1) 3)::
oo 4 (.mv (.c (Value.nilFunc)))::[])) (.seq (.reg (
 oo 5 (.Hf (Fn.func 198) [] [(.t 2),(.t 3)])::
om 4 5::[])) .ret))
def Ama:List ResultVar:=[.tmp 4]
theorem Aaz:Cf Tryz.prog 112 6 2 Ai1 Ama:=
  ⟨rfl,Tryz.f112,_,rfl,rfl,rfl,by decide,rfl,rfl,rfl⟩
noncomputable def uZ:Ay:=(.seq (.reg (
 oo 4 (.alloc [Value.map none,k0,k0,k0,k0] 111)::[])) (.seq (.seq (.reg (
 om 15 1::
oo 16 (.len (.t 15))::[])) (.block 0 (.seq (.reg (
 oo 18 (.int .eql (.t 16) (.c (Value.int .i64 2)))::
om 17 18::[])) (.cond (.t 17) (.seq (.BN (
 om 19 0::
oo 20 (.BP (.t 19))::
oo 21 (.Ai 1 (.t 20))::
oo 22 (.Af (.t 21))::
om 23 1::
oo 24 (.Bb 1 (.t 23) z0)::
oo 25 (.Af (.t 24))::
oo 26 (.Bb 3 (.t 22) (.t 25))::
oo 27 (.Az 3 (.t 26))::
om 28 0::
oo 29 (.BP (.t 28))::
oo 30 (.Ai 1 (.t 29))::
oo 31 (.Af (.t 30))::
om 32 1::
oo 33 (.Bb 1 (.t 32) z1)::
oo 34 (.Af (.t 33))::
oo 35 (.Bb 3 (.t 31) (.t 34))::
oo 36 (.Az 3 (.t 35))::
oo 5 (.alloc [k0,k0,k0] 109)::
oo 6 (.alloc [k0,k0,k0] 109)::
oz (.store 3 (.t 5) (.t 27))::
oz (.store 3 (.t 6) (.t 36))::[]) [((.t 30),(.t 5)),((.t 33),(.t 5)),((.t 35),(.t 5))]) (.seq (.BN (
 oo 37 (.Az 3 (.t 6))::
oc 38 199 [(.t 37)]::
oo 39 (.Az 3 (.t 5))::
oc 40 199 [(.t 39)]::
om 7 38::
om 8 40::[]) []) (.seq (.BN (
 oo 41 (.Az 3 (.t 5))::
oo 42 (.Az 3 (.t 6))::
oc 43 193 [(.t 41),(.t 42)]::
oo 44 (.int .eql (.t 43) z0)::
om 45 44::
og 46 45 true (.Az 3 (.t 5))::
og 47 45 true (.mv (.t 7))::
F6 48 45 true 201 [(.t 46),(.t 47)]::
og 49 45 true (.Az 3 (.t 6))::
og 50 45 true (.mv (.t 8))::
F6 51 45 true 201 [(.t 49),(.t 50)]::
og 52 45 true (.BF [k0,k0,k0,k0,k0,k0] [(0,3,(.t 48)),(3,3,(.t 51))] 2 109)::
F6 53 45 true 200 [(.t 52)]::
F6 54 45 true 114 [(.t 53)]::
og 55 45 true (.build [k0,k0,k0] [])::
og 56 45 true (.pure (Fa Tryz.f113 5 15))::
oo 57 (.pick (.t 45) (.t 56) (.c (Value.bool false)))::[]) []) (.cond (.t 57) (.seq (.reg (
 om 58 0::
om 59 1::
om 60 7::
om 61 8::
oo 62 (.BF [k0,k0] [(0,1,(.t 60)),(1,1,(.t 61))] 2 2)::
oc 63 202 [(.t 58),(.t 59),z1,(.t 62)]::
oz (.store 5 (.t 4) (.t 63))::[])) .ret) .skip)))) (.seq (.reg (
 oo 65 (.int .eql (.t 16) (.c (Value.int .i64 3)))::
om 64 65::[])) (.cond (.t 64) (.seq (.BN (
 om 66 0::
oo 67 (.BP (.t 66))::
oo 68 (.Ai 1 (.t 67))::
oo 69 (.Af (.t 68))::
om 70 1::
oo 71 (.Bb 1 (.t 70) z0)::
oo 72 (.Af (.t 71))::
oo 73 (.Bb 3 (.t 69) (.t 72))::
oo 74 (.Az 3 (.t 73))::
om 75 0::
oo 76 (.BP (.t 75))::
oo 77 (.Ai 1 (.t 76))::
oo 78 (.Af (.t 77))::
om 79 1::
oo 80 (.Bb 1 (.t 79) z1)::
oo 81 (.Af (.t 80))::
oo 82 (.Bb 3 (.t 78) (.t 81))::
oo 83 (.Az 3 (.t 82))::
om 84 0::
oo 85 (.BP (.t 84))::
oo 86 (.Ai 1 (.t 85))::
oo 87 (.Af (.t 86))::
om 88 1::
oo 89 (.Bb 1 (.t 88) (.c (Value.int .i64 2)))::
oo 90 (.Af (.t 89))::
oo 91 (.Bb 3 (.t 87) (.t 90))::
oo 92 (.Az 3 (.t 91))::
oo 9 (.alloc [k0,k0,k0] 109)::
oo 10 (.alloc [k0,k0,k0] 109)::
oo 11 (.alloc [k0,k0,k0] 109)::
oz (.store 3 (.t 9) (.t 74))::
oz (.store 3 (.t 10) (.t 83))::
oz (.store 3 (.t 11) (.t 92))::[]) [((.t 77),(.t 9)),((.t 80),(.t 9)),((.t 82),(.t 9)),((.t 86),(.t 9)),((.t 89),(.t 9)),((.t 91),(.t 9)),((.t 86),(.t 10)),((.t 89),(.t 10)),((.t 91),(.t 10))]) (.seq (.BN (
 oo 93 (.Az 3 (.t 10))::
oo 94 (.Az 3 (.t 11))::
oc 95 193 [(.t 93),(.t 94)]::
oo 96 (.Az 3 (.t 11))::
oo 97 (.Az 3 (.t 9))::
oc 98 193 [(.t 96),(.t 97)]::
oo 99 (.Az 3 (.t 9))::
oo 100 (.Az 3 (.t 10))::
oc 101 193 [(.t 99),(.t 100)]::
om 12 95::
om 13 98::
om 14 101::[]) []) (.seq (.seq (.reg (
 om 102 12::
om 103 13::
om 104 14::
oo 105 (.pure (Fa Tryz.f113 10 3))::
oo 106 (.int .lss (.t 105) z0)::[])) (.cond (.t 106) (.reg (
 om 107 12::
oo 108 (.neg (.t 107))::
om 109 13::
oo 110 (.neg (.t 109))::
om 111 14::
oo 112 (.neg (.t 111))::
om 12 108::
om 13 110::
om 14 112::[])) .skip)) (.seq (.reg (
 om 113 12::
om 114 13::
om 115 14::
oo 116 (.pure (Fa Tryz.f113 12 3))::
oo 117 (.int .gtr (.t 116) z0)::[])) (.cond (.t 117) (.seq (.reg (
 om 118 0::
om 119 1::
om 120 12::
om 121 13::
om 122 14::
oo 123 (.BF [k0,k0,k0] [(0,1,(.t 120)),(1,1,(.t 121)),(2,1,(.t 122))] 3 2)::
oc 124 202 [(.t 118),(.t 119),z1,(.t 123)]::
oz (.store 5 (.t 4) (.t 124))::[])) .ret) .skip))))) .skip)))))) (.seq (.reg (
 oo 125 (.build [Value.map none,k0,k0,k0,k0] [])::
oz (.store 5 (.t 4) (.t 125))::[])) .ret)))
def Al9:List ResultVar:=[.cell 4 111]
theorem bV:Cf Tryz.prog 113 126 2 uZ Al9:=
  ⟨rfl,Tryz.f113,_,rfl,rfl,rfl,by decide,rfl,rfl,rfl⟩
noncomputable def Ai0:Ay:=(.seq (.reg (
 oo 1 (.box (.t 0) 109)::
oo 2 (.alloc [k0,k0,k0] 109)::[])) (.seq (.reg (
 oo 3 (.Cc 3 1 (.t 1) z0)::
oo 4 (.Af (.t 3))::
oo 5 (.Cc 3 1 (.t 1) z1)::
oo 6 (.Af (.t 5))::
oo 7 (.build [k0,k0,k0] [(0,1,(.t 4)),(1,1,(.t 6)),(2,1,z0)])::
oz (.store 3 (.t 2) (.t 7))::[])) .ret))
def Al8:List ResultVar:=[.cell 2 109]
theorem Aay:Cf Tryz.prog 114 8 1 Ai0 Al8:=
  ⟨rfl,Tryz.f114,_,rfl,rfl,rfl,by decide,rfl,rfl,rfl⟩
noncomputable def Aiz:Ay:=(.seq (.reg (
 om 3 0::
oo 4 (.len (.t 3))::
om 2 4::[])) (.reg (
 om 5 0::
om 6 2::
om 7 2::
oo 8 (.conv .u64 (.t 7))::
oc 9 204 [(.t 8)]::
oc 10 203 [(.t 5),z0,(.t 6),(.t 9)]::[])))
def Al7:List ResultVar:=[]
theorem Aax:Cf Tryz.prog 115 11 1 Aiz Al7:=
  ⟨rfl,Tryz.f115,_,rfl,rfl,rfl,by decide,rfl,rfl,rfl⟩
noncomputable def a116:Ay:=(.seq (.reg (
 oo 4 (.mv z0)::[])) (.seq (.block 0 (.loop (.seq (.seq (.reg (
 om 5 1::
oo 6 (.int .neq (.t 5) z0)::[])) (.cond (.t 6) .skip (.exit 0))) (.block 1 (.BN (
 om 7 1::
om 8 0::
om 9 1::
oo 10 (.EV false (.t 8) (.t 9))::
om 0 7::
om 1 10::[]) []))))) (.seq (.reg (
 om 11 0::
om 4 11::[])) .ret)))
def Al6:List ResultVar:=[.tmp 4]
theorem Aaw:Cf Tryz.prog 116 12 2 a116 Al6:=
  ⟨rfl,Tryz.f116,_,rfl,rfl,rfl,by decide,rfl,rfl,rfl⟩
noncomputable def a117:Ay:=(.seq (.reg (
 oo 2 (.mv z0)::[])) (.seq (.reg (
 om 3 0::
om 4 0::
oo 5 (.neg (.t 4))::
oo 6 (.Il true (.t 3) (.t 5))::
om 2 6::[])) .ret))
def Al5:List ResultVar:=[.tmp 2]
theorem Aav:Cf Tryz.prog 117 7 1 a117 Al5:=
  ⟨rfl,Tryz.f117,_,rfl,rfl,rfl,by decide,rfl,rfl,rfl⟩
noncomputable def uY:Ay:=(.seq (.reg (
 oo 4 (.mv (.c (Value.bool false)))::[])) (.seq (.reg (
 om 5 0::
om 6 1::
oc 7 205 [(.t 5),(.t 6)]::
oo 8 (.int .geq (.t 7) z0)::
om 4 8::[])) .ret))
def Al4:List ResultVar:=[.tmp 4]
theorem bU:Cf Tryz.prog 118 9 2 uY Al4:=
  ⟨rfl,Tryz.f118,_,rfl,rfl,rfl,by decide,rfl,rfl,rfl⟩
noncomputable def a119:Ay:=(.seq (.reg (
 oo 4 (.mv (.c (Value.bool false)))::[])) (.seq (.reg (
 om 5 0::
oo 6 (.Af (.t 1))::
oo 7 (.int .lss (.t 5) (.t 6))::
om 8 7::
og 9 8 false (.mv (.t 0))::
og 10 8 false (.Af (.t 2))::
og 11 8 false (.int .gtr (.t 9) (.t 10))::
oo 12 (.pick (.t 8) (.c (Value.bool true)) (.t 11))::
om 4 12::[])) .ret))
def Al3:List ResultVar:=[.tmp 4]
theorem Aau:Cf Tryz.prog 119 13 3 a119 Al3:=
  ⟨rfl,Tryz.f119,_,rfl,rfl,rfl,by decide,rfl,rfl,rfl⟩
noncomputable def Aiy:Ay:=(.seq (.reg (
 oo 2 (.box (.t 0) 33)::
oo 3 (.mv (.c (Value.bool false)))::[])) (.seq (.reg (
 oo 4 (.Ai 1 (.t 2))::
oo 5 (.Af (.t 4))::
oo 6 (.Af (.t 1))::
oo 7 (.int .eql (.t 5) (.t 6))::
om 3 7::[])) .ret))
def Al2:List ResultVar:=[.tmp 3]
theorem Aat:Cf Tryz.prog 120 8 2 Aiy Al2:=
  ⟨rfl,Tryz.f120,_,rfl,rfl,rfl,by decide,rfl,rfl,rfl⟩
noncomputable def Aix:Ay:=(.seq (.reg (
 oo 6 (.mv z0)::[])) (.seq (.seq (.reg (
 om 8 0::
oc 9 44 [(.t 8)]::
om 7 9::[])) (.seq (.reg (
 om 10 7::
oo 11 (.int .neq (.t 10) z0)::[])) (.cond (.t 11) (.seq (.reg (
 om 12 7::
om 6 12::[])) .ret) .skip))) (.seq (.seq (.reg (
 om 13 1::
om 14 2::
oo 15 (.BF [k0,k0] [(0,1,(.t 13)),(1,1,(.t 14))] 2 2)::
oc 16 197 [(.t 15)]::
oo 17 (.not (.t 16))::[])) (.cond (.t 17) (.seq (.reg (
 oo 6 (.mv (.c (Value.int .i64 3)))::[])) .ret) .skip)) (.seq (.reg (
 oo 6 (.mv z0)::[])) .ret))))
def Al1:List ResultVar:=[.tmp 6]
theorem Aas:Cf Tryz.prog 121 18 3 Aix Al1:=
  ⟨rfl,Tryz.f121,_,rfl,rfl,rfl,by decide,rfl,rfl,rfl⟩
noncomputable def Qd:Ay:=(.reg (
 om 10 30::[]))
noncomputable def Qc:Ay:=(.block 1 (.seq (.BN (
 oo 31 (.Af (.t 3))::
oo 32 (.BP (.t 31))::
oo 33 (.Ai 1 (.t 32))::
oo 34 (.Af (.t 33))::
om 35 10::
oo 36 (.Bb 1 (.t 35) z0)::
oo 37 (.Af (.t 36))::
oo 38 (.Bb 3 (.t 34) (.t 37))::
oo 39 (.Az 3 (.t 38))::
oo 11 (.alloc [k0,k0,k0] 109)::
oz (.store 3 (.t 11) (.t 39))::[]) []) (.seq (.seq (.reg (
 om 40 10::
oo 41 (.len (.t 40))::
oo 42 (.int .eql (.t 41) z1)::[])) (.cond (.t 42) (.seq (.BN (
 oo 43 (.Az 3 (.t 8))::
oc 44 199 [(.t 43)]::
oo 45 (.Az 3 (.t 11))::
oc 46 199 [(.t 45)]::
om 12 44::
om 13 46::[]) []) (.seq (.seq (.BN (
 oo 47 (.Az 3 (.t 11))::
oo 48 (.Az 3 (.t 8))::
oc 49 193 [(.t 47),(.t 48)]::
oo 50 (.int .eql (.t 49) z0)::
om 51 50::
og 52 51 true (.Az 3 (.t 11))::
og 53 51 true (.mv (.t 12))::
F6 54 51 true 201 [(.t 52),(.t 53)]::
og 55 51 true (.Az 3 (.t 8))::
og 56 51 true (.mv (.t 13))::
og 57 51 true (.neg (.t 56))::
F6 58 51 true 201 [(.t 55),(.t 57)]::
og 59 51 true (.BF [k0,k0,k0,k0,k0,k0] [(0,3,(.t 54)),(3,3,(.t 58))] 2 109)::
F6 60 51 true 200 [(.t 59)]::
F6 61 51 true 114 [(.t 60)]::
og 62 51 true (.build [k0,k0,k0] [])::
og 63 51 true (.pure (Fa Tryz.f122 10 16))::
oo 64 (.pick (.t 51) (.t 63) (.c (Value.bool false)))::[]) []) (.cond (.t 64) (.BN (
 oo 65 (.Af (.t 9))::
oo 66 (.Af (.t 3))::
om 67 10::
om 68 13::
om 69 12::
oo 70 (.BF [k0] [(0,1,(.t 69))] 1 2)::
oc 71 202 [(.t 66),(.t 67),(.t 68),(.t 70)]::
oo 72 (.BF [Value.map none,k0,k0,k0,k0] [(0,5,(.t 71))] 1 111)::
oo 73 (.append 111 5 40 (.t 65) (.t 72))::
oz (.store 1 (.t 9) (.t 73))::[]) []) .skip)) (.exit 1))) .skip)) (.seq (.BN (
 oo 74 (.Af (.t 3))::
oo 75 (.BP (.t 74))::
oo 76 (.Ai 1 (.t 75))::
oo 77 (.Af (.t 76))::
om 78 10::
oo 79 (.Bb 1 (.t 78) z1)::
oo 80 (.Af (.t 79))::
oo 81 (.Bb 3 (.t 77) (.t 80))::
oo 82 (.Az 3 (.t 81))::
oo 14 (.alloc [k0,k0,k0] 109)::
oz (.store 3 (.t 14) (.t 82))::[]) []) (.seq (.reg (
 oo 83 (.Az 3 (.t 11))::
oo 84 (.Hf (Fn.func 193) [(.t 83)] [])::
om 15 84::[])) (.seq (.reg (
 om 85 15::
oo 86 (.Az 3 (.t 14))::
⟨(some 87),none,(.call (.t 85) [(.t 86)])⟩::
om 16 87::[])) (.seq (.seq (.BN (
 oo 88 (.Az 3 (.t 8))::
oo 89 (.Az 3 (.t 14))::
oc 90 193 [(.t 88),(.t 89)]::
om 91 15::
oo 92 (.Az 3 (.t 8))::[]) []) (.reg (
    ⟨(some 93),none,(.call (.t 91) [(.t 92)])⟩::
om 17 90::
om 18 93::[]))) (.seq (.seq (.reg (
 om 94 16::
oo 95 (.int .lss (.t 94) z0)::[])) (.cond (.t 95) (.reg (
 om 96 16::
oo 97 (.neg (.t 96))::
om 98 17::
oo 99 (.neg (.t 98))::
om 100 18::
oo 101 (.neg (.t 100))::
om 16 97::
om 17 99::
om 18 101::[])) .skip)) (.seq (.reg (
 om 102 16::
oo 103 (.int .gtr (.t 102) z0)::
om 104 103::
og 105 104 true (.mv (.t 17))::
og 106 104 true (.int .geq (.t 105) z0)::
oo 107 (.pick (.t 104) (.t 106) (.c (Value.bool false)))::
om 108 107::
og 109 108 true (.mv (.t 18))::
og 110 108 true (.int .geq (.t 109) z0)::
oo 111 (.pick (.t 108) (.t 110) (.c (Value.bool false)))::[])) (.cond (.t 111) (.BN (
 oo 112 (.Af (.t 9))::
oo 113 (.Af (.t 3))::
om 114 10::
om 115 16::
om 116 17::
om 117 18::
oo 118 (.BF [k0,k0] [(0,1,(.t 116)),(1,1,(.t 117))] 2 2)::
oc 119 202 [(.t 113),(.t 114),(.t 115),(.t 118)]::
oo 120 (.BF [Value.map none,k0,k0,k0,k0] [(0,5,(.t 119))] 1 111)::
oo 121 (.append 111 5 40 (.t 112) (.t 120))::
oz (.store 1 (.t 9) (.t 121))::[]) []) .skip))))))))))
theorem pY:ET Tryz.prog 128 false (He Tryz.f122 0).1=some Qd:=rfl
theorem pX:ET Tryz.prog 128 false (He Tryz.f122 0).2=some Qc:=rfl
noncomputable def Acl:Ay:=(.seq (.reg (
 oo 3 (.box (.t 0) 113)::
oo 6 (.alloc [Value.map none,k0,k0,k0,k0] 111)::
oo 7 (.mv (.c (Value.bool false)))::[])) (.seq (.reg (
 om 19 1::
om 20 2::
oo 21 (.build [k0,k0,k0] [(0,1,(.t 19)),(1,1,(.t 20))])::
oo 8 (.alloc [k0,k0,k0] 109)::
oz (.store 3 (.t 8) (.t 21))::[])) (.seq (.seq (.reg (
 oo 22 (.Az 3 (.t 8))::
oo 23 (.build [k0,k0,k0] [])::
oo 24 (.pure (Fa Tryz.f122 2 2))::[])) (.cond (.t 24) (.seq (.reg (
 oo 25 (.LO)::
oo 26 (.build [k0,k0,k0] [])::
oo 27 (.build [Value.map none,k0,k0,k0,k0] [(0,1,(.t 25)),(1,3,(.t 26)),(4,1,z1)])::
oz (.store 5 (.t 6) (.t 27))::
oo 7 (.mv (.c (Value.bool true)))::[])) .ret) .skip)) (.seq (.reg (
 oo 9 (.alloc [Value.slice none 0 0] 318)::[])) (.seq (.seq (.reg (
 oo 28 (.Af (.t 3))::
oc 29 112 [(.t 28),(.c (Value.int .i64 2))]::[])) (.block 0 (.range (.t 29) [30] 128 (He Tryz.f122 0).1 (He Tryz.f122 0).2 Qd Qc))) (.seq (.seq (.reg (
 oo 122 (.Af (.t 9))::
oo 123 (.len (.t 122))::
oo 124 (.int .eql (.t 123) z0)::[])) (.cond (.t 124) (.seq (.reg (
 oo 125 (.build [Value.map none,k0,k0,k0,k0] [])::
oz (.store 5 (.t 6) (.t 125))::
oo 7 (.mv (.c (Value.bool false)))::[])) .ret) .skip)) (.seq (.reg (
 oo 126 (.Af (.t 9))::
oc 127 206 [(.t 126),(.c (Value.func (.func 207) #[] #[]))]::
oz (.store 5 (.t 6) (.t 127))::
oo 7 (.mv (.c (Value.bool true)))::[])) .ret)))))))
def Al0:List ResultVar:=[.cell 6 111,.tmp 7]
theorem WI:Cf Tryz.prog 122 128 3 Acl Al0:=
  ⟨rfl,Tryz.f122,_,rfl,rfl,rfl,by decide,rfl,rfl,rfl⟩
noncomputable def Aiw:Ay:=(.seq (.reg (
 oo 1 (.box (.t 0) 67)::
oo 2 (.mv z0)::[])) (.seq (.seq (.BN (
 oo 3 (.Ai 0 (.t 1))::
oo 4 (.Af (.t 3))::
oc 5 211 [(.t 4),z1,(.c (Value.int .i64 10000))]::
oo 6 (.Ai 1 (.t 1))::
oo 7 (.Af (.t 6))::
oc 8 211 [(.t 7),z1,(.c (Value.int .i64 10000))]::
oo 9 (.Ai 2 (.t 1))::
oo 10 (.Af (.t 9))::
oc 11 211 [(.t 10),z1,(.c (Value.int .i64 1000000))]::
oo 12 (.Ai 3 (.t 1))::
oo 13 (.Af (.t 12))::
oc 14 211 [(.t 13),z1,(.c (Value.int .i64 10))]::
oo 15 (.Ai 4 (.t 1))::
oo 16 (.Az 2 (.t 15))::
oo 17 (.build [k0,k0,k0,k0] [(0,2,(.t 16)),(2,1,z0),(3,1,(.c (Value.int .i64 100000000)))])::
oo 18 (.Ai 6 (.t 1))::
oo 19 (.Az 2 (.t 18))::
oo 20 (.build [k0,k0,k0,k0] [(0,2,(.t 19)),(2,1,(.c (Value.int .i64 500))),(3,1,(.c (Value.int .i64 3000)))])::
oo 21 (.Ai 8 (.t 1))::
oo 22 (.Az 2 (.t 21))::
oo 23 (.build [k0,k0,k0,k0] [(0,2,(.t 22)),(2,1,(.c (Value.int .i64 500))),(3,1,(.c (Value.int .i64 3000)))])::
oo 24 (.Ai 10 (.t 1))::
oo 25 (.Az 2 (.t 24))::
oo 26 (.build [k0,k0,k0,k0] [(0,2,(.t 25)),(2,1,z0),(3,1,(.c (Value.int .i64 1000)))])::
oo 27 (.Ai 12 (.t 1))::
oo 28 (.Az 2 (.t 27))::
oo 29 (.build [k0,k0,k0,k0] [(0,2,(.t 28)),(2,1,z0),(3,1,(.c (Value.int .i64 200)))])::
oo 30 (.Ai 14 (.t 1))::
oo 31 (.Az 2 (.t 30))::
oo 32 (.build [k0,k0,k0,k0] [(0,2,(.t 31)),(2,1,z0),(3,1,(.c (Value.int .i64 2000)))])::
oo 33 (.BF [k0,k0,k0,k0,k0,k0,k0,k0,k0,k0,k0,k0,k0,k0,k0,k0,k0,k0,k0,k0,k0,k0,k0,k0,k0,k0,k0,k0,k0,k0,k0,k0,k0,k0,k0,k0,k0,k0,k0,k0] [(0,4,(.t 5)),(4,4,(.t 8)),(8,4,(.t 11)),(12,4,(.t 14)),(16,4,(.t 17)),(20,4,(.t 20)),(24,4,(.t 23)),(28,4,(.t 26)),(32,4,(.t 29)),(36,4,(.t 32))] 10 327)::
oc 34 210 [(.t 33)]::
oc 35 209 [(.t 34)]::
oo 36 (.not (.t 35))::[]) []) (.cond (.t 36) (.seq (.reg (
 oo 2 (.mv (.c (Value.int .i64 2)))::[])) .ret) .skip)) (.seq (.reg (
 oo 2 (.mv z0)::[])) .ret)))
def Alz:List ResultVar:=[.tmp 2]
theorem Aar:Cf Tryz.prog 123 37 1 Aiw Alz:=
  ⟨rfl,Tryz.f123,_,rfl,rfl,rfl,by decide,rfl,rfl,rfl⟩
noncomputable def a124:Ay:=(.seq (.reg (
 oo 2 (.mv z0)::[])) (.seq (.seq (.reg (
 om 6 0::
oo 7 (.len (.t 6))::
oo 8 (.int .eql (.t 7) z0)::
om 9 8::
og 10 9 false (.mv (.t 0))::
og 11 9 false (.len (.t 10))::
og 12 9 false (.int .gtr (.t 11) (.c (Value.int .i64 4)))::
oo 13 (.pick (.t 9) (.c (Value.bool true)) (.t 12))::[])) (.cond (.t 13) (.seq (.reg (
 oo 2 (.mv (.c (Value.int .i64 6)))::[])) .ret) .skip)) (.seq (.seq (.reg (
 om 14 0::
oo 15 (.len (.t 14))::
oo 16 (.mv z0)::[])) (.block 0 (.loop (.seq (.reg (
 oo 17 (.int .lss (.t 16) (.t 15))::[])) (.seq (.cond (.t 17) .skip (.exit 0)) (.seq (.block 1 (.seq (.reg (
 oo 18 (.Bb 2 (.t 14) (.t 16))::
oo 19 (.Az 2 (.t 18))::
oo 4 (.alloc [Value.slice none 0 0,Value.slice none 0 0] 71)::
oz (.store 2 (.t 4) (.t 19))::[])) (.seq (.reg (
 oo 20 (.Az 2 (.t 4))::
oc 21 212 [(.t 20)]::
om 5 21::[])) (.seq (.reg (
 om 22 5::
oo 23 (.int .neq (.t 22) z0)::[])) (.cond (.t 23) (.seq (.reg (
 om 24 5::
om 2 24::[])) .ret) .skip))))) (.reg (
 oo 25 (.int .add (.t 16) z1)::
om 16 25::[])))))))) (.seq (.reg (
 oo 2 (.mv z0)::[])) .ret))))
def Aly:List ResultVar:=[.tmp 2]
theorem Aaq:Cf Tryz.prog 124 26 1 a124 Aly:=
  ⟨rfl,Tryz.f124,_,rfl,rfl,rfl,by decide,rfl,rfl,rfl⟩
noncomputable def Aiv:Ay:=(.seq (.reg (
 oo 4 (.mv (.c (Value.bool false)))::[])) (.seq (.reg (
 om 5 0::
om 6 1::
oc 7 213 [(.t 5),(.t 6)]::
oo 8 (.int .geq (.t 7) z0)::
om 4 8::[])) .ret))
def Alx:List ResultVar:=[.tmp 4]
theorem Aap:Cf Tryz.prog 125 9 2 Aiv Alx:=
  ⟨rfl,Tryz.f125,_,rfl,rfl,rfl,by decide,rfl,rfl,rfl⟩
noncomputable def Aiu:Ay:=(.seq (.reg (
 oo 2 (.box (.t 0) 71)::
oo 3 (.mv (.c (Value.bool false)))::[])) (.seq (.reg (
 oo 4 (.Az 16 (.t 1))::
oo 5 (.Az 2 (.t 2))::
oo 6 (.build [Value.slice none 0 0,Value.slice none 0 0] [(0,2,(.t 5))])::
oc 7 127 [(.t 4),(.t 6)]::
oo 8 (.not (.t 7))::
om 3 8::[])) .ret))
def Alw:List ResultVar:=[.tmp 3]
theorem Aao:Cf Tryz.prog 126 9 2 Aiu Alw:=
  ⟨rfl,Tryz.f126,_,rfl,rfl,rfl,by decide,rfl,rfl,rfl⟩
noncomputable def a127:Ay:=(.seq (.reg (
 oo 2 (.box (.t 0) 135)::
oo 3 (.box (.t 1) 222)::
oo 4 (.mv (.c (Value.bool false)))::[])) (.seq (.reg (
 oo 6 (.Az 16 (.t 2))::
oc 7 214 [(.t 6)]::
oo 5 (.alloc [k0,k0,k0,k0] 330)::
oz (.store 4 (.t 5) (.t 7))::[])) (.seq (.reg (
 oo 8 (.Az 2 (.t 3))::
oo 9 (.Cc 2 2 (.t 5) z0)::
oo 10 (.Az 2 (.t 9))::
oc 11 215 [(.t 8),(.t 10)]::
om 12 11::
og 13 12 true (.Az 2 (.t 3))::
og 14 12 true (.Cc 2 2 (.t 5) z1)::
og 15 12 true (.Az 2 (.t 14))::
F6 16 12 true 215 [(.t 13),(.t 15)]::
oo 17 (.pick (.t 12) (.t 16) (.c (Value.bool false)))::
om 4 17::[])) .ret)))
def Alv:List ResultVar:=[.tmp 4]
theorem Aan:Cf Tryz.prog 127 18 2 a127 Alv:=
  ⟨rfl,Tryz.f127,_,rfl,rfl,rfl,by decide,rfl,rfl,rfl⟩
noncomputable def Ait:Ay:=(.seq (.reg (
 oo 3 (.box (.t 0) 135)::
oo 4 (.box (.t 1) 222)::
oo 5 (.box (.t 2) 139)::
oo 6 (.mv z0)::[])) (.seq (.BN (
 oo 10 (.Ai 0 (.t 5))::
oo 11 (.Af (.t 10))::
oo 12 (.int .mul (.c (Value.int .i64 20000000000)) (.t 11))::
oo 13 (.Ai 0 (.t 3))::
oo 14 (.Ai 2 (.t 13))::
oo 15 (.Af (.t 14))::
oo 16 (.Ai 0 (.t 3))::
oo 17 (.Ai 0 (.t 16))::
oo 18 (.Af (.t 17))::
oo 19 (.int .mul (.t 15) (.t 18))::
oo 20 (.Ai 0 (.t 3))::
oo 21 (.Ai 0 (.t 20))::
oo 22 (.Af (.t 21))::
oo 23 (.int .mul (.t 19) (.t 22))::
oo 24 (.EV true (.t 12) (.t 23))::
oo 25 (.Il false (.c (Value.int .i64 1000000000)) (.t 24))::
oo 26 (.Ai 4 (.t 5))::
oo 27 (.Af (.t 26))::
oo 28 (.int .sub (.c (Value.int .i64 1000)) (.t 27))::
oo 29 (.int .mul (.t 25) (.t 28))::
oo 30 (.EV true (.t 29) (.c (Value.int .i64 1000)))::
om 7 30::[]) []) (.seq (.reg (
 oo 31 (.Az 2 (.t 4))::
oo 32 (.Hf (Fn.func 216) [(.t 31)] [])::
oo 8 (.alloc [Value.nilFunc] 215)::
oz (.store 1 (.t 8) (.t 32))::[])) (.seq (.reg (
 oo 33 (.Hf (Fn.func 217) [] [(.t 5),(.t 8)])::
om 9 33::[])) (.seq (.BN (
 om 34 7::
om 35 9::
oo 36 (.Az 16 (.t 3))::
oo 37 (.Ai 1 (.t 5))::
oo 38 (.Af (.t 37))::
oc 39 218 [(.t 36),(.t 38)]::
⟨(some 40),none,(.call (.t 35) [(.t 39)])⟩::
oo 41 (.int .sub (.t 34) (.t 40))::
om 42 9::
oo 43 (.Az 16 (.t 3))::
oo 44 (.Ai 2 (.t 5))::
oo 45 (.Af (.t 44))::
oc 46 219 [(.t 43),(.t 45)]::
⟨(some 47),none,(.call (.t 42) [(.t 46)])⟩::
oo 48 (.int .add (.t 41) (.t 47))::
oo 49 (.Ai 5 (.t 5))::
oo 50 (.Af (.t 49))::
oo 51 (.int .add (.t 48) (.t 50))::
om 6 51::[]) []) .ret)))))
def Alu:List ResultVar:=[.tmp 6]
theorem Aam:Cf Tryz.prog 128 52 3 Ait Alu:=
  ⟨rfl,Tryz.f128,_,rfl,rfl,rfl,by decide,rfl,rfl,rfl⟩
noncomputable def Ais:Ay:=(.seq (.reg (
 oo 1 (.box (.t 0) 23)::
oo 2 (.mv (.c (Value.bool false)))::[])) (.seq (.reg (
 oo 3 (.Ai 0 (.t 1))::
oo 4 (.Af (.t 3))::
oo 5 (.Ai 1 (.t 1))::
oo 6 (.Af (.t 5))::
oo 7 (.BF [k0,k0] [(0,1,(.t 4)),(1,1,(.t 6))] 2 2)::
oc 8 66 [(.c (Value.int .i64 (-1000000))),(.c (Value.int .i64 1000000)),(.t 7)]::
oo 9 (.not (.t 8))::
om 10 9::
og 11 10 false (.Ai 1 (.t 1))::
og 12 10 false (.Af (.t 11))::
og 13 10 false (.Ai 0 (.t 1))::
og 14 10 false (.Af (.t 13))::
og 15 10 false (.int .sub (.t 12) (.t 14))::
og 16 10 false (.BF [k0] [(0,1,(.t 15))] 1 2)::
F6 17 10 false 66 [z0,(.c (Value.int .i64 4)),(.t 16)]::
og 18 10 false (.not (.t 17))::
oo 19 (.pick (.t 10) (.c (Value.bool true)) (.t 18))::
om 2 19::[])) .ret))
def Als:List ResultVar:=[.tmp 2]
theorem Aal:Cf Tryz.prog 129 20 1 Ais Als:=
  ⟨rfl,Tryz.f129,_,rfl,rfl,rfl,by decide,rfl,rfl,rfl⟩
noncomputable def a130:Ay:=(.seq (.reg (
 oo 4 (.mv (.c (Value.bool false)))::[])) (.seq (.reg (
 om 5 0::
om 6 1::
oc 7 220 [(.t 5),(.t 6)]::
oo 8 (.int .geq (.t 7) z0)::
om 4 8::[])) .ret))
def Alr:List ResultVar:=[.tmp 4]
theorem Aak:Cf Tryz.prog 130 9 2 a130 Alr:=
  ⟨rfl,Tryz.f130,_,rfl,rfl,rfl,by decide,rfl,rfl,rfl⟩
noncomputable def Xi:Ay:=(.reg (
 oo 3 (.alloc [k0,k0,k0,k0] 236)::
oz (.store 4 (.t 3) (.t 20))::[]))
noncomputable def Xh:Ay:=(.block 3 (.seq (.reg (
 oo 22 (.Af (.t 1))::
oo 23 (.Az 4 (.t 3))::
oc 24 136 [(.t 22),(.t 23)]::
om 21 24::
oo 25 (.extract (.t 21) 0)::
oo 26 (.extract (.t 21) 1)::
om 4 25::
om 5 26::[])) (.BN (
 oo 27 (.Af (.t 1))::
oo 28 (.BP (.t 27))::
oo 29 (.Ai 4 (.t 28))::
oo 30 (.Af (.t 29))::
oo 31 (.Af (.t 2))::
oo 32 (.Ai 1 (.t 3))::
oo 33 (.Af (.t 32))::
oo 34 (.Ai 2 (.t 3))::
oo 35 (.Af (.t 34))::
oo 36 (.Ai 3 (.t 3))::
oo 37 (.Ai 0 (.t 36))::
oo 38 (.Af (.t 37))::
om 39 5::
oo 40 (.Bb 75 (.t 30) (.t 31))::
oo 41 (.Cc 5 15 (.t 40) (.t 33))::
oo 42 (.Cc 5 3 (.t 41) (.t 35))::
oo 43 (.Cc 3 1 (.t 42) (.t 38))::
oz (.store 1 (.t 43) (.t 39))::[]) [])))
theorem Ab0:ET Tryz.prog 45 false (He Tryz.f131 0).1=some Xi:=rfl
theorem Abz:ET Tryz.prog 45 false (He Tryz.f131 0).2=some Xh:=rfl
noncomputable def a131:Ay:=(.seq (.reg (
 oo 1 (.box (.t 0) 144)::[])) (.seq (.reg (
 oo 6 (.Af (.t 1))::
oo 7 (.BP (.t 6))::
oo 8 (.Ai 0 (.t 7))::
oo 9 (.Ai 0 (.t 8))::
oo 10 (.Af (.t 9))::
oo 11 (.len (.t 10))::
oo 12 (.int .sub (.t 11) (.c (Value.int .i64 2)))::
oo 2 (.alloc [k0] 3)::
oz (.store 1 (.t 2) (.t 12))::[])) (.block 0 (.loop (.seq (.seq (.reg (
 oo 13 (.Af (.t 2))::
oo 14 (.int .gtr (.t 13) z0)::[])) (.cond (.t 14) .skip (.exit 0))) (.seq (.block 1 (.seq (.reg (
 oo 17 (.Af (.t 1))::
oo 18 (.Af (.t 2))::
oc 19 221 [(.t 17),(.t 18)]::[])) (.block 2 (.range (.t 19) [20] 45 (He Tryz.f131 0).1 (He Tryz.f131 0).2 Xi Xh)))) (.seq (.seq (.reg (
 oo 44 (.Af (.t 2))::[])) (.reg (
 oo 2 (.alloc [k0] 3)::
oz (.store 1 (.t 2) (.t 44))::[]))) (.reg (
 oo 15 (.Af (.t 2))::
oo 16 (.int .sub (.t 15) z1)::
oz (.store 1 (.t 2) (.t 16))::[])))))))))
def Alq:List ResultVar:=[]
theorem oJ:Cf Tryz.prog 131 45 1 a131 Alq:=
  ⟨rfl,Tryz.f131,_,rfl,rfl,rfl,by decide,rfl,rfl,rfl⟩
noncomputable def Air:Ay:=(.seq (.reg (
 oo 4 (.mv z0)::[])) (.seq (.BN (
 om 5 0::
oo 6 (.BP (.t 5))::
oo 7 (.Ai 0 (.t 6))::
oo 8 (.Ai 0 (.t 7))::
oo 9 (.Af (.t 8))::
om 10 1::
oo 11 (.Bb 2 (.t 9) (.t 10))::
oo 12 (.Ai 1 (.t 11))::
oo 13 (.Af (.t 12))::
om 14 0::
oo 15 (.BP (.t 14))::
oo 16 (.Ai 0 (.t 15))::
oo 17 (.Ai 0 (.t 16))::
oo 18 (.Af (.t 17))::
om 19 1::
oo 20 (.Bb 2 (.t 18) (.t 19))::
oo 21 (.Ai 0 (.t 20))::
oo 22 (.Af (.t 21))::
oo 23 (.int .sub (.t 13) (.t 22))::
oo 24 (.int .add (.t 23) z1)::
om 4 24::[]) []) .ret))
def Alp:List ResultVar:=[.tmp 4]
theorem Aaj:Cf Tryz.prog 132 25 2 Air Alp:=
  ⟨rfl,Tryz.f132,_,rfl,rfl,rfl,by decide,rfl,rfl,rfl⟩
noncomputable def Aiq:Ay:=(.seq (.reg (
 oo 4 (.mv z0)::
oo 5 (.mv z0)::[])) (.seq (.reg (
 om 10 1::
⟨(some 11),none,(.call (.t 10) [z0])⟩::
oo 6 (.mv z0)::
om 7 11::[])) (.seq (.seq (.reg (
 oo 8 (.mv z1)::[])) (.block 0 (.loop (.seq (.seq (.reg (
 om 12 8::
om 13 0::
oo 14 (.int .lss (.t 12) (.t 13))::[])) (.cond (.t 14) .skip (.exit 0))) (.seq (.block 1 (.seq (.reg (
 om 17 1::
om 18 8::
⟨(some 19),none,(.call (.t 17) [(.t 18)])⟩::
om 9 19::[])) (.seq (.reg (
 om 20 9::
om 21 7::
oo 22 (.int .lss (.t 20) (.t 21))::[])) (.cond (.t 22) (.reg (
 om 23 8::
om 24 9::
om 6 23::
om 7 24::[])) .skip)))) (.reg (
 om 15 8::
oo 16 (.int .add (.t 15) z1)::
om 8 16::[]))))))) (.seq (.reg (
 om 25 6::
om 26 7::
om 4 25::
om 5 26::[])) .ret))))
def Alo:List ResultVar:=[.tmp 4,.tmp 5]
theorem Aai:Cf Tryz.prog 133 27 2 Aiq Alo:=
  ⟨rfl,Tryz.f133,_,rfl,rfl,rfl,by decide,rfl,rfl,rfl⟩
noncomputable def Aip:Ay:=(.seq (.reg (
 oo 4 (.mv z0)::[])) (.seq (.BN (
 oo 5 (.Af (.t 1))::
om 6 0::
oo 7 (.Af (.t 2))::
oo 8 (.EV true (.t 6) (.t 7))::
om 9 0::
oo 10 (.Af (.t 2))::
oo 11 (.EV false (.t 9) (.t 10))::
oo 12 (.build [k0] [])::
oo 13 (.build [k0,k0,k0,k0] [(0,1,z1),(1,1,(.t 8)),(2,1,(.t 11)),(3,1,(.t 12))])::
oc 14 135 [(.t 5),(.t 13)]::
om 4 14::[]) []) .ret))
def Aln:List ResultVar:=[.tmp 4]
theorem Aah:Cf Tryz.prog 134 15 3 Aip Aln:=
  ⟨rfl,Tryz.f134,_,rfl,rfl,rfl,by decide,rfl,rfl,rfl⟩
noncomputable def Aio:Ay:=(.seq (.reg (
 oo 3 (.box (.t 1) 236)::
oo 4 (.mv z0)::[])) (.seq (.BN (
 om 5 0::
oo 6 (.BP (.t 5))::
oo 7 (.Ai 4 (.t 6))::
oo 8 (.Af (.t 7))::
oo 9 (.Ai 0 (.t 3))::
oo 10 (.Af (.t 9))::
oo 11 (.Ai 1 (.t 3))::
oo 12 (.Af (.t 11))::
oo 13 (.Ai 2 (.t 3))::
oo 14 (.Af (.t 13))::
oo 15 (.Ai 3 (.t 3))::
oo 16 (.Ai 0 (.t 15))::
oo 17 (.Af (.t 16))::
oo 18 (.Bb 75 (.t 8) (.t 10))::
oo 19 (.Cc 5 15 (.t 18) (.t 12))::
oo 20 (.Cc 5 3 (.t 19) (.t 14))::
oo 21 (.Cc 3 1 (.t 20) (.t 17))::
oo 22 (.Af (.t 21))::
om 4 22::[]) []) .ret))
def Alm:List ResultVar:=[.tmp 4]
theorem Aag:Cf Tryz.prog 135 23 2 Aio Alm:=
  ⟨rfl,Tryz.f135,_,rfl,rfl,rfl,by decide,rfl,rfl,rfl⟩
noncomputable def Ain:Ay:=(.seq (.reg (
 oo 2 (.box (.t 0) 144)::
oo 3 (.box (.t 1) 236)::
oo 4 (.mv z0)::
oo 5 (.mv z0)::[])) (.seq (.reg (
 oo 6 (.Af (.t 2))::
oo 7 (.Ai 0 (.t 3))::
oo 8 (.Af (.t 7))::
oo 9 (.int .add (.t 8) z1)::
oc 10 132 [(.t 6),(.t 9)]::
oo 11 (.Hf (Fn.func 222) [] [(.t 2),(.t 3)])::
oc 12 133 [(.t 10),(.t 11)]::
oo 13 (.extract (.t 12) 0)::
oo 14 (.extract (.t 12) 1)::
om 4 13::
om 5 14::[])) .ret))
def Alk:List ResultVar:=[.tmp 4,.tmp 5]
theorem Aaf:Cf Tryz.prog 136 15 2 Ain Alk:=
  ⟨rfl,Tryz.f136,_,rfl,rfl,rfl,by decide,rfl,rfl,rfl⟩
noncomputable def Aim:Ay:=(.seq (.reg (
 oo 4 (.box (.t 1) 236)::
oo 6 (.alloc [k0,k0,k0,k0] 236)::
oo 7 (.mv z0)::[])) (.seq (.BN (
 om 14 0::
oo 15 (.BP (.t 14))::
oo 16 (.Ai 0 (.t 15))::
oo 17 (.Ai 0 (.t 16))::
oo 18 (.Af (.t 17))::
oo 19 (.Ai 0 (.t 4))::
oo 20 (.Af (.t 19))::
oo 21 (.int .sub (.t 20) z1)::
oo 22 (.Bb 2 (.t 18) (.t 21))::
oo 23 (.Ai 0 (.t 22))::
oo 24 (.Af (.t 23))::
oo 25 (.Ai 1 (.t 4))::
oo 26 (.Af (.t 25))::
oo 27 (.int .add (.t 24) (.t 26))::
om 8 27::[]) []) (.seq (.BN (
 om 28 0::
oo 29 (.BP (.t 28))::
oo 30 (.Ai 0 (.t 29))::
oo 31 (.Ai 0 (.t 30))::
oo 32 (.Af (.t 31))::
oo 33 (.Ai 0 (.t 4))::
oo 34 (.Af (.t 33))::
oo 35 (.Bb 2 (.t 32) (.t 34))::
oo 36 (.Ai 0 (.t 35))::
oo 37 (.Af (.t 36))::
oo 38 (.Ai 2 (.t 4))::
oo 39 (.Af (.t 38))::
oo 40 (.int .add (.t 37) (.t 39))::
om 9 40::[]) []) (.seq (.BN (
 om 41 0::
oo 42 (.BP (.t 41))::
oo 43 (.Ai 0 (.t 42))::
oo 44 (.Ai 0 (.t 43))::
oo 45 (.Af (.t 44))::
oo 46 (.Ai 0 (.t 4))::
oo 47 (.Af (.t 46))::
oo 48 (.int .add (.t 47) z1)::
oo 49 (.Bb 2 (.t 45) (.t 48))::
oo 50 (.Ai 0 (.t 49))::
oo 51 (.Af (.t 50))::
om 52 2::
oo 53 (.int .add (.t 51) (.t 52))::
om 10 53::[]) []) (.seq (.reg (
 om 54 8::
om 55 9::
oo 56 (.int .mul (.c (Value.int .i64 2)) (.t 55))::
oo 57 (.int .sub (.t 54) (.t 56))::
om 58 10::
oo 59 (.int .add (.t 57) (.t 58))::
om 11 59::[])) (.seq (.reg (
 oo 61 (.Ai 3 (.t 4))::
oo 62 (.Az 1 (.t 61))::
om 63 11::
oc 64 139 [(.t 62),(.t 63)]::
om 60 64::
oo 65 (.extract (.t 60) 0)::
oo 66 (.extract (.t 60) 1)::
oo 12 (.alloc [k0] 234)::
oz (.store 1 (.t 12) (.t 65))::
om 13 66::[])) (.seq (.BN (
 oo 67 (.Ai 0 (.t 4))::
oo 68 (.Af (.t 67))::
oo 69 (.int .add (.t 68) z1)::
oo 70 (.Ai 2 (.t 4))::
oo 71 (.Af (.t 70))::
om 72 2::
oo 73 (.Az 1 (.t 12))::
oo 74 (.build [k0,k0,k0,k0] [(0,1,(.t 69)),(1,1,(.t 71)),(2,1,(.t 72)),(3,1,(.t 73))])::
om 75 0::
oo 76 (.BP (.t 75))::
oo 77 (.Ai 2 (.t 76))::
oo 78 (.Af (.t 77))::
om 79 11::
om 80 11::
oo 81 (.neg (.t 80))::
oo 82 (.Il true (.t 79) (.t 81))::
oo 83 (.int .mul (.t 78) (.t 82))::
om 84 0::
oo 85 (.BP (.t 84))::
oo 86 (.Ai 3 (.t 85))::
oo 87 (.Af (.t 86))::
om 88 13::
oo 89 (.int .mul (.t 87) (.t 88))::
oo 90 (.int .add (.t 83) (.t 89))::
oz (.store 4 (.t 6) (.t 74))::
om 7 90::[]) [((.t 77),(.t 6)),((.t 86),(.t 6))]) .ret)))))))
def Alj:List ResultVar:=[.cell 6 236,.tmp 7]
theorem Aae:Cf Tryz.prog 137 91 3 Aim Alj:=
  ⟨rfl,Tryz.f137,_,rfl,rfl,rfl,by decide,rfl,rfl,rfl⟩
noncomputable def a138:Ay:=(.seq (.reg (
 oo 4 (.mv (.c (Value.bool false)))::[])) (.seq (.reg (
 om 5 0::
oo 6 (.Af (.t 1))::
oo 7 (.int .lss (.t 5) (.t 6))::
om 8 7::
og 9 8 false (.mv (.t 0))::
og 10 8 false (.Af (.t 2))::
og 11 8 false (.int .gtr (.t 9) (.t 10))::
oo 12 (.pick (.t 8) (.c (Value.bool true)) (.t 11))::
om 4 12::[])) .ret))
def Ali:List ResultVar:=[.tmp 4]
theorem Aad:Cf Tryz.prog 138 13 3 a138 Ali:=
  ⟨rfl,Tryz.f138,_,rfl,rfl,rfl,by decide,rfl,rfl,rfl⟩
noncomputable def a139:Ay:=(.seq (.reg (
 oo 2 (.box (.t 0) 234)::
oo 4 (.alloc [k0] 234)::
oo 5 (.mv z0)::[])) (.seq (.reg (
 oo 7 (.Ai 0 (.t 2))::
oo 8 (.Af (.t 7))::
om 6 8::[])) (.seq (.block 0 (.seq (.reg (
 om 10 1::
oo 11 (.int .gtr (.t 10) z0)::
om 9 11::[])) (.cond (.t 9) (.reg (
 oo 6 (.mv z1)::[])) (.seq (.reg (
 om 13 1::
oo 14 (.int .lss (.t 13) z0)::
om 12 14::[])) (.cond (.t 12) (.reg (
 oo 6 (.mv (.c (Value.int .i64 2)))::[])) .skip))))) (.seq (.seq (.reg (
 oo 15 (.Ai 0 (.t 2))::
oo 16 (.Af (.t 15))::
oo 17 (.int .neq (.t 16) z0)::
om 18 17::
og 19 18 true (.mv (.t 6))::
og 20 18 true (.Ai 0 (.t 2))::
og 21 18 true (.Af (.t 20))::
og 22 18 true (.int .neq (.t 19) (.t 21))::
oo 23 (.pick (.t 18) (.t 22) (.c (Value.bool false)))::[])) (.cond (.t 23) (.seq (.reg (
 om 24 6::
oo 25 (.build [k0] [(0,1,(.t 24))])::
oz (.store 1 (.t 4) (.t 25))::
oo 5 (.mv z1)::[])) .ret) .skip)) (.seq (.reg (
 om 26 6::
oo 27 (.build [k0] [(0,1,(.t 26))])::
oz (.store 1 (.t 4) (.t 27))::
oo 5 (.mv z0)::[])) .ret)))))
def Alh:List ResultVar:=[.cell 4 234,.tmp 5]
theorem Aac:Cf Tryz.prog 139 28 2 a139 Alh:=
  ⟨rfl,Tryz.f139,_,rfl,rfl,rfl,by decide,rfl,rfl,rfl⟩
noncomputable def Ail:Ay:=(.seq (.reg (
 oo 6 (.mv (.c (Value.bool false)))::[])) (.seq (.reg (
 om 7 2::
oc 8 223 [(.t 7)]::
om 9 0::
oo 10 (.int .geq (.t 8) (.t 9))::
om 11 10::
og 12 11 true (.mv (.t 2))::
F6 13 11 true 224 [(.t 12)]::
og 14 11 true (.mv (.t 1))::
og 15 11 true (.int .leq (.t 13) (.t 14))::
oo 16 (.pick (.t 11) (.t 15) (.c (Value.bool false)))::
om 6 16::[])) .ret))
def Alg:List ResultVar:=[.tmp 6]
theorem Aab:Cf Tryz.prog 140 17 3 Ail Alg:=
  ⟨rfl,Tryz.f140,_,rfl,rfl,rfl,by decide,rfl,rfl,rfl⟩
noncomputable def a141:Ay:=(.seq (.reg (
 oo 1 (.box (.t 0) 242)::
oo 2 (.mv (.c (Value.nilFunc)))::[])) (.seq (.reg (
 oo 4 (.build [k0,k0] [(0,1,z1),(1,1,(.c (Value.int .i64 2)))])::
oo 5 (.Hf (Fn.func 225) [(.t 4)] [])::
oo 3 (.alloc [Value.nilFunc] 293)::
oz (.store 1 (.t 3) (.t 5))::[])) (.seq (.reg (
 oo 6 (.Hf (Fn.func 226) [] [(.t 1),(.t 3)])::
om 2 6::[])) .ret)))
def Alf:List ResultVar:=[.tmp 2]
theorem Aaa:Cf Tryz.prog 141 7 1 a141 Alf:=
  ⟨rfl,Tryz.f141,_,rfl,rfl,rfl,by decide,rfl,rfl,rfl⟩
noncomputable def Aik:Ay:=(.seq (.reg (
 oo 4 (.alloc [k0,k0] 57)::[])) (.seq (.reg (
 om 6 0::
om 7 1::
oc 8 227 [(.t 6),(.t 7)]::
om 5 8::[])) (.seq (.BN (
 om 9 0::
om 10 5::
oo 11 (.EV true (.t 9) (.t 10))::
om 12 1::
om 13 5::
oo 14 (.EV true (.t 12) (.t 13))::
oo 15 (.build [k0,k0] [(0,1,(.t 11)),(1,1,(.t 14))])::
oz (.store 2 (.t 4) (.t 15))::[]) []) .ret)))
def Ale:List ResultVar:=[.cell 4 57]
theorem z9:Cf Tryz.prog 142 16 2 Aik Ale:=
  ⟨rfl,Tryz.f142,_,rfl,rfl,rfl,by decide,rfl,rfl,rfl⟩
noncomputable def a143:Ay:=(.seq (.reg (
 oo 4 (.mv (.c (Value.bool false)))::[])) (.seq (.reg (
 om 5 0::
om 6 1::
oc 7 228 [(.t 5),(.t 6)]::
oo 8 (.int .geq (.t 7) z0)::
om 4 8::[])) .ret))
def Ald:List ResultVar:=[.tmp 4]
theorem z8:Cf Tryz.prog 143 9 2 a143 Ald:=
  ⟨rfl,Tryz.f143,_,rfl,rfl,rfl,by decide,rfl,rfl,rfl⟩
noncomputable def Aij:Ay:=(.seq (.reg (
 oo 3 (.mv (.c (Value.bool false)))::[])) (.seq (.reg (
 om 4 0::
oo 5 (.len (.t 4))::
oo 6 (.Af (.t 1))::
oo 7 (.int .neq (.t 5) (.t 6))::
om 3 7::[])) .ret))
def Alc:List ResultVar:=[.tmp 3]
theorem z6:Cf Tryz.prog 144 8 2 Aij Alc:=
  ⟨rfl,Tryz.f144,_,rfl,rfl,rfl,by decide,rfl,rfl,rfl⟩
noncomputable def a145:Ay:=(.seq (.reg (
 oo 3 (.mv (.c (Value.bool false)))::[])) (.seq (.reg (
 om 4 0::
oo 5 (.Af (.t 1))::
oo 6 (.neg (.t 5))::
oo 7 (.int .lss (.t 4) (.t 6))::
om 8 7::
og 9 8 false (.mv (.t 0))::
og 10 8 false (.Af (.t 1))::
og 11 8 false (.int .gtr (.t 9) (.t 10))::
oo 12 (.pick (.t 8) (.c (Value.bool true)) (.t 11))::
om 3 12::[])) .ret))
def Alb:List ResultVar:=[.tmp 3]
theorem z4:Cf Tryz.prog 145 13 2 a145 Alb:=
  ⟨rfl,Tryz.f145,_,rfl,rfl,rfl,by decide,rfl,rfl,rfl⟩
noncomputable def a146:Ay:=(.seq (.reg (
 oo 0 (.mv (.c (Value.bool false)))::[])) (.seq (.reg (
 oc 1 229 []::
om 2 1::
F6 3 2 true 230 []::
oo 4 (.pick (.t 2) (.t 3) (.c (Value.bool false)))::
om 5 4::
F6 6 5 true 231 []::
oo 7 (.pick (.t 5) (.t 6) (.c (Value.bool false)))::
om 0 7::[])) .ret))
def Ala:List ResultVar:=[.tmp 0]
theorem z3:Cf Tryz.prog 146 8 0 a146 Ala:=
  ⟨rfl,Tryz.f146,_,rfl,rfl,rfl,by decide,rfl,rfl,rfl⟩
noncomputable def Aii:Ay:=(.seq (.reg (
 oo 4 (.mv z0)::[])) (.seq (.seq (.reg (
 om 6 0::
oo 7 (.len (.t 6))::
oo 8 (.mv z0)::[])) (.block 0 (.loop (.seq (.reg (
 oo 9 (.int .lss (.t 8) (.t 7))::[])) (.seq (.cond (.t 9) .skip (.exit 0)) (.seq (.block 1 (.seq (.reg (
 om 10 8::
om 5 10::[])) (.seq (.reg (
 om 11 1::
om 12 0::
om 13 5::
oo 14 (.Bb 4 (.t 12) (.t 13))::
oo 15 (.Az 4 (.t 14))::
⟨(some 16),none,(.call (.t 11) [(.t 15)])⟩::[])) (.cond (.t 16) (.seq (.reg (
 om 17 5::
om 4 17::[])) .ret) .skip)))) (.reg (
 oo 18 (.int .add (.t 8) z1)::
om 8 18::[])))))))) (.seq (.reg (
 oo 4 (.mv (.c (Value.int .i64 (-1))))::[])) .ret)))
def Ak9:List ResultVar:=[.tmp 4]
theorem zZ:Cf Tryz.prog 188 19 2 Aii Ak9:=
  ⟨rfl,Tryz.f188,_,rfl,rfl,rfl,by decide,rfl,rfl,rfl⟩
noncomputable def Aih:Ay:=(.seq (.reg (
 oo 4 (.mv z0)::[])) (.seq (.seq (.reg (
 om 8 1::
⟨(some 9),none,(.call (.t 8) [])⟩::
om 7 9::
oo 10 (.extract (.t 7) 0)::
oo 11 (.extract (.t 7) 1)::
om 5 10::
om 6 11::[])) (.seq (.reg (
 om 12 6::[])) (.cond (.t 12) (.seq (.reg (
 om 13 0::
om 14 5::
oo 15 (.Il false (.t 13) (.t 14))::
om 4 15::[])) .ret) .skip))) (.seq (.reg (
 om 16 0::
om 4 16::[])) .ret)))
def Ak8:List ResultVar:=[.tmp 4]
theorem zY:Cf Tryz.prog 189 17 2 Aih Ak8:=
  ⟨rfl,Tryz.f189,_,rfl,rfl,rfl,by decide,rfl,rfl,rfl⟩
noncomputable def Aig:Ay:=(.seq (.reg (
 oo 1 (.mv z0)::
oo 2 (.mv (.c (Value.bool false)))::[])) (.seq (.BN (
 oo 3 (.Ai 1 (.t 0))::
oo 4 (.Af (.t 3))::
oo 5 (.Ai 0 (.t 0))::
oo 6 (.Af (.t 5))::
om 1 4::
om 2 6::[]) []) .ret))
def Ak7:List ResultVar:=[.tmp 1,.tmp 2]
theorem zX:Cf Tryz.prog 190 7 1 Aig Ak7:=
  ⟨rfl,Tryz.f190,_,rfl,rfl,rfl,by decide,rfl,rfl,rfl⟩
noncomputable def Aif:Ay:=(.seq (.reg (
 oo 1 (.box (.t 0) 101)::
oo 2 (.mv (.c (Value.nilFunc)))::[])) (.seq (.reg (
 oo 3 (.Hf (Fn.func 282) [] [(.t 1)])::
om 2 3::[])) .ret))
def Ak6:List ResultVar:=[.tmp 2]
theorem zW:Cf Tryz.prog 191 4 1 Aif Ak6:=
  ⟨rfl,Tryz.f191,_,rfl,rfl,rfl,by decide,rfl,rfl,rfl⟩
noncomputable def Aie:Ay:=(.seq (.seq (.reg (
 oo 13 (.Af (.t 1))::
oo 14 (.BP (.t 13))::
oo 15 (.Ai 0 (.t 14))::
oo 16 (.Af (.t 15))::
oo 17 (.len (.t 16))::
oo 18 (.int .eql (.t 17) z0)::
om 19 18::
og 20 19 true (.mv (.t 0))::
og 21 19 true (.build [k0,k0,k0] [(2,1,z1)])::
⟨(some 22),(some (19,true)),(.call (.t 20) [(.t 21)])⟩::
og 23 19 true (.not (.t 22))::
oo 24 (.pick (.t 19) (.t 23) (.c (Value.bool false)))::[])) (.cond (.t 24) .ret .skip)) (.seq (.reg (
 oo 25 (.Af (.t 1))::
oo 26 (.BP (.t 25))::
oo 27 (.Ai 1 (.t 26))::
oo 28 (.Af (.t 27))::
oo 29 (.len (.t 28))::
oo 30 (.FP [k0,k0,k0] 24 109 (.t 29) (.t 29))::
om 3 30::[])) (.seq (.reg (
 om 31 3::
oo 32 (.Af (.t 1))::
oo 33 (.BP (.t 32))::
oo 34 (.Ai 1 (.t 33))::
oo 35 (.Af (.t 34))::
oo 36 (.copy 3 (.t 31) (.t 35))::[])) (.seq (.reg (
 om 37 3::
oo 38 (.len (.t 37))::
oo 39 (.mv z0)::[])) (.block 0 (.loop (.seq (.reg (
 oo 40 (.int .lss (.t 39) (.t 38))::[])) (.seq (.cond (.t 40) .skip (.exit 0)) (.seq (.block 1 (.seq (.reg (
 om 41 39::
oo 42 (.Bb 3 (.t 37) (.t 39))::
oo 43 (.Az 3 (.t 42))::
oo 5 (.alloc [k0,k0,k0] 109)::
om 4 41::
oz (.store 3 (.t 5) (.t 43))::[])) (.seq (.reg (
 oo 44 (.Af (.t 1))::
oo 45 (.BP (.t 44))::
oo 46 (.Ai 0 (.t 45))::
oo 47 (.Af (.t 46))::
om 48 4::
oo 49 (.EV true (.t 48) (.c (Value.int .i64 2)))::
oo 50 (.Bb 10 (.t 47) (.t 49))::
oo 51 (.Az 10 (.t 50))::
oo 6 (.alloc [k0,k0,k0,k0,k0,k0,k0,k0,k0,k0] 207)::
oz (.store 10 (.t 6) (.t 51))::[])) (.seq (.reg (
 oo 52 (.Ai 0 (.t 6))::
oo 53 (.Ai 0 (.t 52))::
oo 54 (.Af (.t 53))::
oo 55 (.Ai 0 (.t 6))::
oo 56 (.Ai 0 (.t 55))::
oo 57 (.Af (.t 56))::
oo 58 (.int .mul (.t 54) (.t 57))::
oo 59 (.Ai 0 (.t 6))::
oo 60 (.Ai 1 (.t 59))::
oo 61 (.Af (.t 60))::
oo 62 (.Ai 0 (.t 6))::
oo 63 (.Ai 1 (.t 62))::
oo 64 (.Af (.t 63))::
oo 65 (.int .mul (.t 61) (.t 64))::
oo 66 (.int .add (.t 58) (.t 65))::
om 7 66::[])) (.seq (.seq (.reg (
 om 67 0::
oo 68 (.Cc 3 1 (.t 5) z0)::
oo 69 (.Af (.t 68))::
oo 70 (.Cc 3 1 (.t 5) (.c (Value.int .i64 2)))::
oo 71 (.Af (.t 70))::
oo 72 (.int .mul (.t 69) (.t 71))::
oo 73 (.Cc 3 1 (.t 5) z1)::
oo 74 (.Af (.t 73))::
oo 75 (.Cc 3 1 (.t 5) (.c (Value.int .i64 2)))::
oo 76 (.Af (.t 75))::
oo 77 (.int .mul (.t 74) (.t 76))::
om 78 7::
oo 79 (.build [k0,k0,k0] [(0,1,(.t 72)),(1,1,(.t 77)),(2,1,(.t 78))])::
⟨(some 80),none,(.call (.t 67) [(.t 79)])⟩::
oo 81 (.not (.t 80))::[])) (.cond (.t 81) .ret .skip)) (.seq (.reg (
 om 82 3::
om 83 4::
oo 84 (.HL 3 (.t 82) none (some (.t 83)) none)::
oo 85 (.len (.t 84))::
oo 86 (.mv z0)::[])) (.block 2 (.loop (.seq (.reg (
 oo 87 (.int .lss (.t 86) (.t 85))::[])) (.seq (.cond (.t 87) .skip (.exit 2)) (.seq (.block 3 (.seq (.reg (
 oo 88 (.Bb 3 (.t 84) (.t 86))::
oo 89 (.Az 3 (.t 88))::
oo 9 (.alloc [k0,k0,k0] 109)::
oz (.store 3 (.t 9) (.t 89))::[])) (.seq (.reg (
 oo 90 (.Az 3 (.t 5))::
oo 91 (.Az 3 (.t 9))::
oc 92 193 [(.t 90),(.t 91)]::
om 10 92::[])) (.seq (.BN (
 oo 93 (.Cc 3 1 (.t 5) (.c (Value.int .i64 2)))::
oo 94 (.Af (.t 93))::
oo 95 (.Cc 3 1 (.t 9) z1)::
oo 96 (.Af (.t 95))::
oo 97 (.int .mul (.t 94) (.t 96))::
oo 98 (.Cc 3 1 (.t 9) (.c (Value.int .i64 2)))::
oo 99 (.Af (.t 98))::
oo 100 (.Cc 3 1 (.t 5) z1)::
oo 101 (.Af (.t 100))::
oo 102 (.int .mul (.t 99) (.t 101))::
oo 103 (.int .sub (.t 97) (.t 102))::
oo 104 (.Cc 3 1 (.t 5) z0)::
oo 105 (.Af (.t 104))::
oo 106 (.Cc 3 1 (.t 9) (.c (Value.int .i64 2)))::
oo 107 (.Af (.t 106))::
oo 108 (.int .mul (.t 105) (.t 107))::
oo 109 (.Cc 3 1 (.t 9) z0)::
oo 110 (.Af (.t 109))::
oo 111 (.Cc 3 1 (.t 5) (.c (Value.int .i64 2)))::
oo 112 (.Af (.t 111))::
oo 113 (.int .mul (.t 110) (.t 112))::
oo 114 (.int .sub (.t 108) (.t 113))::
om 11 103::
om 12 114::[]) []) (.seq (.seq (.reg (
 om 115 10::
oo 116 (.int .lss (.t 115) z0)::[])) (.cond (.t 116) (.reg (
 om 117 10::
oo 118 (.neg (.t 117))::
om 119 11::
oo 120 (.neg (.t 119))::
om 121 12::
oo 122 (.neg (.t 121))::
om 10 118::
om 11 120::
om 12 122::[])) .skip)) (.seq (.reg (
 om 123 10::
oo 124 (.int .gtr (.t 123) z0)::
om 125 124::
og 126 125 true (.mv (.t 0))::
og 127 125 true (.mv (.t 11))::
og 128 125 true (.mv (.t 12))::
og 129 125 true (.mv (.t 10))::
og 130 125 true (.build [k0,k0,k0] [(0,1,(.t 127)),(1,1,(.t 128)),(2,1,(.t 129))])::
⟨(some 131),(some (125,true)),(.call (.t 126) [(.t 130)])⟩::
og 132 125 true (.not (.t 131))::
oo 133 (.pick (.t 125) (.t 132) (.c (Value.bool false)))::[])) (.cond (.t 133) .ret .skip))))))) (.reg (
 oo 134 (.int .add (.t 86) z1)::
om 86 134::[]))))))))))))) (.reg (
 oo 135 (.int .add (.t 39) z1)::
om 39 135::[])))))))))))
def Ak5:List ResultVar:=[]
theorem zV:Cf Tryz.prog 192 136 2 Aie Ak5:=
  ⟨rfl,Tryz.f192,_,rfl,rfl,rfl,by decide,rfl,rfl,rfl⟩
noncomputable def a193:Ay:=(.seq (.reg (
 oo 2 (.box (.t 0) 109)::
oo 3 (.box (.t 1) 109)::
oo 4 (.mv z0)::[])) (.seq (.reg (
 oo 5 (.Cc 3 1 (.t 2) z0)::
oo 6 (.Af (.t 5))::
oo 7 (.Cc 3 1 (.t 3) z1)::
oo 8 (.Af (.t 7))::
oo 9 (.int .mul (.t 6) (.t 8))::
oo 10 (.Cc 3 1 (.t 2) z1)::
oo 11 (.Af (.t 10))::
oo 12 (.Cc 3 1 (.t 3) z0)::
oo 13 (.Af (.t 12))::
oo 14 (.int .mul (.t 11) (.t 13))::
oo 15 (.int .sub (.t 9) (.t 14))::
om 4 15::[])) .ret))
def Ak4:List ResultVar:=[.tmp 4]
theorem zU:Cf Tryz.prog 193 16 2 a193 Ak4:=
  ⟨rfl,Tryz.f193,_,rfl,rfl,rfl,by decide,rfl,rfl,rfl⟩
noncomputable def a194:Ay:=(.seq (.reg (
 oo 4 (.mv z0)::[])) (.seq (.reg (
 om 5 0::
om 6 0::
oo 7 (.neg (.t 6))::
oo 8 (.Il true (.t 5) (.t 7))::
om 0 8::[])) (.seq (.block 0 (.loop (.seq (.seq (.reg (
 om 9 0::
oo 10 (.int .neq (.t 9) z0)::[])) (.cond (.t 10) .skip (.exit 0))) (.block 1 (.reg (
 om 11 1::
om 12 0::
oo 13 (.EV false (.t 11) (.t 12))::
om 14 0::
om 0 13::
om 1 14::[])))))) (.seq (.reg (
 om 15 1::
om 4 15::[])) .ret))))
def Ak3:List ResultVar:=[.tmp 4]
theorem zT:Cf Tryz.prog 194 16 2 a194 Ak3:=
  ⟨rfl,Tryz.f194,_,rfl,rfl,rfl,by decide,rfl,rfl,rfl⟩
noncomputable def a196:Ay:=(.seq (.reg (
 oo 4 (.mv z0)::[])) (.seq (.seq (.reg (
 om 6 0::
oo 7 (.len (.t 6))::
oo 8 (.mv z0)::[])) (.block 0 (.loop (.seq (.reg (
 oo 9 (.int .lss (.t 8) (.t 7))::[])) (.seq (.cond (.t 9) .skip (.exit 0)) (.seq (.block 1 (.seq (.reg (
 om 10 8::
om 5 10::[])) (.seq (.reg (
 om 11 1::
om 12 0::
om 13 5::
oo 14 (.Bb 4 (.t 12) (.t 13))::
oo 15 (.Az 4 (.t 14))::
⟨(some 16),none,(.call (.t 11) [(.t 15)])⟩::[])) (.cond (.t 16) (.seq (.reg (
 om 17 5::
om 4 17::[])) .ret) .skip)))) (.reg (
 oo 18 (.int .add (.t 8) z1)::
om 8 18::[])))))))) (.seq (.reg (
 oo 4 (.mv (.c (Value.int .i64 (-1))))::[])) .ret)))
def Ak2:List ResultVar:=[.tmp 4]
theorem zS:Cf Tryz.prog 196 19 2 a196 Ak2:=
  ⟨rfl,Tryz.f196,_,rfl,rfl,rfl,by decide,rfl,rfl,rfl⟩
noncomputable def Aid:Ay:=(.seq (.reg (
 oo 2 (.mv (.c (Value.bool false)))::[])) (.seq (.reg (
 om 3 0::
oc 4 54 [(.c (Value.int .i64 (-20))),(.c (Value.int .i64 20)),(.t 3)]::
om 2 4::[])) .ret))
def Ak1:List ResultVar:=[.tmp 2]
theorem zR:Cf Tryz.prog 197 5 1 Aid Ak1:=
  ⟨rfl,Tryz.f197,_,rfl,rfl,rfl,by decide,rfl,rfl,rfl⟩
noncomputable def a198:Ay:=(.seq (.reg (
 oo 8 (.Af (.t 1))::
oo 9 (.BP (.t 8))::
oo 10 (.Ai 1 (.t 9))::
oo 11 (.Af (.t 10))::
oo 12 (.len (.t 11))::
om 4 12::[])) (.seq (.reg (
 om 13 4::
oo 14 (.mv z0)::[])) (.block 0 (.loop (.seq (.reg (
 oo 15 (.int .lss (.t 14) (.t 13))::[])) (.seq (.cond (.t 15) .skip (.exit 0)) (.seq (.block 1 (.seq (.reg (
 om 16 14::
om 5 16::[])) (.seq (.seq (.reg (
 om 17 0::
om 18 5::
oo 19 (.BF [k0] [(0,1,(.t 18))] 1 3)::
⟨(some 20),none,(.call (.t 17) [(.t 19)])⟩::
oo 21 (.not (.t 20))::[])) (.cond (.t 21) .ret .skip)) (.seq (.reg (
 om 22 5::
oo 23 (.int .add (.t 22) z1)::
om 6 23::[])) (.block 2 (.loop (.seq (.seq (.reg (
 om 24 6::
om 25 4::
oo 26 (.int .lss (.t 24) (.t 25))::
om 27 26::
og 28 27 true (.Af (.t 2))::
og 29 27 true (.int .gtr (.t 28) z1)::
oo 30 (.pick (.t 27) (.t 29) (.c (Value.bool false)))::[])) (.cond (.t 30) .skip (.exit 2))) (.seq (.block 3 (.seq (.seq (.reg (
 om 33 0::
om 34 5::
om 35 6::
oo 36 (.BF [k0,k0] [(0,1,(.t 34)),(1,1,(.t 35))] 2 3)::
⟨(some 37),none,(.call (.t 33) [(.t 36)])⟩::
oo 38 (.not (.t 37))::[])) (.cond (.t 38) .ret .skip)) (.seq (.reg (
 om 39 6::
oo 40 (.int .add (.t 39) z1)::
om 7 40::[])) (.block 4 (.loop (.seq (.seq (.reg (
 om 41 7::
om 42 4::
oo 43 (.int .lss (.t 41) (.t 42))::
om 44 43::
og 45 44 true (.Af (.t 2))::
og 46 44 true (.int .gtr (.t 45) (.c (Value.int .i64 2)))::
oo 47 (.pick (.t 44) (.t 46) (.c (Value.bool false)))::[])) (.cond (.t 47) .skip (.exit 4))) (.seq (.block 5 (.seq (.reg (
 om 50 0::
om 51 5::
om 52 6::
om 53 7::
oo 54 (.BF [k0,k0,k0] [(0,1,(.t 51)),(1,1,(.t 52)),(2,1,(.t 53))] 3 3)::
⟨(some 55),none,(.call (.t 50) [(.t 54)])⟩::
oo 56 (.not (.t 55))::[])) (.cond (.t 56) .ret .skip))) (.reg (
 om 48 7::
oo 49 (.int .add (.t 48) z1)::
om 7 49::[]))))))))) (.reg (
 om 31 6::
oo 32 (.int .add (.t 31) z1)::
om 6 32::[])))))))))) (.reg (
 oo 57 (.int .add (.t 14) z1)::
om 14 57::[])))))))))
def Ak0:List ResultVar:=[]
theorem zQ:Cf Tryz.prog 198 58 3 a198 Ak0:=
  ⟨rfl,Tryz.f198,_,rfl,rfl,rfl,by decide,rfl,rfl,rfl⟩
noncomputable def Aic:Ay:=(.seq (.reg (
 oo 1 (.box (.t 0) 109)::
oo 2 (.mv z0)::[])) (.seq (.reg (
 oo 3 (.Cc 3 1 (.t 1) z0)::
oo 4 (.Af (.t 3))::
oo 5 (.Cc 3 1 (.t 1) z0)::
oo 6 (.Af (.t 5))::
oo 7 (.neg (.t 6))::
oo 8 (.Il true (.t 4) (.t 7))::
oo 9 (.Cc 3 1 (.t 1) z1)::
oo 10 (.Af (.t 9))::
oo 11 (.Cc 3 1 (.t 1) z1)::
oo 12 (.Af (.t 11))::
oo 13 (.neg (.t 12))::
oo 14 (.Il true (.t 10) (.t 13))::
oo 15 (.int .add (.t 8) (.t 14))::
om 2 15::[])) .ret))
def Akz:List ResultVar:=[.tmp 2]
theorem zP:Cf Tryz.prog 199 16 1 Aic Akz:=
  ⟨rfl,Tryz.f199,_,rfl,rfl,rfl,by decide,rfl,rfl,rfl⟩
noncomputable def Aib:Ay:=(.seq (.reg (
 oo 2 (.alloc [k0,k0,k0] 109)::[])) (.seq (.reg (
 oo 3 (.alloc [k0,k0,k0] 109)::[])) (.seq (.seq (.reg (
 om 8 0::
oo 9 (.len (.t 8))::
oo 10 (.mv z0)::[])) (.block 0 (.loop (.seq (.reg (
 oo 11 (.int .lss (.t 10) (.t 9))::[])) (.seq (.cond (.t 11) .skip (.exit 0)) (.seq (.block 1 (.seq (.reg (
 oo 12 (.Bb 3 (.t 8) (.t 10))::
oo 13 (.Az 3 (.t 12))::
oo 5 (.alloc [k0,k0,k0] 109)::
oz (.store 3 (.t 5) (.t 13))::[])) (.seq (.reg (
 oo 14 (.Az 3 (.t 5))::
oo 15 (.mv z0)::[])) (.block 2 (.loop (.seq (.reg (
 oo 16 (.int .lss (.t 15) (.c (Value.int .i64 3)))::[])) (.seq (.cond (.t 16) .skip (.exit 2)) (.seq (.block 3 (.seq (.reg (
 om 17 15::
oo 18 (.tu 3 (.t 14) (.t 15))::
om 6 17::
om 7 18::[])) (.reg (
 om 19 6::
oo 20 (.Cc 3 1 (.t 3) (.t 19))::
oo 21 (.Af (.t 20))::
om 22 7::
oo 23 (.int .add (.t 21) (.t 22))::
oo 24 (.Cc 3 1 (.t 3) (.t 19))::
oz (.store 1 (.t 24) (.t 23))::[])))) (.reg (
 oo 25 (.int .add (.t 15) z1)::
om 15 25::[])))))))))) (.reg (
 oo 26 (.int .add (.t 10) z1)::
om 10 26::[])))))))) (.seq (.reg (
 oo 27 (.Az 3 (.t 3))::
oz (.store 3 (.t 2) (.t 27))::[])) .ret))))
def Aky:List ResultVar:=[.cell 2 109]
theorem zO:Cf Tryz.prog 200 28 1 Aib Aky:=
  ⟨rfl,Tryz.f200,_,rfl,rfl,rfl,by decide,rfl,rfl,rfl⟩
noncomputable def a201:Ay:=(.seq (.reg (
 oo 2 (.box (.t 0) 109)::
oo 4 (.alloc [k0,k0,k0] 109)::[])) (.seq (.reg (
 oo 5 (.Cc 3 1 (.t 2) z0)::
oo 6 (.Af (.t 5))::
om 7 1::
oo 8 (.int .mul (.t 6) (.t 7))::
oo 9 (.Cc 3 1 (.t 2) z1)::
oo 10 (.Af (.t 9))::
om 11 1::
oo 12 (.int .mul (.t 10) (.t 11))::
oo 13 (.Cc 3 1 (.t 2) (.c (Value.int .i64 2)))::
oo 14 (.Af (.t 13))::
om 15 1::
oo 16 (.int .mul (.t 14) (.t 15))::
oo 17 (.build [k0,k0,k0] [(0,1,(.t 8)),(1,1,(.t 12)),(2,1,(.t 16))])::
oz (.store 3 (.t 4) (.t 17))::[])) .ret))
def Akx:List ResultVar:=[.cell 4 109]
theorem zN:Cf Tryz.prog 201 18 2 a201 Akx:=
  ⟨rfl,Tryz.f201,_,rfl,rfl,rfl,by decide,rfl,rfl,rfl⟩
noncomputable def Aia:Ay:=(.seq (.reg (
 oo 8 (.alloc [Value.map none,k0,k0,k0,k0] 111)::[])) (.seq (.reg (
 oo 12 (.LO)::
oo 13 (.build [k0,k0,k0] [])::
om 14 2::
oo 15 (.build [Value.map none,k0,k0,k0,k0] [(0,1,(.t 12)),(1,3,(.t 13)),(4,1,(.t 14))])::
oo 9 (.alloc [Value.map none,k0,k0,k0,k0] 111)::
oz (.store 5 (.t 9) (.t 15))::[])) (.seq (.seq (.reg (
 om 16 1::
oo 17 (.len (.t 16))::
oo 18 (.mv z0)::[])) (.block 0 (.loop (.seq (.reg (
 oo 19 (.int .lss (.t 18) (.t 17))::[])) (.seq (.cond (.t 19) .skip (.exit 0)) (.seq (.block 1 (.seq (.reg (
 om 20 18::
oo 21 (.Bb 1 (.t 16) (.t 18))::
oo 22 (.Af (.t 21))::
om 10 20::
om 11 22::[])) (.seq (.BN (
 oo 23 (.Ai 0 (.t 9))::
oo 24 (.Af (.t 23))::
om 25 11::
om 26 3::
om 27 10::
oo 28 (.Bb 1 (.t 26) (.t 27))::
oo 29 (.Af (.t 28))::
oz (.Ig 3 (.t 24) (.t 25) (.t 29))::[]) []) (.BN (
 oo 30 (.Ai 1 (.t 9))::
oo 31 (.Az 3 (.t 30))::
om 32 0::
oo 33 (.BP (.t 32))::
oo 34 (.Ai 1 (.t 33))::
oo 35 (.Af (.t 34))::
om 36 11::
oo 37 (.Bb 3 (.t 35) (.t 36))::
oo 38 (.Az 3 (.t 37))::
om 39 3::
om 40 10::
oo 41 (.Bb 1 (.t 39) (.t 40))::
oo 42 (.Af (.t 41))::
oc 43 201 [(.t 38),(.t 42)]::
oo 44 (.BF [k0,k0,k0,k0,k0,k0] [(0,3,(.t 31)),(3,3,(.t 43))] 2 109)::
oc 45 200 [(.t 44)]::
oo 46 (.Ai 1 (.t 9))::
oz (.store 3 (.t 46) (.t 45))::[]) [])))) (.reg (
 oo 47 (.int .add (.t 18) z1)::
om 18 47::[])))))))) (.seq (.reg (
 oo 48 (.Az 5 (.t 9))::
oz (.store 5 (.t 8) (.t 48))::[])) .ret))))
def Akw:List ResultVar:=[.cell 8 111]
theorem zM:Cf Tryz.prog 202 49 4 Aia Akw:=
  ⟨rfl,Tryz.f202,_,rfl,rfl,rfl,by decide,rfl,rfl,rfl⟩
noncomputable def a203:Ay:=(.seq (.reg (
 oo 8 (.mv (.c (Value.bool true)))::[])) (.seq (.reg (
 oo 9 (.mv (.c (Value.bool true)))::[])) (.block 0 (.loop (.block 1 (.seq (.reg (
 om 19 2::
om 20 1::
oo 21 (.int .sub (.t 19) (.t 20))::
om 10 21::[])) (.seq (.seq (.reg (
 om 22 10::
oo 23 (.int .leq (.t 22) (.c (Value.int .i64 12)))::[])) (.cond (.t 23) (.seq (.reg (
 om 24 0::
om 25 1::
om 26 2::
oc 27 283 [(.t 24),(.t 25),(.t 26)]::[])) .ret) .skip)) (.seq (.seq (.reg (
 om 28 3::
oo 29 (.int .eql (.t 28) z0)::[])) (.cond (.t 29) (.seq (.reg (
 om 30 0::
om 31 1::
om 32 2::
oc 33 284 [(.t 30),(.t 31),(.t 32)]::[])) .ret) .skip)) (.seq (.seq (.reg (
 om 34 8::
oo 35 (.not (.t 34))::[])) (.cond (.t 35) (.seq (.reg (
 om 36 0::
om 37 1::
om 38 2::
oc 39 285 [(.t 36),(.t 37),(.t 38)]::[])) (.reg (
 om 40 3::
oo 41 (.int .sub (.t 40) z1)::
om 3 41::[]))) .skip)) (.seq (.reg (
 om 43 0::
om 44 1::
om 45 2::
oc 46 286 [(.t 43),(.t 44),(.t 45)]::
om 42 46::
oo 47 (.extract (.t 42) 0)::
oo 48 (.extract (.t 42) 1)::
om 11 47::
om 12 48::[])) (.seq (.seq (.reg (
 om 49 12::
oo 50 (.int .eql (.t 49) (.c (Value.int .i64 2)))::[])) (.cond (.t 50) (.seq (.reg (
 om 51 0::
om 52 1::
om 53 2::
oc 54 287 [(.t 51),(.t 52),(.t 53)]::[])) (.seq (.reg (
 om 55 2::
oo 56 (.int .sub (.t 55) z1)::
om 57 11::
om 58 1::
oo 59 (.int .sub (.t 57) (.t 58))::
oo 60 (.int .sub (.t 56) (.t 59))::
om 11 60::[])) (.reg (
 oo 12 (.mv z1)::[])))) .skip)) (.seq (.seq (.reg (
 om 61 8::
om 62 61::
og 63 62 true (.mv (.t 9))::
oo 64 (.pick (.t 62) (.t 63) (.c (Value.bool false)))::
om 65 64::
og 66 65 true (.mv (.t 12))::
og 67 65 true (.int .eql (.t 66) z1)::
oo 68 (.pick (.t 65) (.t 67) (.c (Value.bool false)))::[])) (.cond (.t 68) (.seq (.reg (
 om 69 0::
om 70 1::
om 71 2::
oc 72 288 [(.t 69),(.t 70),(.t 71)]::[])) (.cond (.t 72) .ret .skip)) .skip)) (.seq (.seq (.BN (
 om 73 1::
oo 74 (.int .gtr (.t 73) z0)::
om 75 74::
og 76 75 true (.mv (.t 0))::
og 77 75 true (.mv (.t 1))::
og 78 75 true (.int .sub (.t 77) z1)::
og 79 75 true (.Bb 1 (.t 76) (.t 78))::
og 80 75 true (.Af (.t 79))::
og 81 75 true (.mv (.t 0))::
og 82 75 true (.mv (.t 11))::
og 83 75 true (.Bb 1 (.t 81) (.t 82))::
og 84 75 true (.Af (.t 83))::
F6 85 75 true 289 [(.t 80),(.t 84)]::
og 86 75 true (.not (.t 85))::
oo 87 (.pick (.t 75) (.t 86) (.c (Value.bool false)))::[]) []) (.cond (.t 87) (.seq (.reg (
 om 88 0::
om 89 1::
om 90 2::
om 91 11::
oc 92 290 [(.t 88),(.t 89),(.t 90),(.t 91)]::
om 13 92::[])) (.seq (.reg (
 om 93 13::
om 1 93::[])) (.exit 1))) .skip)) (.seq (.reg (
 om 95 0::
om 96 1::
om 97 2::
om 98 11::
oc 99 291 [(.t 95),(.t 96),(.t 97),(.t 98)]::
om 94 99::
oo 100 (.extract (.t 94) 0)::
oo 101 (.extract (.t 94) 1)::
om 14 100::
om 15 101::[])) (.seq (.reg (
 om 102 15::
om 9 102::[])) (.seq (.reg (
 om 103 14::
om 104 1::
oo 105 (.int .sub (.t 103) (.t 104))::
om 106 2::
om 107 14::
oo 108 (.int .sub (.t 106) (.t 107))::
om 16 105::
om 17 108::[])) (.seq (.reg (
 om 109 10::
oo 110 (.EV true (.t 109) (.c (Value.int .i64 8)))::
om 18 110::[])) (.seq (.reg (
 om 111 16::
om 112 17::
oo 113 (.int .lss (.t 111) (.t 112))::[])) (.cond (.t 113) (.seq (.reg (
 om 114 16::
om 115 18::
oo 116 (.int .geq (.t 114) (.t 115))::
om 8 116::[])) (.seq (.reg (
 om 117 0::
om 118 1::
om 119 14::
om 120 3::
oc 121 203 [(.t 117),(.t 118),(.t 119),(.t 120)]::[])) (.reg (
 om 122 14::
oo 123 (.int .add (.t 122) z1)::
om 1 123::[])))) (.seq (.reg (
 om 124 17::
om 125 18::
oo 126 (.int .geq (.t 124) (.t 125))::
om 8 126::[])) (.seq (.reg (
 om 127 0::
om 128 14::
oo 129 (.int .add (.t 128) z1)::
om 130 2::
om 131 3::
oc 132 203 [(.t 127),(.t 129),(.t 130),(.t 131)]::[])) (.reg (
 om 133 14::
om 2 133::[])))))))))))))))))))))))
def Akv:List ResultVar:=[]
theorem zL:Cf Tryz.prog 203 134 4 a203 Akv:=
  ⟨rfl,Tryz.f203,_,rfl,rfl,rfl,by decide,rfl,rfl,rfl⟩
noncomputable def Ah9:Ay:=(.seq (.reg (
 oo 2 (.mv z0)::[])) (.seq (.cond (.c (Value.bool false)) (.seq (.reg (
 om 3 0::
oo 4 (.conv .u32 (.t 3))::
oc 5 292 [(.t 4)]::
om 2 5::[])) .ret) .skip) (.seq (.reg (
 om 6 0::
oc 7 293 [(.t 6)]::
om 2 7::[])) .ret)))
def Aku:List ResultVar:=[.tmp 2]
theorem zK:Cf Tryz.prog 204 8 1 Ah9 Aku:=
  ⟨rfl,Tryz.f204,_,rfl,rfl,rfl,by decide,rfl,rfl,rfl⟩
noncomputable def uX:Ay:=(.seq (.reg (
 oo 4 (.mv z0)::[])) (.seq (.seq (.reg (
 om 6 0::
oo 7 (.len (.t 6))::
oo 8 (.mv z0)::[])) (.block 0 (.loop (.seq (.reg (
 oo 9 (.int .lss (.t 8) (.t 7))::[])) (.seq (.cond (.t 9) .skip (.exit 0)) (.seq (.block 1 (.seq (.reg (
 om 10 8::
om 5 10::[])) (.seq (.reg (
 om 11 1::
om 12 0::
om 13 5::
oo 14 (.Bb 1 (.t 12) (.t 13))::
oo 15 (.Af (.t 14))::
⟨(some 16),none,(.call (.t 11) [(.t 15)])⟩::[])) (.cond (.t 16) (.seq (.reg (
 om 17 5::
om 4 17::[])) .ret) .skip)))) (.reg (
 oo 18 (.int .add (.t 8) z1)::
om 8 18::[])))))))) (.seq (.reg (
 oo 4 (.mv (.c (Value.int .i64 (-1))))::[])) .ret)))
def Akt:List ResultVar:=[.tmp 4]
theorem bT:Cf Tryz.prog 205 19 2 uX Akt:=
  ⟨rfl,Tryz.f205,_,rfl,rfl,rfl,by decide,rfl,rfl,rfl⟩
noncomputable def a206:Ay:=(.seq (.reg (
 oo 4 (.alloc [Value.map none,k0,k0,k0,k0] 111)::[])) (.seq (.reg (
 om 8 0::
oo 9 (.Bb 5 (.t 8) z0)::
oo 10 (.Az 5 (.t 9))::
oo 5 (.alloc [Value.map none,k0,k0,k0,k0] 111)::
oz (.store 5 (.t 5) (.t 10))::[])) (.seq (.seq (.reg (
 om 11 0::
oo 12 (.HL 5 (.t 11) (some z1) none none)::
oo 13 (.len (.t 12))::
oo 14 (.mv z0)::[])) (.block 0 (.loop (.seq (.reg (
 oo 15 (.int .lss (.t 14) (.t 13))::[])) (.seq (.cond (.t 15) .skip (.exit 0)) (.seq (.block 1 (.seq (.reg (
 oo 16 (.Bb 5 (.t 12) (.t 14))::
oo 17 (.Az 5 (.t 16))::
oo 7 (.alloc [Value.map none,k0,k0,k0,k0] 111)::
oz (.store 5 (.t 7) (.t 17))::[])) (.seq (.reg (
 om 18 1::
oo 19 (.Az 5 (.t 7))::
oo 20 (.Az 5 (.t 5))::
⟨(some 21),none,(.call (.t 18) [(.t 19),(.t 20)])⟩::[])) (.cond (.t 21) (.reg (
 oo 22 (.Az 5 (.t 7))::
oz (.store 5 (.t 5) (.t 22))::[])) .skip)))) (.reg (
 oo 23 (.int .add (.t 14) z1)::
om 14 23::[])))))))) (.seq (.reg (
 oo 24 (.Az 5 (.t 5))::
oz (.store 5 (.t 4) (.t 24))::[])) .ret))))
def Aks:List ResultVar:=[.cell 4 111]
theorem zJ:Cf Tryz.prog 206 25 2 a206 Aks:=
  ⟨rfl,Tryz.f206,_,rfl,rfl,rfl,by decide,rfl,rfl,rfl⟩
noncomputable def Ah8:Ay:=(.seq (.reg (
 oo 2 (.box (.t 0) 111)::
oo 3 (.box (.t 1) 111)::
oo 4 (.mv (.c (Value.bool false)))::[])) (.seq (.BN (
 oo 5 (.Az 5 (.t 3))::
oc 6 58 [(.t 5)]::
oo 7 (.Az 5 (.t 2))::
oc 8 58 [(.t 7)]::
oc 9 208 [(.t 6),(.t 8)]::
om 4 9::[]) []) .ret))
def Akr:List ResultVar:=[.tmp 4]
theorem zI:Cf Tryz.prog 207 10 2 Ah8 Akr:=
  ⟨rfl,Tryz.f207,_,rfl,rfl,rfl,by decide,rfl,rfl,rfl⟩
noncomputable def a208:Ay:=(.seq (.reg (
 oo 2 (.box (.t 0) 57)::
oo 3 (.box (.t 1) 57)::
oo 4 (.mv (.c (Value.bool false)))::[])) (.seq (.reg (
 oo 5 (.Ai 0 (.t 2))::
oo 6 (.Af (.t 5))::
oo 7 (.Ai 1 (.t 3))::
oo 8 (.Af (.t 7))::
oo 9 (.int .mul (.t 6) (.t 8))::
oo 10 (.Ai 0 (.t 3))::
oo 11 (.Af (.t 10))::
oo 12 (.Ai 1 (.t 2))::
oo 13 (.Af (.t 12))::
oo 14 (.int .mul (.t 11) (.t 13))::
oo 15 (.int .lss (.t 9) (.t 14))::
om 4 15::[])) .ret))
def Akq:List ResultVar:=[.tmp 4]
theorem zH:Cf Tryz.prog 208 16 2 a208 Akq:=
  ⟨rfl,Tryz.f208,_,rfl,rfl,rfl,by decide,rfl,rfl,rfl⟩
noncomputable def Xg:Ay:=(.reg (
 oo 3 (.alloc [k0,k0,k0,k0] 327)::
oz (.store 4 (.t 3) (.t 5))::[]))
noncomputable def Xf:Ay:=(.block 1 (.seq (.reg (
 oo 6 (.Ai 0 (.t 3))::
oo 7 (.Ai 0 (.t 6))::
oo 8 (.Af (.t 7))::
oo 9 (.Ai 2 (.t 3))::
oo 10 (.Af (.t 9))::
oo 11 (.int .lss (.t 8) (.t 10))::
om 12 11::
og 13 12 false (.Ai 0 (.t 3))::
og 14 12 false (.Ai 0 (.t 13))::
og 15 12 false (.Af (.t 14))::
og 16 12 false (.Ai 0 (.t 3))::
og 17 12 false (.Ai 1 (.t 16))::
og 18 12 false (.Af (.t 17))::
og 19 12 false (.int .gtr (.t 15) (.t 18))::
oo 20 (.pick (.t 12) (.c (Value.bool true)) (.t 19))::
om 21 20::
og 22 21 false (.Ai 0 (.t 3))::
og 23 21 false (.Ai 1 (.t 22))::
og 24 21 false (.Af (.t 23))::
og 25 21 false (.Ai 3 (.t 3))::
og 26 21 false (.Af (.t 25))::
og 27 21 false (.int .gtr (.t 24) (.t 26))::
oo 28 (.pick (.t 21) (.c (Value.bool true)) (.t 27))::[])) (.cond (.t 28) (.seq (.reg (
 oz (.store 1 (.t 2) (.c (Value.bool false)))::[])) .ret) .skip)))
theorem Aby:ET Tryz.prog 29 false (He Tryz.f209 0).1=some Xg:=rfl
theorem Abx:ET Tryz.prog 29 false (He Tryz.f209 0).2=some Xf:=rfl
noncomputable def Ah7:Ay:=(.seq (.reg (
 oo 2 (.alloc [Value.bool false] 4)::[])) (.seq (.seq (.reg (
 om 4 0::[])) (.block 0 (.range (.t 4) [5] 29 (He Tryz.f209 0).1 (He Tryz.f209 0).2 Xg Xf))) (.seq (.reg (
 oz (.store 1 (.t 2) (.c (Value.bool true)))::[])) .ret)))
def Akp:List ResultVar:=[.cell 2 4]
theorem oI:Cf Tryz.prog 209 29 1 Ah7 Akp:=
  ⟨rfl,Tryz.f209,_,rfl,rfl,rfl,by decide,rfl,rfl,rfl⟩
noncomputable def a210:Ay:=(.seq (.reg (
 oo 2 (.mv (.c (Value.nilFunc)))::[])) (.seq (.reg (
 om 3 0::
oc 4 294 [(.t 3)]::
om 2 4::[])) .ret))
def Ako:List ResultVar:=[.tmp 2]
theorem zG:Cf Tryz.prog 210 5 1 a210 Ako:=
  ⟨rfl,Tryz.f210,_,rfl,rfl,rfl,by decide,rfl,rfl,rfl⟩
noncomputable def Ah6:Ay:=(.seq (.reg (
 oo 6 (.alloc [k0,k0,k0,k0] 327)::[])) (.seq (.reg (
 om 7 0::
om 8 0::
oo 9 (.build [k0,k0] [(0,1,(.t 7)),(1,1,(.t 8))])::
om 10 1::
om 11 2::
oo 12 (.build [k0,k0,k0,k0] [(0,2,(.t 9)),(2,1,(.t 10)),(3,1,(.t 11))])::
oz (.store 4 (.t 6) (.t 12))::[])) .ret))
def Akn:List ResultVar:=[.cell 6 327]
theorem zF:Cf Tryz.prog 211 13 3 Ah6 Akn:=
  ⟨rfl,Tryz.f211,_,rfl,rfl,rfl,by decide,rfl,rfl,rfl⟩
noncomputable def a212:Ay:=(.seq (.reg (
 oo 1 (.box (.t 0) 71)::
oo 2 (.mv z0)::[])) (.seq (.block 0 (.seq (.reg (
 oo 8 (.Ai 0 (.t 1))::
oo 9 (.Af (.t 8))::
oo 10 (.len (.t 9))::
oo 11 (.int .lss (.t 10) (.c (Value.int .i64 2)))::
om 12 11::
og 13 12 false (.Ai 0 (.t 1))::
og 14 12 false (.Af (.t 13))::
og 15 12 false (.len (.t 14))::
og 16 12 false (.int .gtr (.t 15) (.c (Value.int .i64 12)))::
oo 17 (.pick (.t 12) (.c (Value.bool true)) (.t 16))::
om 7 17::[])) (.cond (.t 7) (.seq (.reg (
 oo 2 (.mv (.c (Value.int .i64 6)))::[])) .ret) (.seq (.reg (
 oo 19 (.Ai 1 (.t 1))::
oo 20 (.Af (.t 19))::
oo 21 (.len (.t 20))::
oo 22 (.Ai 0 (.t 1))::
oo 23 (.Af (.t 22))::
oo 24 (.len (.t 23))::
oo 25 (.int .neq (.t 21) (.t 24))::
om 18 25::[])) (.cond (.t 18) (.seq (.reg (
 oo 2 (.mv (.c (Value.int .i64 15)))::[])) .ret) .skip))))) (.seq (.reg (
 oo 3 (.mv z0)::
oo 4 (.mv (.c (Value.int .i64 100000)))::[])) (.seq (.seq (.reg (
 oo 26 (.Ai 0 (.t 1))::
oo 27 (.Af (.t 26))::
oo 28 (.len (.t 27))::
oo 29 (.mv z0)::[])) (.block 1 (.loop (.seq (.reg (
 oo 30 (.int .lss (.t 29) (.t 28))::[])) (.seq (.cond (.t 30) .skip (.exit 1)) (.seq (.block 2 (.seq (.reg (
 om 31 29::
oo 32 (.Bb 1 (.t 27) (.t 29))::
oo 33 (.Af (.t 32))::
om 5 31::
om 6 33::[])) (.seq (.seq (.BN (
 om 34 6::
om 35 3::
oo 36 (.int .add (.t 35) z1)::
oc 37 211 [(.t 34),(.t 36),(.c (Value.int .i64 1000000000))]::
oo 38 (.Ai 1 (.t 1))::
oo 39 (.Af (.t 38))::
om 40 5::
oo 41 (.Bb 1 (.t 39) (.t 40))::
oo 42 (.Af (.t 41))::
om 43 4::
oc 44 211 [(.t 42),z0,(.t 43)]::
oo 45 (.BF [k0,k0,k0,k0,k0,k0,k0,k0] [(0,4,(.t 37)),(4,4,(.t 44))] 2 327)::
oc 46 210 [(.t 45)]::
oc 47 209 [(.t 46)]::
oo 48 (.not (.t 47))::[]) []) (.cond (.t 48) (.seq (.reg (
 oo 2 (.mv (.c (Value.int .i64 2)))::[])) .ret) .skip)) (.BN (
 om 49 6::
oo 50 (.Ai 1 (.t 1))::
oo 51 (.Af (.t 50))::
om 52 5::
oo 53 (.Bb 1 (.t 51) (.t 52))::
oo 54 (.Af (.t 53))::
om 3 49::
om 4 54::[]) [])))) (.reg (
 oo 55 (.int .add (.t 29) z1)::
om 29 55::[])))))))) (.seq (.reg (
 oo 2 (.mv z0)::[])) .ret)))))
def Akm:List ResultVar:=[.tmp 2]
theorem zD:Cf Tryz.prog 212 56 1 a212 Akm:=
  ⟨rfl,Tryz.f212,_,rfl,rfl,rfl,by decide,rfl,rfl,rfl⟩
noncomputable def a213:Ay:=(.seq (.reg (
 oo 4 (.mv z0)::[])) (.seq (.seq (.reg (
 om 6 0::
oo 7 (.len (.t 6))::
oo 8 (.mv z0)::[])) (.block 0 (.loop (.seq (.reg (
 oo 9 (.int .lss (.t 8) (.t 7))::[])) (.seq (.cond (.t 9) .skip (.exit 0)) (.seq (.block 1 (.seq (.reg (
 om 10 8::
om 5 10::[])) (.seq (.reg (
 om 11 1::
om 12 0::
om 13 5::
oo 14 (.Bb 2 (.t 12) (.t 13))::
oo 15 (.Az 2 (.t 14))::
⟨(some 16),none,(.call (.t 11) [(.t 15)])⟩::[])) (.cond (.t 16) (.seq (.reg (
 om 17 5::
om 4 17::[])) .ret) .skip)))) (.reg (
 oo 18 (.int .add (.t 8) z1)::
om 8 18::[])))))))) (.seq (.reg (
 oo 4 (.mv (.c (Value.int .i64 (-1))))::[])) .ret)))
def Akl:List ResultVar:=[.tmp 4]
theorem zC:Cf Tryz.prog 213 19 2 a213 Akl:=
  ⟨rfl,Tryz.f213,_,rfl,rfl,rfl,by decide,rfl,rfl,rfl⟩
noncomputable def Ah5:Ay:=(.seq (.reg (
 oo 1 (.box (.t 0) 135)::
oo 2 (.alloc [k0,k0,k0,k0] 330)::[])) (.seq (.BN (
 oo 3 (.Az 16 (.t 1))::
oo 4 (.Ai 0 (.t 1))::
oo 5 (.Ai 6 (.t 4))::
oo 6 (.Ai 1 (.t 5))::
oo 7 (.Af (.t 6))::
oc 8 218 [(.t 3),(.t 7)]::
oo 9 (.Az 16 (.t 1))::
oo 10 (.Ai 0 (.t 1))::
oo 11 (.Ai 6 (.t 10))::
oo 12 (.Ai 0 (.t 11))::
oo 13 (.Af (.t 12))::
oc 14 218 [(.t 9),(.t 13)]::
oo 15 (.build [k0,k0] [(0,1,(.t 8)),(1,1,(.t 14))])::
oo 16 (.Az 16 (.t 1))::
oo 17 (.Ai 0 (.t 1))::
oo 18 (.Ai 8 (.t 17))::
oo 19 (.Ai 1 (.t 18))::
oo 20 (.Af (.t 19))::
oc 21 219 [(.t 16),(.t 20)]::
oo 22 (.Az 16 (.t 1))::
oo 23 (.Ai 0 (.t 1))::
oo 24 (.Ai 8 (.t 23))::
oo 25 (.Ai 0 (.t 24))::
oo 26 (.Af (.t 25))::
oc 27 219 [(.t 22),(.t 26)]::
oo 28 (.build [k0,k0] [(0,1,(.t 21)),(1,1,(.t 27))])::
oo 29 (.build [k0,k0,k0,k0] [(0,2,(.t 15)),(2,2,(.t 28))])::
oz (.store 4 (.t 2) (.t 29))::[]) []) .ret))
def Akk:List ResultVar:=[.cell 2 330]
theorem zB:Cf Tryz.prog 214 30 1 Ah5 Akk:=
  ⟨rfl,Tryz.f214,_,rfl,rfl,rfl,by decide,rfl,rfl,rfl⟩
noncomputable def Ah4:Ay:=(.seq (.reg (
 oo 2 (.box (.t 0) 222)::
oo 3 (.box (.t 1) 23)::
oo 4 (.mv (.c (Value.bool false)))::[])) (.seq (.reg (
 oo 6 (.Az 2 (.t 2))::
oc 7 295 [(.t 6)]::
oo 5 (.alloc [k0,k0] 340)::
oz (.store 2 (.t 5) (.t 7))::[])) (.seq (.reg (
 oo 8 (.Ai 0 (.t 3))::
oo 9 (.Af (.t 8))::
oo 10 (.Cc 2 1 (.t 5) z0)::
oo 11 (.Af (.t 10))::
oo 12 (.int .geq (.t 9) (.t 11))::
om 13 12::
og 14 13 true (.Ai 1 (.t 3))::
og 15 13 true (.Af (.t 14))::
og 16 13 true (.Cc 2 1 (.t 5) z1)::
og 17 13 true (.Af (.t 16))::
og 18 13 true (.int .leq (.t 15) (.t 17))::
oo 19 (.pick (.t 13) (.t 18) (.c (Value.bool false)))::
om 4 19::[])) .ret)))
def Akj:List ResultVar:=[.tmp 4]
theorem zA:Cf Tryz.prog 215 20 2 Ah4 Akj:=
  ⟨rfl,Tryz.f215,_,rfl,rfl,rfl,by decide,rfl,rfl,rfl⟩
noncomputable def Ah3:Ay:=(.seq (.reg (
 oo 2 (.box (.t 0) 222)::
oo 4 (.mv z0)::[])) (.seq (.reg (
 oo 7 (.Ai 0 (.t 2))::
oo 8 (.Ai 0 (.t 7))::
oo 9 (.Af (.t 8))::
om 10 1::
oc 11 296 [(.t 9),(.t 10)]::
om 5 11::[])) (.seq (.seq (.reg (
 oo 12 (.Ai 0 (.t 2))::
oo 13 (.Ai 0 (.t 12))::
oo 14 (.Af (.t 13))::
om 15 5::
oo 16 (.Bb 1 (.t 14) (.t 15))::
oo 17 (.Af (.t 16))::
om 18 1::
oo 19 (.int .eql (.t 17) (.t 18))::[])) (.cond (.t 19) (.seq (.reg (
 oo 20 (.Ai 0 (.t 2))::
oo 21 (.Ai 1 (.t 20))::
oo 22 (.Af (.t 21))::
om 23 5::
oo 24 (.Bb 1 (.t 22) (.t 23))::
oo 25 (.Af (.t 24))::
om 4 25::[])) .ret) .skip)) (.seq (.BN (
 oo 26 (.Ai 0 (.t 2))::
oo 27 (.Ai 1 (.t 26))::
oo 28 (.Af (.t 27))::
om 29 5::
oo 30 (.int .sub (.t 29) z1)::
oo 31 (.Bb 1 (.t 28) (.t 30))::
oo 32 (.Af (.t 31))::
oo 33 (.Ai 0 (.t 2))::
oo 34 (.Ai 1 (.t 33))::
oo 35 (.Af (.t 34))::
om 36 5::
oo 37 (.Bb 1 (.t 35) (.t 36))::
oo 38 (.Af (.t 37))::
oo 39 (.int .sub (.t 32) (.t 38))::
om 40 1::
oo 41 (.Ai 0 (.t 2))::
oo 42 (.Ai 0 (.t 41))::
oo 43 (.Af (.t 42))::
om 44 5::
oo 45 (.int .sub (.t 44) z1)::
oo 46 (.Bb 1 (.t 43) (.t 45))::
oo 47 (.Af (.t 46))::
oo 48 (.int .sub (.t 40) (.t 47))::
oo 49 (.int .mul (.t 39) (.t 48))::
oo 50 (.Ai 0 (.t 2))::
oo 51 (.Ai 0 (.t 50))::
oo 52 (.Af (.t 51))::
om 53 5::
oo 54 (.Bb 1 (.t 52) (.t 53))::
oo 55 (.Af (.t 54))::
oo 56 (.Ai 0 (.t 2))::
oo 57 (.Ai 0 (.t 56))::
oo 58 (.Af (.t 57))::
om 59 5::
oo 60 (.int .sub (.t 59) z1)::
oo 61 (.Bb 1 (.t 58) (.t 60))::
oo 62 (.Af (.t 61))::
oo 63 (.int .sub (.t 55) (.t 62))::
oo 64 (.EV true (.t 49) (.t 63))::
om 6 64::[]) []) (.seq (.reg (
 oo 65 (.Ai 0 (.t 2))::
oo 66 (.Ai 1 (.t 65))::
oo 67 (.Af (.t 66))::
om 68 5::
oo 69 (.int .sub (.t 68) z1)::
oo 70 (.Bb 1 (.t 67) (.t 69))::
oo 71 (.Af (.t 70))::
om 72 6::
oo 73 (.int .sub (.t 71) (.t 72))::
om 4 73::[])) .ret)))))
def Aki:List ResultVar:=[.tmp 4]
theorem zy:Cf Tryz.prog 216 74 2 Ah3 Aki:=
  ⟨rfl,Tryz.f216,_,rfl,rfl,rfl,by decide,rfl,rfl,rfl⟩
noncomputable def Ah2:Ay:=(.seq (.reg (
 oo 4 (.mv z0)::[])) (.seq (.BN (
 oo 5 (.Ai 3 (.t 1))::
oo 6 (.Af (.t 5))::
oo 7 (.int .add (.c (Value.int .i64 1000)) (.t 6))::
oo 8 (.Af (.t 2))::
om 9 0::
⟨(some 10),none,(.call (.t 8) [(.t 9)])⟩::
oo 11 (.int .mul (.t 7) (.t 10))::
oo 12 (.EV true (.t 11) (.c (Value.int .i64 1000)))::
om 4 12::[]) []) .ret))
def Akh:List ResultVar:=[.tmp 4]
theorem zx:Cf Tryz.prog 217 13 3 Ah2 Akh:=
  ⟨rfl,Tryz.f217,_,rfl,rfl,rfl,by decide,rfl,rfl,rfl⟩
noncomputable def a218:Ay:=(.seq (.reg (
 oo 2 (.box (.t 0) 135)::
oo 4 (.mv z0)::[])) (.seq (.reg (
 oo 5 (.Ai 0 (.t 2))::
oo 6 (.Ai 0 (.t 5))::
oo 7 (.Af (.t 6))::
oo 8 (.Ai 0 (.t 2))::
oo 9 (.Ai 1 (.t 8))::
oo 10 (.Af (.t 9))::
oo 11 (.int .mul (.t 7) (.t 10))::
om 12 1::
oo 13 (.EV true (.t 11) (.t 12))::
om 4 13::[])) .ret))
def Akg:List ResultVar:=[.tmp 4]
theorem zw:Cf Tryz.prog 218 14 2 a218 Akg:=
  ⟨rfl,Tryz.f218,_,rfl,rfl,rfl,by decide,rfl,rfl,rfl⟩
noncomputable def Ah1:Ay:=(.seq (.reg (
 oo 2 (.box (.t 0) 135)::
oo 4 (.mv z0)::[])) (.seq (.reg (
 oo 5 (.Ai 0 (.t 2))::
oo 6 (.Ai 0 (.t 5))::
oo 7 (.Af (.t 6))::
oo 8 (.Ai 0 (.t 2))::
oo 9 (.Ai 1 (.t 8))::
oo 10 (.Af (.t 9))::
oo 11 (.int .mul (.t 7) (.t 10))::
oo 12 (.Ai 0 (.t 2))::
oo 13 (.Ai 3 (.t 12))::
oo 14 (.Af (.t 13))::
oo 15 (.int .mul (.t 11) (.t 14))::
oo 16 (.Ai 0 (.t 2))::
oo 17 (.Ai 3 (.t 16))::
oo 18 (.Af (.t 17))::
oo 19 (.int .mul (.t 15) (.t 18))::
oo 20 (.Ai 0 (.t 2))::
oo 21 (.Ai 3 (.t 20))::
oo 22 (.Af (.t 21))::
oo 23 (.int .mul (.t 19) (.t 22))::
om 24 1::
oo 25 (.EV true (.t 23) (.t 24))::
om 4 25::[])) .ret))
def Akf:List ResultVar:=[.tmp 4]
theorem zu:Cf Tryz.prog 219 26 2 Ah1 Akf:=
  ⟨rfl,Tryz.f219,_,rfl,rfl,rfl,by decide,rfl,rfl,rfl⟩
noncomputable def Ah0:Ay:=(.seq (.reg (
 oo 4 (.mv z0)::[])) (.seq (.seq (.reg (
 om 6 0::
oo 7 (.len (.t 6))::
oo 8 (.mv z0)::[])) (.block 0 (.loop (.seq (.reg (
 oo 9 (.int .lss (.t 8) (.t 7))::[])) (.seq (.cond (.t 9) .skip (.exit 0)) (.seq (.block 1 (.seq (.reg (
 om 10 8::
om 5 10::[])) (.seq (.reg (
 om 11 1::
om 12 0::
om 13 5::
oo 14 (.Bb 2 (.t 12) (.t 13))::
oo 15 (.Az 2 (.t 14))::
⟨(some 16),none,(.call (.t 11) [(.t 15)])⟩::[])) (.cond (.t 16) (.seq (.reg (
 om 17 5::
om 4 17::[])) .ret) .skip)))) (.reg (
 oo 18 (.int .add (.t 8) z1)::
om 8 18::[])))))))) (.seq (.reg (
 oo 4 (.mv (.c (Value.int .i64 (-1))))::[])) .ret)))
def Ake:List ResultVar:=[.tmp 4]
theorem zq:Cf Tryz.prog 220 19 2 Ah0 Ake:=
  ⟨rfl,Tryz.f220,_,rfl,rfl,rfl,by decide,rfl,rfl,rfl⟩
noncomputable def Ahz:Ay:=(.seq (.reg (
 oo 2 (.box (.t 0) 144)::
oo 3 (.box (.t 1) 3)::
oo 4 (.mv (.c (Value.nilFunc)))::[])) (.seq (.reg (
 oo 5 (.Hf (Fn.func 297) [] [(.t 2),(.t 3)])::
om 4 5::[])) .ret))
def Akd:List ResultVar:=[.tmp 4]
theorem zl:Cf Tryz.prog 221 6 2 Ahz Akd:=
  ⟨rfl,Tryz.f221,_,rfl,rfl,rfl,by decide,rfl,rfl,rfl⟩
noncomputable def a222:Ay:=(.seq (.reg (
 oo 4 (.mv z0)::[])) (.seq (.reg (
 oo 8 (.Af (.t 1))::
oo 9 (.Az 4 (.t 2))::
om 10 0::
oc 11 137 [(.t 8),(.t 9),(.t 10)]::
om 7 11::
oo 12 (.extract (.t 7) 0)::
oo 13 (.extract (.t 7) 1)::
oo 5 (.alloc [k0,k0,k0,k0] 236)::
oz (.store 4 (.t 5) (.t 12))::
om 6 13::[])) (.seq (.reg (
 om 14 6::
oo 15 (.Af (.t 1))::
oo 16 (.Az 4 (.t 5))::
oc 17 135 [(.t 15),(.t 16)]::
oo 18 (.int .add (.t 14) (.t 17))::
om 4 18::[])) .ret)))
def Akc:List ResultVar:=[.tmp 4]
theorem zk:Cf Tryz.prog 222 19 3 a222 Akc:=
  ⟨rfl,Tryz.f222,_,rfl,rfl,rfl,by decide,rfl,rfl,rfl⟩
noncomputable def Ahy:Ay:=(.seq (.reg (
 oo 2 (.mv z0)::[])) (.seq (.seq (.reg (
 om 5 0::
oo 6 (.len (.t 5))::
oo 7 (.int .lss (.t 6) z1)::[])) (.cond (.t 7) (.reg (
 oo 8 (.Wl 9 (.c (Value.string (ByteArray.mk #[115,108,105,99,101,115,46,77,105,110,58,32,101,109,112,116,121,32,108,105,115,116]))))::
oz (.dead)::[])) .skip)) (.seq (.reg (
 om 9 0::
oo 10 (.Bb 1 (.t 9) z0)::
oo 11 (.Af (.t 10))::
om 3 11::[])) (.seq (.seq (.reg (
 oo 4 (.mv z1)::[])) (.block 0 (.loop (.seq (.seq (.reg (
 om 12 4::
om 13 0::
oo 14 (.len (.t 13))::
oo 15 (.int .lss (.t 12) (.t 14))::[])) (.cond (.t 15) .skip (.exit 0))) (.seq (.block 1 (.reg (
 om 18 3::
om 19 0::
om 20 4::
oo 21 (.Bb 1 (.t 19) (.t 20))::
oo 22 (.Af (.t 21))::
oo 23 (.Il false (.t 18) (.t 22))::
om 3 23::[]))) (.reg (
 om 16 4::
oo 17 (.int .add (.t 16) z1)::
om 4 17::[]))))))) (.seq (.reg (
 om 24 3::
om 2 24::[])) .ret)))))
def Akb:List ResultVar:=[.tmp 2]
theorem zj:Cf Tryz.prog 223 25 1 Ahy Akb:=
  ⟨rfl,Tryz.f223,_,rfl,rfl,rfl,by decide,rfl,rfl,rfl⟩
noncomputable def Ahx:Ay:=(.seq (.reg (
 oo 2 (.mv z0)::[])) (.seq (.seq (.reg (
 om 5 0::
oo 6 (.len (.t 5))::
oo 7 (.int .lss (.t 6) z1)::[])) (.cond (.t 7) (.reg (
 oo 8 (.Wl 9 (.c (Value.string (ByteArray.mk #[115,108,105,99,101,115,46,77,97,120,58,32,101,109,112,116,121,32,108,105,115,116]))))::
oz (.dead)::[])) .skip)) (.seq (.reg (
 om 9 0::
oo 10 (.Bb 1 (.t 9) z0)::
oo 11 (.Af (.t 10))::
om 3 11::[])) (.seq (.seq (.reg (
 oo 4 (.mv z1)::[])) (.block 0 (.loop (.seq (.seq (.reg (
 om 12 4::
om 13 0::
oo 14 (.len (.t 13))::
oo 15 (.int .lss (.t 12) (.t 14))::[])) (.cond (.t 15) .skip (.exit 0))) (.seq (.block 1 (.reg (
 om 18 3::
om 19 0::
om 20 4::
oo 21 (.Bb 1 (.t 19) (.t 20))::
oo 22 (.Af (.t 21))::
oo 23 (.Il true (.t 18) (.t 22))::
om 3 23::[]))) (.reg (
 om 16 4::
oo 17 (.int .add (.t 16) z1)::
om 4 17::[]))))))) (.seq (.reg (
 om 24 3::
om 2 24::[])) .ret)))))
def Aka:List ResultVar:=[.tmp 2]
theorem zi:Cf Tryz.prog 224 25 1 Ahx Aka:=
  ⟨rfl,Tryz.f224,_,rfl,rfl,rfl,by decide,rfl,rfl,rfl⟩
noncomputable def Ahw:Ay:=(.seq (.reg (
 oo 3 (.box (.t 0) 341)::
oo 6 (.mv z0)::[])) (.seq (.seq (.reg (
 om 7 1::
oo 8 (.int .gtr (.t 7) z0)::
om 9 8::
og 10 9 true (.mv (.t 1))::
og 11 9 true (.mv (.t 2))::
og 12 9 true (.int .sub (.t 11) z1)::
og 13 9 true (.int .lss (.t 10) (.t 12))::
oo 14 (.pick (.t 9) (.t 13) (.c (Value.bool false)))::[])) (.cond (.t 14) (.seq (.reg (
 oo 15 (.Cc 2 1 (.t 3) z1)::
oo 16 (.Af (.t 15))::
om 6 16::[])) .ret) .skip)) (.seq (.reg (
 oo 17 (.Cc 2 1 (.t 3) z0)::
oo 18 (.Af (.t 17))::
om 6 18::[])) .ret)))
def Aj9:List ResultVar:=[.tmp 6]
theorem zg:Cf Tryz.prog 225 19 3 Ahw Aj9:=
  ⟨rfl,Tryz.f225,_,rfl,rfl,rfl,by decide,rfl,rfl,rfl⟩
noncomputable def a226:Ay:=(.seq (.reg (
 oo 8 (.Af (.t 1))::
oo 9 (.BP (.t 8))::
oo 10 (.Ai 0 (.t 9))::
oo 11 (.Ai 2 (.t 10))::
oo 12 (.Af (.t 11))::
oo 13 (.len (.t 12))::
oo 14 (.mv z0)::[])) (.block 0 (.loop (.seq (.reg (
 oo 15 (.int .lss (.t 14) (.t 13))::[])) (.seq (.cond (.t 15) .skip (.exit 0)) (.seq (.block 1 (.seq (.reg (
 om 16 14::
oo 17 (.Bb 1 (.t 12) (.t 14))::
oo 18 (.Af (.t 17))::
om 4 16::
om 5 18::[])) (.seq (.reg (
 om 19 5::
oo 20 (.len (.t 19))::
oo 21 (.mv z0)::[])) (.block 2 (.loop (.seq (.reg (
 oo 22 (.int .lss (.t 21) (.t 20))::[])) (.seq (.cond (.t 22) .skip (.exit 2)) (.seq (.block 3 (.seq (.reg (
 om 23 21::
om 6 23::[])) (.seq (.seq (.BN (
 oo 24 (.Af (.t 2))::
om 25 4::
oo 26 (.Af (.t 1))::
oo 27 (.BP (.t 26))::
oo 28 (.Ai 0 (.t 27))::
oo 29 (.Ai 2 (.t 28))::
oo 30 (.Af (.t 29))::
oo 31 (.len (.t 30))::[]) []) (.reg (
    ⟨(some 32),none,(.call (.t 24) [(.t 25),(.t 31)])⟩::
om 7 32::[]))) (.seq (.reg (
 om 33 0::
om 34 4::
om 35 6::
om 36 7::
oo 37 (.Af (.t 2))::
om 38 6::
om 39 5::
oo 40 (.len (.t 39))::
⟨(some 41),none,(.call (.t 37) [(.t 38),(.t 40)])⟩::
oo 42 (.int .mul (.t 36) (.t 41))::
om 43 7::
om 44 6::
om 45 5::
oo 46 (.len (.t 45))::
oo 47 (.int .sub (.t 46) z1)::
oo 48 (.int .eql (.t 44) (.t 47))::
oo 49 (.build [k0,k0,k0,k0,Value.bool false] [(0,1,(.t 34)),(1,1,(.t 35)),(2,1,(.t 42)),(3,1,(.t 43)),(4,1,(.t 48))])::
⟨(some 50),none,(.call (.t 33) [(.t 49)])⟩::
oo 51 (.not (.t 50))::[])) (.cond (.t 51) .ret .skip))))) (.reg (
 oo 52 (.int .add (.t 21) z1)::
om 21 52::[])))))))))) (.reg (
 oo 53 (.int .add (.t 14) z1)::
om 14 53::[]))))))))
def Aj8:List ResultVar:=[]
theorem zf:Cf Tryz.prog 226 54 3 a226 Aj8:=
  ⟨rfl,Tryz.f226,_,rfl,rfl,rfl,by decide,rfl,rfl,rfl⟩
noncomputable def a227:Ay:=(.seq (.reg (
 oo 4 (.mv z0)::[])) (.seq (.block 0 (.loop (.seq (.seq (.reg (
 om 5 1::
oo 6 (.int .neq (.t 5) z0)::[])) (.cond (.t 6) .skip (.exit 0))) (.block 1 (.BN (
 om 7 1::
om 8 0::
om 9 1::
oo 10 (.EV false (.t 8) (.t 9))::
om 0 7::
om 1 10::[]) []))))) (.seq (.reg (
 om 11 0::
om 4 11::[])) .ret)))
def Aj7:List ResultVar:=[.tmp 4]
theorem ze:Cf Tryz.prog 227 12 2 a227 Aj7:=
  ⟨rfl,Tryz.f227,_,rfl,rfl,rfl,by decide,rfl,rfl,rfl⟩
noncomputable def a228:Ay:=(.seq (.reg (
 oo 4 (.mv z0)::[])) (.seq (.seq (.reg (
 om 6 0::
oo 7 (.len (.t 6))::
oo 8 (.mv z0)::[])) (.block 0 (.loop (.seq (.reg (
 oo 9 (.int .lss (.t 8) (.t 7))::[])) (.seq (.cond (.t 9) .skip (.exit 0)) (.seq (.block 1 (.seq (.reg (
 om 10 8::
om 5 10::[])) (.seq (.reg (
 om 11 1::
om 12 0::
om 13 5::
oo 14 (.Bb 1 (.t 12) (.t 13))::
oo 15 (.Af (.t 14))::
⟨(some 16),none,(.call (.t 11) [(.t 15)])⟩::[])) (.cond (.t 16) (.seq (.reg (
 om 17 5::
om 4 17::[])) .ret) .skip)))) (.reg (
 oo 18 (.int .add (.t 8) z1)::
om 8 18::[])))))))) (.seq (.reg (
 oo 4 (.mv (.c (Value.int .i64 (-1))))::[])) .ret)))
def Aj6:List ResultVar:=[.tmp 4]
theorem za:Cf Tryz.prog 228 19 2 a228 Aj6:=
  ⟨rfl,Tryz.f228,_,rfl,rfl,rfl,by decide,rfl,rfl,rfl⟩
noncomputable def Ahv:Ay:=(.seq (.reg (
 oo 4 (.mv (.c (Value.bool false)))::[])) (.seq (.reg (
 om 5 0::
oc 6 354 [(.t 5)]::
om 7 6::
og 8 7 true (.mv (.t 1))::
F6 9 7 true 354 [(.t 8)]::
og 10 7 true (.not (.t 9))::
oo 11 (.pick (.t 7) (.t 10) (.c (Value.bool false)))::
om 12 11::
og 13 12 false (.mv (.t 0))::
og 14 12 false (.mv (.t 1))::
og 15 12 false (.int .lss (.t 13) (.t 14))::
oo 16 (.pick (.t 12) (.c (Value.bool true)) (.t 15))::
om 4 16::[])) .ret))
def Aj5:List ResultVar:=[.tmp 4]
theorem y9:Cf Tryz.prog 278 17 2 Ahv Aj5:=
  ⟨rfl,Tryz.f278,_,rfl,rfl,rfl,by decide,rfl,rfl,rfl⟩
noncomputable def Ahu:Ay:=(.seq (.reg (
 oo 7 (.Af (.t 1))::
oo 8 (.BP (.t 7))::
oo 9 (.Ai 6 (.t 8))::
oo 10 (.Az 338 (.t 9))::
oo 11 (.mv z0)::[])) (.block 0 (.loop (.seq (.reg (
 oo 12 (.int .lss (.t 11) (.c (Value.int .i64 13)))::[])) (.seq (.cond (.t 12) .skip (.exit 0)) (.seq (.block 1 (.seq (.reg (
 om 13 11::
oo 14 (.jn 13 26 (.t 10) (.t 11))::
oo 4 (.alloc [Value.bool false,k0,Value.bool false,k0,Value.bool false,k0,Value.bool false,k0,Value.bool false,k0,Value.bool false,k0,Value.bool false,k0,Value.bool false,k0,Value.bool false,k0,Value.bool false,k0,Value.bool false,k0,Value.bool false,k0,Value.bool false,k0] 184)::
om 3 13::
oz (.store 26 (.t 4) (.t 14))::[])) (.seq (.seq (.reg (
 oo 15 (.Az 26 (.t 4))::
oo 16 (.build [Value.bool false,k0,Value.bool false,k0,Value.bool false,k0,Value.bool false,k0,Value.bool false,k0,Value.bool false,k0,Value.bool false,k0,Value.bool false,k0,Value.bool false,k0,Value.bool false,k0,Value.bool false,k0,Value.bool false,k0,Value.bool false,k0] [])::
oo 17 (.pure (Fa Tryz.f282 3 2))::[])) (.cond (.t 17) (.exit 1) .skip)) (.seq (.reg (
 oo 18 (.Az 26 (.t 4))::
oo 19 (.mv z0)::[])) (.block 2 (.loop (.seq (.reg (
 oo 20 (.int .lss (.t 19) (.c (Value.int .i64 13)))::[])) (.seq (.cond (.t 20) .skip (.exit 2)) (.seq (.block 3 (.seq (.reg (
 om 21 19::
oo 22 (.jn 13 2 (.t 18) (.t 19))::
oo 6 (.alloc [Value.bool false,k0] 182)::
om 5 21::
oz (.store 2 (.t 6) (.t 22))::[])) (.seq (.reg (
 oo 23 (.Ai 0 (.t 6))::
oo 24 (.Af (.t 23))::
om 25 24::
og 26 25 true (.mv (.t 0))::
og 27 25 true (.mv (.t 3))::
og 28 25 true (.mv (.t 5))::
og 29 25 true (.Ai 1 (.t 6))::
og 30 25 true (.Af (.t 29))::
og 31 25 true (.build [k0,k0,k0] [(0,1,(.t 27)),(1,1,(.t 28)),(2,1,(.t 30))])::
⟨(some 32),(some (25,true)),(.call (.t 26) [(.t 31)])⟩::
og 33 25 true (.not (.t 32))::
oo 34 (.pick (.t 25) (.t 33) (.c (Value.bool false)))::[])) (.cond (.t 34) .ret .skip)))) (.reg (
 oo 35 (.int .add (.t 19) z1)::
om 19 35::[]))))))))))) (.reg (
 oo 36 (.int .add (.t 11) z1)::
om 11 36::[]))))))))
def Aj4:List ResultVar:=[]
theorem y8:Cf Tryz.prog 282 37 2 Ahu Aj4:=
  ⟨rfl,Tryz.f282,_,rfl,rfl,rfl,by decide,rfl,rfl,rfl⟩
noncomputable def Aht:Ay:=(.seq (.reg (
 om 8 1::
oo 9 (.int .add (.t 8) z1)::
om 6 9::[])) (.block 0 (.loop (.seq (.seq (.reg (
 om 10 6::
om 11 2::
oo 12 (.int .lss (.t 10) (.t 11))::[])) (.cond (.t 12) .skip (.exit 0))) (.seq (.block 1 (.seq (.reg (
 om 15 6::
om 7 15::[])) (.block 2 (.loop (.seq (.seq (.BN (
 om 16 7::
om 17 1::
oo 18 (.int .gtr (.t 16) (.t 17))::
om 19 18::
og 20 19 true (.mv (.t 0))::
og 21 19 true (.mv (.t 7))::
og 22 19 true (.Bb 1 (.t 20) (.t 21))::
og 23 19 true (.Af (.t 22))::
og 24 19 true (.mv (.t 0))::
og 25 19 true (.mv (.t 7))::
og 26 19 true (.int .sub (.t 25) z1)::
og 27 19 true (.Bb 1 (.t 24) (.t 26))::
og 28 19 true (.Af (.t 27))::
F6 29 19 true 289 [(.t 23),(.t 28)]::
oo 30 (.pick (.t 19) (.t 29) (.c (Value.bool false)))::[]) []) (.cond (.t 30) .skip (.exit 2))) (.seq (.block 3 (.BN (
 om 33 0::
om 34 7::
om 35 0::
om 36 7::
oo 37 (.int .sub (.t 36) z1)::
om 38 0::
om 39 7::
oo 40 (.int .sub (.t 39) z1)::
oo 41 (.Bb 1 (.t 38) (.t 40))::
oo 42 (.Af (.t 41))::
om 43 0::
om 44 7::
oo 45 (.Bb 1 (.t 43) (.t 44))::
oo 46 (.Af (.t 45))::
oo 47 (.Bb 1 (.t 33) (.t 34))::
oz (.store 1 (.t 47) (.t 42))::
oo 48 (.Bb 1 (.t 35) (.t 37))::
oz (.store 1 (.t 48) (.t 46))::[]) [])) (.reg (
 om 31 7::
oo 32 (.int .sub (.t 31) z1)::
om 7 32::[])))))))) (.reg (
 om 13 6::
oo 14 (.int .add (.t 13) z1)::
om 6 14::[])))))))
def Aj3:List ResultVar:=[]
theorem y7:Cf Tryz.prog 283 49 3 Aht Aj3:=
  ⟨rfl,Tryz.f283,_,rfl,rfl,rfl,by decide,rfl,rfl,rfl⟩
noncomputable def Ahs:Ay:=(.seq (.reg (
 oo 4 (.mv (.c (Value.bool false)))::[])) (.seq (.reg (
 om 5 0::
oc 6 360 [(.t 5)]::
om 7 6::
og 8 7 true (.mv (.t 1))::
F6 9 7 true 360 [(.t 8)]::
og 10 7 true (.not (.t 9))::
oo 11 (.pick (.t 7) (.t 10) (.c (Value.bool false)))::
om 12 11::
og 13 12 false (.mv (.t 0))::
og 14 12 false (.mv (.t 1))::
og 15 12 false (.int .lss (.t 13) (.t 14))::
oo 16 (.pick (.t 12) (.c (Value.bool true)) (.t 15))::
om 4 16::[])) .ret))
def Aj2:List ResultVar:=[.tmp 4]
theorem y6:Cf Tryz.prog 289 17 2 Ahs Aj2:=
  ⟨rfl,Tryz.f289,_,rfl,rfl,rfl,by decide,rfl,rfl,rfl⟩
noncomputable def Ahr:Ay:=(.seq (.reg (
 oo 2 (.mv z0)::[])) (.seq (.seq (.reg (
 om 3 0::
oo 4 (.pure (Fa Tryz.f293 1 1))::[])) (.cond (.t 4) (.seq (.reg (
 om 5 0::
oo 6 (.pure (Fa Tryz.f293 2 1))::
om 0 6::[])) (.reg (
 oo 2 (.mv (.c (Value.int .i64 32)))::[]))) .skip)) (.seq (.seq (.reg (
 om 7 0::
oo 8 (.pure (Fa Tryz.f293 4 1))::[])) (.cond (.t 8) (.seq (.reg (
 om 9 0::
oo 10 (.pure (Fa Tryz.f293 5 1))::
om 0 10::[])) (.reg (
 om 11 2::
oo 12 (.int .add (.t 11) (.c (Value.int .i64 16)))::
om 2 12::[]))) .skip)) (.seq (.seq (.reg (
 om 13 0::
oo 14 (.pure (Fa Tryz.f293 7 1))::[])) (.cond (.t 14) (.seq (.reg (
 om 15 0::
oo 16 (.pure (Fa Tryz.f293 8 1))::
om 0 16::[])) (.reg (
 om 17 2::
oo 18 (.int .add (.t 17) (.c (Value.int .i64 8)))::
om 2 18::[]))) .skip)) (.seq (.reg (
 om 19 2::
om 20 0::
oo 21 (.conv .u8 (.t 20))::
oo 22 (.pure (Fa Tryz.f293 10 3))::
oo 23 (.conv .i64 (.t 22))::
oo 24 (.int .add (.t 19) (.t 23))::
om 2 24::[])) .ret)))))
def Aj1:List ResultVar:=[.tmp 2]
theorem y4:Cf Tryz.prog 293 25 1 Ahr Aj1:=
  ⟨rfl,Tryz.f293,_,rfl,rfl,rfl,by decide,rfl,rfl,rfl⟩
noncomputable def Ahq:Ay:=(.seq (.reg (
 oo 1 (.box (.t 0) 423)::
oo 2 (.mv (.c (Value.nilFunc)))::[])) (.seq (.reg (
 oo 3 (.Hf (Fn.func 361) [] [(.t 1)])::
om 2 3::[])) .ret))
def Aj0:List ResultVar:=[.tmp 2]
theorem yZ:Cf Tryz.prog 294 4 1 Ahq Aj0:=
  ⟨rfl,Tryz.f294,_,rfl,rfl,rfl,by decide,rfl,rfl,rfl⟩
noncomputable def Ahp:Ay:=(.seq (.reg (
 oo 1 (.box (.t 0) 222)::
oo 2 (.alloc [k0,k0] 340)::[])) (.seq (.BN (
 oo 3 (.Ai 0 (.t 1))::
oo 4 (.Ai 0 (.t 3))::
oo 5 (.Af (.t 4))::
oo 6 (.Bb 1 (.t 5) z0)::
oo 7 (.Af (.t 6))::
oo 8 (.Ai 0 (.t 1))::
oo 9 (.Ai 0 (.t 8))::
oo 10 (.Af (.t 9))::
oo 11 (.Ai 0 (.t 1))::
oo 12 (.Ai 0 (.t 11))::
oo 13 (.Af (.t 12))::
oo 14 (.len (.t 13))::
oo 15 (.int .sub (.t 14) z1)::
oo 16 (.Bb 1 (.t 10) (.t 15))::
oo 17 (.Af (.t 16))::
oo 18 (.build [k0,k0] [(0,1,(.t 7)),(1,1,(.t 17))])::
oz (.store 2 (.t 2) (.t 18))::[]) []) .ret))
def Ajz:List ResultVar:=[.cell 2 340]
theorem yY:Cf Tryz.prog 295 19 1 Ahp Ajz:=
  ⟨rfl,Tryz.f295,_,rfl,rfl,rfl,by decide,rfl,rfl,rfl⟩
noncomputable def Aho:Ay:=(.seq (.reg (
 oo 4 (.mv z0)::[])) (.seq (.reg (
 om 8 0::
om 9 1::
oc 10 351 [(.t 8),(.t 9)]::
om 7 10::
oo 11 (.extract (.t 7) 0)::
oo 12 (.extract (.t 7) 1)::
om 5 11::
om 6 12::[])) (.seq (.reg (
 om 13 5::
om 4 13::[])) .ret)))
def Ajy:List ResultVar:=[.tmp 4]
theorem yX:Cf Tryz.prog 296 14 2 Aho Ajy:=
  ⟨rfl,Tryz.f296,_,rfl,rfl,rfl,by decide,rfl,rfl,rfl⟩
noncomputable def Ahn:Ay:=(.seq (.reg (
 oo 7 (.Af (.t 1))::
oo 8 (.Af (.t 2))::
oo 9 (.int .sub (.t 8) z1)::
oc 10 132 [(.t 7),(.t 9)]::
oo 11 (.mv z0)::[])) (.block 0 (.loop (.seq (.reg (
 oo 12 (.int .lss (.t 11) (.t 10))::[])) (.seq (.cond (.t 12) .skip (.exit 0)) (.seq (.block 1 (.seq (.reg (
 om 13 11::
om 4 13::[])) (.seq (.reg (
 oo 14 (.Af (.t 1))::
oo 15 (.Af (.t 2))::
oc 16 132 [(.t 14),(.t 15)]::
oo 17 (.mv z0)::[])) (.block 2 (.loop (.seq (.reg (
 oo 18 (.int .lss (.t 17) (.t 16))::[])) (.seq (.cond (.t 18) .skip (.exit 2)) (.seq (.block 3 (.seq (.reg (
 om 19 17::
om 5 19::[])) (.seq (.reg (
 oo 20 (.mv z0)::[])) (.block 4 (.loop (.seq (.reg (
 oo 21 (.int .lss (.t 20) (.c (Value.int .i64 3)))::[])) (.seq (.cond (.t 21) .skip (.exit 4)) (.seq (.block 5 (.seq (.reg (
 om 22 20::
om 6 22::[])) (.seq (.reg (
 om 23 0::
oo 24 (.Af (.t 2))::
om 25 4::
om 26 5::
om 27 6::
oo 28 (.build [k0] [(0,1,(.t 27))])::
oo 29 (.build [k0,k0,k0,k0] [(0,1,(.t 24)),(1,1,(.t 25)),(2,1,(.t 26)),(3,1,(.t 28))])::
⟨(some 30),none,(.call (.t 23) [(.t 29)])⟩::
oo 31 (.not (.t 30))::[])) (.cond (.t 31) .ret .skip)))) (.reg (
 oo 32 (.int .add (.t 20) z1)::
om 20 32::[])))))))))) (.reg (
 oo 33 (.int .add (.t 17) z1)::
om 17 33::[])))))))))) (.reg (
 oo 34 (.int .add (.t 11) z1)::
om 11 34::[]))))))))
def Ajx:List ResultVar:=[]
theorem yW:Cf Tryz.prog 297 35 3 Ahn Ajx:=
  ⟨rfl,Tryz.f297,_,rfl,rfl,rfl,by decide,rfl,rfl,rfl⟩
noncomputable def Ahm:Ay:=(.seq (.reg (
 oo 4 (.mv z0)::
oo 5 (.mv (.c (Value.bool false)))::[])) (.seq (.reg (
 om 10 0::
oo 11 (.len (.t 10))::
om 6 11::[])) (.seq (.reg (
 om 12 6::
oo 7 (.mv z0)::
om 8 12::[])) (.seq (.block 0 (.loop (.seq (.seq (.reg (
 om 13 7::
om 14 8::
oo 15 (.int .lss (.t 13) (.t 14))::[])) (.cond (.t 15) .skip (.exit 0))) (.block 1 (.seq (.reg (
 om 16 7::
om 17 8::
oo 18 (.int .add (.t 16) (.t 17))::
oo 19 (.conv .u64 (.t 18))::
oo 20 (.pure (Fa Tryz.f351 4 4))::
oo 21 (.conv .i64 (.t 20))::
om 9 21::[])) (.seq (.reg (
 om 22 0::
om 23 9::
oo 24 (.Bb 1 (.t 22) (.t 23))::
oo 25 (.Af (.t 24))::
om 26 1::
oc 27 278 [(.t 25),(.t 26)]::[])) (.cond (.t 27) (.reg (
 om 28 9::
oo 29 (.int .add (.t 28) z1)::
om 7 29::[])) (.reg (
 om 30 9::
om 8 30::[]))))))))) (.seq (.reg (
 om 31 7::
om 32 7::
om 33 6::
oo 34 (.int .lss (.t 32) (.t 33))::
om 35 34::
og 36 35 true (.mv (.t 0))::
og 37 35 true (.mv (.t 7))::
og 38 35 true (.Bb 1 (.t 36) (.t 37))::
og 39 35 true (.Af (.t 38))::
og 40 35 true (.mv (.t 1))::
og 41 35 true (.int .eql (.t 39) (.t 40))::
og 42 35 true (.mv (.t 41))::
og 43 42 false (.mv (.t 0))::
og 44 42 false (.mv (.t 7))::
og 45 42 false (.Bb 1 (.t 43) (.t 44))::
og 46 42 false (.Af (.t 45))::
F6 47 42 false 396 [(.t 46)]::
og 48 42 false (.mv (.t 47))::
og 49 48 true (.mv (.t 1))::
F6 50 48 true 396 [(.t 49)]::
og 51 42 false (.pick (.t 48) (.t 50) (.c (Value.bool false)))::
og 52 35 true (.pick (.t 42) (.c (Value.bool true)) (.t 51))::
oo 53 (.pick (.t 35) (.t 52) (.c (Value.bool false)))::
om 4 31::
om 5 53::[])) .ret)))))
def Ajw:List ResultVar:=[.tmp 4,.tmp 5]
theorem yV:Cf Tryz.prog 351 54 2 Ahm Ajw:=
  ⟨rfl,Tryz.f351,_,rfl,rfl,rfl,by decide,rfl,rfl,rfl⟩
noncomputable def Ahl:Ay:=(.seq (.reg (
 oo 2 (.mv (.c (Value.bool false)))::[])) (.seq (.reg (
 om 3 0::
om 4 0::
oo 5 (.int .neq (.t 3) (.t 4))::
om 2 5::[])) .ret))
def Ajv:List ResultVar:=[.tmp 2]
theorem yU:Cf Tryz.prog 354 6 1 Ahl Ajv:=
  ⟨rfl,Tryz.f354,_,rfl,rfl,rfl,by decide,rfl,rfl,rfl⟩
noncomputable def Ahk:Ay:=(.seq (.reg (
 oo 2 (.mv (.c (Value.bool false)))::[])) (.seq (.reg (
 om 3 0::
om 4 0::
oo 5 (.int .neq (.t 3) (.t 4))::
om 2 5::[])) .ret))
def Aju:List ResultVar:=[.tmp 2]
theorem yT:Cf Tryz.prog 360 6 1 Ahk Aju:=
  ⟨rfl,Tryz.f360,_,rfl,rfl,rfl,by decide,rfl,rfl,rfl⟩
end AE.Tryz
