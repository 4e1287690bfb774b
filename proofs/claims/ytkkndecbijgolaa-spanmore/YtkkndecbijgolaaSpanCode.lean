/- Made by gen3.py: the code of the functions, compiled for the evaluator; each is that of the program, by evaluation. -/
import Derived.Test.YtkkndecbijgolaaProg
import Derived.Test.YtkkndecbijgolaaAEtwo
set_option linter.unusedVariables false
set_option linter.unusedSimpArgs false
set_option linter.unusedSectionVars false
namespace AE.Try
open Go AE Go.Proofs
set_option maxRecDepth 1000000
set_option maxHeartbeats 4000000
abbrev oo (d : Nat) (x : AOp) : AOper := ⟨some d, none, .op x⟩
abbrev og (d g : Nat) (b : Bool) (x : AOp) : AOper := ⟨some d, some (g, b), .op x⟩
abbrev oz (x : AOp) : AOper := ⟨none, none, .op x⟩
abbrev oc (d f : Nat) (l : List Opd) : AOper := ⟨some d, none, .call (.c (Value.func (.func f) #[] #[])) l⟩
abbrev ocg (d g : Nat) (b : Bool) (f : Nat) (l : List Opd) : AOper := ⟨some d, some (g, b), .call (.c (Value.func (.func f) #[] #[])) l⟩
abbrev om (d s : Nat) : AOper := ⟨some d, none, .op (.mv (.t s))⟩
abbrev z0 : Opd := .c (Value.int .i64 0)
abbrev z1 : Opd := .c (Value.int .i64 1)
abbrev k0 : Value := .int .i64 0
noncomputable def a3 : ACode := (.seq (.reg (
 oo 3 (.box (.t 1) 24) ::
oo 4 (.mv (.c (Value.bool false))) :: [])) (.seq (.seq (.reg (
 om 11 0 ::
oo 12 (.len (.t 11)) ::
oo 13 (.int .gtr (.t 12) (.c (Value.int .i64 16))) :: [])) (.cond (.t 13) (.seq (.reg (
 oc 14 12 [] ::
om 4 14 :: [])) .ret) .skip)) (.seq (.seq (.dreg (
 om 15 0 ::
oc 16 13 [(.t 15)] ::
om 17 0 ::
oc 18 14 [(.t 17)] ::
oo 19 (.int .neq (.t 16) (.t 18)) ::
om 20 19 ::
og 21 20 false (.mv (.t 0)) ::
og 22 20 false (.loadn 3 (.t 3)) ::
ocg 23 20 false 15 [(.t 21), (.t 22)] ::
og 24 20 false (.mv (.t 0)) ::
og 25 20 false (.loadn 3 (.t 3)) ::
ocg 26 20 false 16 [(.t 24), (.t 25)] ::
og 27 20 false (.int .neq (.t 23) (.t 26)) ::
oo 28 (.pick (.t 20) (.c (Value.bool true)) (.t 27)) :: []) []) (.cond (.t 28) (.seq (.reg (
 oo 4 (.mv (.c (Value.bool false))) :: [])) .ret) .skip)) (.seq (.reg (
 om 30 0 ::
oc 31 17 [(.t 30)] ::
om 29 31 ::
oo 32 (.extract (.t 29) 0) ::
oo 33 (.extract (.t 29) 1) ::
oo 5 (.alloc [k0, k0, k0] 24) ::
oz (.store 3 (.t 5) (.t 32)) ::
om 6 33 :: [])) (.seq (.reg (
 om 35 0 ::
oc 36 18 [(.t 35)] ::
om 34 36 ::
oo 37 (.extract (.t 34) 0) ::
oo 38 (.extract (.t 34) 1) ::
oo 7 (.alloc [Value.slice none 0 0, k0] 33) ::
oz (.store 2 (.t 7) (.t 37)) ::
om 8 38 :: [])) (.seq (.seq (.reg (
 om 39 0 ::
oc 40 14 [(.t 39)] ::
oo 41 (.int .neq (.t 40) z0) :: [])) (.cond (.t 41) (.seq (.reg (
 om 42 6 ::
om 43 0 ::
oc 44 14 [(.t 43)] ::
oo 45 (.int .eql (.t 42) (.t 44)) ::
om 46 45 ::
og 47 46 true (.mv (.t 8)) ::
og 48 46 true (.mv (.t 6)) ::
og 49 46 true (.int .eql (.t 47) (.t 48)) ::
oo 50 (.pick (.t 46) (.t 49) (.c (Value.bool false))) ::
om 51 50 ::
og 52 51 true (.loadn 3 (.t 5)) ::
og 53 51 true (.build [k0, k0, k0] []) ::
og 54 51 true (.pure (rawOp Try.f3 8 12)) ::
oo 55 (.pick (.t 51) (.t 54) (.c (Value.bool false))) ::
om 56 55 ::
og 57 56 true (.faddr 0 (.t 7)) ::
og 58 56 true (.load1 (.t 57)) ::
og 59 56 true (.len (.t 58)) ::
og 60 56 true (.int .eql (.t 59) z0) ::
oo 61 (.pick (.t 56) (.t 60) (.c (Value.bool false))) ::
om 62 61 ::
ocg 63 62 true 12 [] ::
oo 64 (.pick (.t 62) (.t 63) (.c (Value.bool false))) ::
om 4 64 :: [])) .ret) .skip)) (.seq (.seq (.reg (
 om 65 0 ::
oc 66 19 [(.t 65)] :: [])) (.cond (.t 66) (.seq (.reg (
 om 68 0 ::
oo 69 (.loadn 2 (.t 7)) ::
oc 70 20 [(.t 68), z0, z0, (.t 69)] ::
om 67 70 ::
oo 71 (.extract (.t 67) 0) ::
oo 72 (.extract (.t 67) 1) ::
oo 9 (.alloc [k0, k0] 38) ::
oz (.store 2 (.t 9) (.t 71)) ::
om 10 72 :: [])) (.seq (.reg (
 om 73 6 ::
oo 74 (.int .eql (.t 73) (.c (Value.int .i64 20))) ::
om 75 74 ::
og 76 75 true (.loadn 3 (.t 5)) ::
og 77 75 true (.build [k0, k0, k0] []) ::
og 78 75 true (.pure (rawOp Try.f3 11 5)) ::
oo 79 (.pick (.t 75) (.t 78) (.c (Value.bool false))) ::
om 80 79 ::
og 81 80 true (.mv (.t 8)) ::
og 82 80 true (.int .eql (.t 81) z0) ::
oo 83 (.pick (.t 80) (.t 82) (.c (Value.bool false))) ::
om 84 83 ::
og 85 84 true (.mv (.t 10)) ::
og 86 84 true (.int .eql (.t 85) z0) ::
oo 87 (.pick (.t 84) (.t 86) (.c (Value.bool false))) ::
om 88 87 ::
og 89 88 true (.faddr 0 (.t 9)) ::
og 90 88 true (.load1 (.t 89)) ::
og 91 88 true (.int .gtr (.t 90) z0) ::
oo 92 (.pick (.t 88) (.t 91) (.c (Value.bool false))) ::
om 93 92 ::
ocg 94 93 true 12 [] ::
oo 95 (.pick (.t 93) (.t 94) (.c (Value.bool false))) ::
om 4 95 :: [])) .ret)) .skip)) (.seq (.reg (
 om 96 6 ::
oo 97 (.int .eql (.t 96) z0) ::
om 98 97 ::
og 99 98 true (.mv (.t 0)) ::
og 100 98 true (.loadn 3 (.t 5)) ::
ocg 101 98 true 16 [(.t 99), (.t 100)] ::
og 102 98 true (.int .eql (.t 101) z0) ::
oo 103 (.pick (.t 98) (.t 102) (.c (Value.bool false))) ::
om 104 103 ::
og 105 104 true (.mv (.t 8)) ::
og 106 104 true (.int .eql (.t 105) (.c (Value.int .i64 5))) ::
oo 107 (.pick (.t 104) (.t 106) (.c (Value.bool false))) ::
om 108 107 ::
og 109 108 true (.faddr 0 (.t 7)) ::
og 110 108 true (.load1 (.t 109)) ::
og 111 108 true (.len (.t 110)) ::
og 112 108 true (.int .eql (.t 111) z0) ::
oo 113 (.pick (.t 108) (.t 112) (.c (Value.bool false))) ::
om 114 113 ::
og 115 114 true (.faddr 1 (.t 7)) ::
og 116 114 true (.load1 (.t 115)) ::
og 117 114 true (.int .eql (.t 116) z0) ::
oo 118 (.pick (.t 114) (.t 117) (.c (Value.bool false))) ::
om 119 118 ::
ocg 120 119 true 12 [] ::
oo 121 (.pick (.t 119) (.t 120) (.c (Value.bool false))) ::
om 4 121 :: [])) .ret))))))))
def r3 : List ResultVar := [.tmp 4]
noncomputable def a5 : ACode := (.seq (.reg (
 oo 7 (.box (.t 3) 33) ::
oo 8 (.mv (.c (Value.bool false))) :: [])) (.seq (.seq (.reg (
 om 13 0 ::
oo 14 (.len (.t 13)) ::
oo 15 (.int .gtr (.t 14) (.c (Value.int .i64 16))) ::
om 16 15 ::
og 17 16 false (.faddr 0 (.t 7)) ::
og 18 16 false (.load1 (.t 17)) ::
og 19 16 false (.len (.t 18)) ::
og 20 16 false (.int .gtr (.t 19) (.c (Value.int .i64 30))) ::
oo 21 (.pick (.t 16) (.c (Value.bool true)) (.t 20)) :: [])) (.cond (.t 21) (.seq (.reg (
 oc 22 12 [] ::
om 8 22 :: [])) .ret) .skip)) (.seq (.reg (
 om 24 0 ::
om 25 1 ::
om 26 2 ::
oo 27 (.loadn 2 (.t 7)) ::
oc 28 26 [(.t 24), (.t 25), (.t 26), (.t 27)] ::
om 23 28 ::
oo 29 (.extract (.t 23) 0) ::
oo 30 (.extract (.t 23) 1) ::
oo 9 (.alloc [k0, k0] 38) ::
oz (.store 2 (.t 9) (.t 29)) ::
om 10 30 :: [])) (.seq (.reg (
 om 32 0 ::
om 33 1 ::
om 34 2 ::
oo 35 (.loadn 2 (.t 7)) ::
oc 36 20 [(.t 32), (.t 33), (.t 34), (.t 35)] ::
om 31 36 ::
oo 37 (.extract (.t 31) 0) ::
oo 38 (.extract (.t 31) 1) ::
oo 11 (.alloc [k0, k0] 38) ::
oz (.store 2 (.t 11) (.t 37)) ::
om 12 38 :: [])) (.seq (.reg (
 oo 39 (.loadn 2 (.t 9)) ::
oo 40 (.loadn 2 (.t 11)) ::
oo 41 (.pure (rawOp Try.f5 5 2)) ::
om 42 41 ::
og 43 42 true (.mv (.t 10)) ::
og 44 42 true (.mv (.t 12)) ::
og 45 42 true (.int .eql (.t 43) (.t 44)) ::
oo 46 (.pick (.t 42) (.t 45) (.c (Value.bool false))) ::
om 47 46 ::
ocg 48 47 true 12 [] ::
oo 49 (.pick (.t 47) (.t 48) (.c (Value.bool false))) ::
om 8 49 :: [])) .ret)))))
def r5 : List ResultVar := [.tmp 8]
noncomputable def a8 : ACode := (.seq (.reg (
 oo 9 (.box (.t 3) 56) ::
oo 11 (.box (.t 5) 58) ::
oo 12 (.mv (.c (Value.bool false))) :: [])) (.seq (.seq (.reg (
 om 26 0 ::
om 27 1 ::
om 28 2 ::
oc 29 27 [(.t 26), (.t 27), (.t 28)] ::
oo 30 (.not (.t 29)) :: [])) (.cond (.t 30) (.seq (.reg (
 oc 31 12 [] ::
om 12 31 :: [])) .ret) .skip)) (.seq (.reg (
 om 33 0 ::
om 34 1 ::
om 35 2 ::
oc 36 22 [(.t 33), (.t 34), (.t 35)] ::
om 32 36 ::
oo 37 (.extract (.t 32) 0) ::
oo 38 (.extract (.t 32) 1) ::
oo 13 (.alloc [k0, k0] 38) ::
oz (.store 2 (.t 13) (.t 37)) ::
om 14 38 :: [])) (.seq (.seq (.reg (
 om 39 14 ::
oo 40 (.int .neq (.t 39) z0) :: [])) (.cond (.t 40) (.seq (.reg (
 om 41 14 ::
oo 42 (.int .eql (.t 41) (.c (Value.int .i64 20))) ::
om 43 42 ::
og 44 43 false (.mv (.t 14)) ::
og 45 43 false (.int .eql (.t 44) (.c (Value.int .i64 5))) ::
oo 46 (.pick (.t 43) (.c (Value.bool true)) (.t 45)) ::
om 47 46 ::
ocg 48 47 true 12 [] ::
oo 49 (.pick (.t 47) (.t 48) (.c (Value.bool false))) ::
om 12 49 :: [])) .ret) .skip)) (.seq (.seq (.reg (
 om 50 0 ::
oo 51 (.len (.t 50)) ::
oo 52 (.int .gtr (.t 51) z0) :: [])) (.cond (.t 52) (.seq (.reg (
 om 53 4 ::
oo 54 (.conv .i64 (.t 53)) ::
om 55 0 ::
oo 56 (.len (.t 55)) ::
oo 57 (.idiv false (.t 54) (.t 56)) ::
om 15 57 :: [])) (.seq (.reg (
 oo 58 (.bslice [] [] 0 56) ::
om 59 0 ::
oo 60 (.append 56 4 32 (.t 58) (.t 59)) ::
om 16 60 :: [])) (.seq (.dreg (
 om 61 16 ::
om 62 15 ::
om 63 16 ::
om 64 15 ::
oo 65 (.ixsl 4 (.t 63) (.t 64)) ::
oo 66 (.faddr 2 (.t 65)) ::
oo 67 (.faddr 1 (.t 66)) ::
oo 68 (.load1 (.t 67)) ::
om 69 16 ::
om 70 15 ::
oo 71 (.ixsl 4 (.t 69) (.t 70)) ::
oo 72 (.faddr 2 (.t 71)) ::
oo 73 (.faddr 0 (.t 72)) ::
oo 74 (.load1 (.t 73)) ::
oo 75 (.ixarr 2 1 (.t 11) z0) ::
oo 76 (.load1 (.t 75)) ::
oo 77 (.conv .i64 (.t 76)) ::
oo 78 (.int .add (.t 74) (.t 77)) ::
oo 79 (.mnmx false (.t 68) (.t 78)) ::
oo 80 (.ixsl 4 (.t 61) (.t 62)) ::
oo 81 (.faddr 2 (.t 80)) ::
oo 82 (.faddr 0 (.t 81)) ::
oz (.store 1 (.t 82) (.t 79)) :: []) []) (.seq (.dreg (
 om 83 16 ::
om 84 15 ::
om 85 16 ::
om 86 15 ::
oo 87 (.ixsl 4 (.t 85) (.t 86)) ::
oo 88 (.faddr 2 (.t 87)) ::
oo 89 (.faddr 0 (.t 88)) ::
oo 90 (.load1 (.t 89)) ::
om 91 16 ::
om 92 15 ::
oo 93 (.ixsl 4 (.t 91) (.t 92)) ::
oo 94 (.faddr 2 (.t 93)) ::
oo 95 (.faddr 1 (.t 94)) ::
oo 96 (.load1 (.t 95)) ::
oo 97 (.ixarr 2 1 (.t 11) z1) ::
oo 98 (.load1 (.t 97)) ::
oo 99 (.conv .i64 (.t 98)) ::
oo 100 (.int .sub (.t 96) (.t 99)) ::
oo 101 (.mnmx true (.t 90) (.t 100)) ::
oo 102 (.ixsl 4 (.t 83) (.t 84)) ::
oo 103 (.faddr 2 (.t 102)) ::
oo 104 (.faddr 1 (.t 103)) ::
oz (.store 1 (.t 104) (.t 101)) :: []) []) (.seq (.reg (
 om 106 16 ::
om 107 1 ::
om 108 2 ::
oc 109 22 [(.t 106), (.t 107), (.t 108)] ::
om 105 109 ::
oo 110 (.extract (.t 105) 0) ::
oo 111 (.extract (.t 105) 1) ::
oo 17 (.alloc [k0, k0] 38) ::
oz (.store 2 (.t 17) (.t 110)) ::
om 18 111 :: [])) (.seq (.reg (
 om 112 18 ::
oo 113 (.int .neq (.t 112) z0) ::
om 114 113 ::
og 115 114 true (.mv (.t 18)) ::
og 116 114 true (.int .neq (.t 115) (.c (Value.int .i64 20))) ::
oo 117 (.pick (.t 114) (.t 116) (.c (Value.bool false))) ::
om 118 117 ::
og 119 118 false (.mv (.t 18)) ::
og 120 118 false (.int .eql (.t 119) z0) ::
og 121 118 false (.mv (.t 120)) ::
og 122 121 true (.loadn 2 (.t 17)) ::
og 123 121 true (.loadn 2 (.t 13)) ::
ocg 124 121 true 28 [(.t 122), (.t 123)] ::
og 125 118 false (.pick (.t 121) (.t 124) (.c (Value.bool false))) ::
oo 126 (.pick (.t 118) (.c (Value.bool true)) (.t 125)) :: [])) (.cond (.t 126) (.seq (.reg (
 oo 12 (.mv (.c (Value.bool false))) :: [])) .ret) .skip))))))) .skip)) (.seq (.dreg (
 oo 127 (.bslice [] [] 0 56) ::
om 128 0 ::
oo 129 (.append 56 4 32 (.t 127) (.t 128)) ::
oo 130 (.loadn 4 (.t 9)) ::
oo 131 (.bslice [k0, k0, k0, k0] [(0, 4, (.t 130))] 1 56) ::
oo 132 (.append 56 4 32 (.t 129) (.t 131)) ::
om 19 132 :: []) [((.t 127), (.t 9))]) (.seq (.seq (.reg (
 om 133 19 ::
om 134 1 ::
om 135 2 ::
oc 136 27 [(.t 133), (.t 134), (.t 135)] ::
oo 137 (.not (.t 136)) :: [])) (.cond (.t 137) (.seq (.reg (
 oc 138 12 [] ::
om 12 138 :: [])) .ret) .skip)) (.seq (.reg (
 om 140 19 ::
om 141 1 ::
om 142 2 ::
oc 143 22 [(.t 140), (.t 141), (.t 142)] ::
om 139 143 ::
oo 144 (.extract (.t 139) 0) ::
oo 145 (.extract (.t 139) 1) ::
oo 20 (.alloc [k0, k0] 38) ::
oz (.store 2 (.t 20) (.t 144)) ::
om 21 145 :: [])) (.seq (.seq (.reg (
 om 146 21 ::
oo 147 (.int .neq (.t 146) z0) ::
om 148 147 ::
og 149 148 true (.mv (.t 21)) ::
og 150 148 true (.int .neq (.t 149) (.c (Value.int .i64 20))) ::
oo 151 (.pick (.t 148) (.t 150) (.c (Value.bool false))) ::
om 152 151 ::
og 153 152 false (.mv (.t 21)) ::
og 154 152 false (.int .eql (.t 153) z0) ::
og 155 152 false (.mv (.t 154)) ::
og 156 155 true (.loadn 2 (.t 20)) ::
og 157 155 true (.loadn 2 (.t 13)) ::
ocg 158 155 true 28 [(.t 156), (.t 157)] ::
og 159 152 false (.pick (.t 155) (.t 158) (.c (Value.bool false))) ::
oo 160 (.pick (.t 152) (.c (Value.bool true)) (.t 159)) :: [])) (.cond (.t 160) (.seq (.reg (
 oo 12 (.mv (.c (Value.bool false))) :: [])) .ret) .skip)) (.seq (.reg (
 om 162 0 ::
oo 163 (.faddr 0 (.t 9)) ::
oo 164 (.load1 (.t 163)) ::
oo 165 (.faddr 1 (.t 9)) ::
oo 166 (.load1 (.t 165)) ::
oc 167 22 [(.t 162), (.t 164), (.t 166)] ::
om 161 167 ::
oo 168 (.extract (.t 161) 0) ::
oo 169 (.extract (.t 161) 1) ::
oo 22 (.alloc [k0, k0] 38) ::
oz (.store 2 (.t 22) (.t 168)) ::
om 23 169 :: [])) (.seq (.reg (
 om 171 0 ::
oo 172 (.faddr 0 (.t 9)) ::
oo 173 (.load1 (.t 172)) ::
oo 174 (.neg (.t 173)) ::
oo 175 (.faddr 1 (.t 9)) ::
oo 176 (.load1 (.t 175)) ::
oo 177 (.neg (.t 176)) ::
oc 178 22 [(.t 171), (.t 174), (.t 177)] ::
om 170 178 ::
oo 179 (.extract (.t 170) 0) ::
oo 180 (.extract (.t 170) 1) ::
oo 24 (.alloc [k0, k0] 38) ::
oz (.store 2 (.t 24) (.t 179)) ::
om 25 180 :: [])) (.seq (.seq (.reg (
 om 181 23 ::
oo 182 (.int .neq (.t 181) z0) ::
om 183 182 ::
og 184 183 false (.mv (.t 25)) ::
og 185 183 false (.int .neq (.t 184) z0) ::
oo 186 (.pick (.t 183) (.c (Value.bool true)) (.t 185)) :: [])) (.cond (.t 186) (.seq (.reg (
 om 187 23 ::
om 188 25 ::
oo 189 (.int .eql (.t 187) (.t 188)) ::
om 190 189 ::
og 191 190 true (.mv (.t 23)) ::
og 192 190 true (.int .eql (.t 191) (.c (Value.int .i64 5))) ::
oo 193 (.pick (.t 190) (.t 192) (.c (Value.bool false))) ::
om 194 193 ::
ocg 195 194 true 12 [] ::
oo 196 (.pick (.t 194) (.t 195) (.c (Value.bool false))) ::
om 12 196 :: [])) .ret) .skip)) (.seq (.seq (.dreg (
 oo 197 (.loadn 2 (.t 22)) ::
oo 198 (.faddr 2 (.t 9)) ::
oo 199 (.faddr 0 (.t 198)) ::
oo 200 (.load1 (.t 199)) ::
oc 201 30 [(.t 200)] ::
oc 202 28 [(.t 197), (.t 201)] ::
om 203 202 ::
og 204 203 false (.loadn 2 (.t 24)) ::
og 205 203 false (.faddr 2 (.t 9)) ::
og 206 203 false (.faddr 1 (.t 205)) ::
og 207 203 false (.load1 (.t 206)) ::
og 208 203 false (.neg (.t 207)) ::
ocg 209 203 false 30 [(.t 208)] ::
ocg 210 203 false 28 [(.t 204), (.t 209)] ::
oo 211 (.pick (.t 203) (.c (Value.bool true)) (.t 210)) :: []) []) (.cond (.t 211) (.seq (.reg (
 oc 212 12 [] ::
om 12 212 :: [])) .ret) .skip)) (.seq (.reg (
 om 213 21 ::
oo 214 (.int .eql (.t 213) z0) ::
om 215 214 ::
og 216 215 true (.loadn 2 (.t 20)) ::
og 217 215 true (.loadn 2 (.t 13)) ::
og 218 215 true (.pure (rawOp Try.f8 26 5)) ::
oo 219 (.pick (.t 215) (.t 218) (.c (Value.bool false))) ::
om 220 219 ::
ocg 221 220 true 12 [] ::
oo 222 (.pick (.t 220) (.t 221) (.c (Value.bool false))) ::
om 12 222 :: [])) .ret))))))))))))))
def r8 : List ResultVar := [.tmp 12]
theorem fun8 : Fun Try.prog 8 223 6 a8 r8 :=
  ⟨rfl, Try.f8, _, rfl, rfl, rfl, by decide, rfl, rfl, rfl⟩
noncomputable def a12 : ACode := (.seq (.reg (
 oo 0 (.mv (.c (Value.bool false))) :: [])) (.seq (.reg (
 oc 24 34 [] ::
om 1 24 :: [])) (.seq (.reg (
 oc 25 34 [] ::
oo 26 (.build [k0, k0] [(0, 1, (.c (Value.int .i64 6))), (1, 1, (.c (Value.int .i64 9)))]) ::
oo 27 (.build [k0, k0, k0, k0] [(1, 1, z1), (2, 2, (.t 26))]) ::
oo 28 (.bslice [k0, k0, k0, k0] [(0, 4, (.t 27))] 1 56) ::
oo 29 (.append 56 4 32 (.t 25) (.t 28)) ::
om 2 29 :: [])) (.seq (.reg (
 om 31 2 ::
oc 32 17 [(.t 31)] ::
om 30 32 ::
oo 33 (.extract (.t 30) 0) ::
oo 34 (.extract (.t 30) 1) ::
oo 3 (.alloc [k0, k0, k0] 24) ::
oz (.store 3 (.t 3) (.t 33)) ::
om 4 34 :: [])) (.seq (.reg (
 om 36 1 ::
oc 37 22 [(.t 36), z0, z1] ::
om 35 37 ::
oo 38 (.extract (.t 35) 0) ::
oo 39 (.extract (.t 35) 1) ::
oo 5 (.alloc [k0, k0] 38) ::
oz (.store 2 (.t 5) (.t 38)) ::
om 6 39 :: [])) (.seq (.reg (
 om 41 1 ::
oc 42 22 [(.t 41), (.c (Value.int .i64 2)), (.c (Value.int .i64 3))] ::
om 40 42 ::
oo 43 (.extract (.t 40) 0) ::
oo 44 (.extract (.t 40) 1) ::
oo 7 (.alloc [k0, k0] 38) ::
oz (.store 2 (.t 7) (.t 43)) ::
om 8 44 :: [])) (.seq (.reg (
 om 46 1 ::
oo 47 (.build [k0, Value.bool false, k0] [(0, 1, z1), (2, 1, z1)]) ::
oo 48 (.build [k0, Value.bool false, k0] [(0, 1, z0), (1, 1, (.c (Value.bool true))), (2, 1, z1)]) ::
oo 49 (.bslice [k0, Value.bool false, k0, k0, Value.bool false, k0] [(0, 3, (.t 47)), (3, 3, (.t 48))] 2 72) ::
oo 50 (.build [Value.slice none 0 0, k0] [(0, 1, (.t 49)), (1, 1, z1)]) ::
oc 51 26 [(.t 46), z0, z1, (.t 50)] ::
om 45 51 ::
oo 52 (.extract (.t 45) 0) ::
oo 53 (.extract (.t 45) 1) ::
oo 9 (.alloc [k0, k0] 38) ::
oz (.store 2 (.t 9) (.t 52)) ::
om 10 53 :: [])) (.seq (.reg (
 om 55 1 ::
oo 56 (.slsl 4 (.t 55) none (some z1) none) ::
oc 57 22 [(.t 56), z1, z0] ::
om 54 57 ::
oo 58 (.extract (.t 54) 0) ::
oo 59 (.extract (.t 54) 1) ::
oo 11 (.alloc [k0, k0] 38) ::
oz (.store 2 (.t 11) (.t 58)) ::
om 12 59 :: [])) (.seq (.reg (
 om 61 1 ::
oc 62 23 [(.t 61), z0, z1] ::
om 60 62 ::
oo 63 (.extract (.t 60) 0) ::
oo 64 (.extract (.t 60) 1) ::
oo 13 (.alloc [k0, k0, k0] 24) ::
oz (.store 3 (.t 13) (.t 63)) ::
om 14 64 :: [])) (.seq (.reg (
 om 66 1 ::
oc 67 24 [(.t 66), z0, z1] ::
om 65 67 ::
oo 68 (.extract (.t 65) 0) ::
oo 69 (.extract (.t 65) 1) ::
oo 15 (.alloc [Value.slice none 0 0, k0] 33) ::
oz (.store 2 (.t 15) (.t 68)) ::
om 16 69 :: [])) (.seq (.reg (
 om 71 2 ::
oc 72 18 [(.t 71)] ::
om 70 72 ::
oo 73 (.extract (.t 70) 0) ::
oo 74 (.extract (.t 70) 1) ::
oo 17 (.alloc [Value.slice none 0 0, k0] 33) ::
oz (.store 2 (.t 17) (.t 73)) ::
om 18 74 :: [])) (.seq (.reg (
 om 76 1 ::
oc 77 36 [] ::
oc 78 35 [(.t 76), z0, z1, (.t 77)] ::
om 75 78 ::
oo 79 (.extract (.t 75) 0) ::
oo 80 (.extract (.t 75) 1) ::
oo 81 (.extract (.t 75) 2) ::
oo 20 (.alloc [k0, k0] 38) ::
om 19 79 ::
oz (.store 2 (.t 20) (.t 80)) ::
om 21 81 :: [])) (.seq (.seq (.dreg (
 om 82 4 ::
oo 83 (.int .neq (.t 82) (.c (Value.int .i64 20))) ::
om 84 83 ::
og 85 84 false (.mv (.t 6)) ::
og 86 84 false (.int .neq (.t 85) z0) ::
oo 87 (.pick (.t 84) (.c (Value.bool true)) (.t 86)) ::
om 88 87 ::
og 89 88 false (.mv (.t 8)) ::
og 90 88 false (.int .neq (.t 89) z0) ::
oo 91 (.pick (.t 88) (.c (Value.bool true)) (.t 90)) ::
om 92 91 ::
og 93 92 false (.mv (.t 10)) ::
og 94 92 false (.int .neq (.t 93) z0) ::
oo 95 (.pick (.t 92) (.c (Value.bool true)) (.t 94)) ::
om 96 95 ::
og 97 96 false (.mv (.t 12)) ::
og 98 96 false (.int .neq (.t 97) (.c (Value.int .i64 5))) ::
oo 99 (.pick (.t 96) (.c (Value.bool true)) (.t 98)) ::
om 100 99 ::
og 101 100 false (.mv (.t 14)) ::
og 102 100 false (.int .neq (.t 101) z0) ::
oo 103 (.pick (.t 100) (.c (Value.bool true)) (.t 102)) ::
om 104 103 ::
og 105 104 false (.mv (.t 16)) ::
og 106 104 false (.int .neq (.t 105) z0) ::
oo 107 (.pick (.t 104) (.c (Value.bool true)) (.t 106)) ::
om 108 107 ::
og 109 108 false (.mv (.t 18)) ::
og 110 108 false (.int .neq (.t 109) z0) ::
oo 111 (.pick (.t 108) (.c (Value.bool true)) (.t 110)) ::
om 112 111 ::
og 113 112 false (.mv (.t 21)) ::
og 114 112 false (.int .neq (.t 113) z0) ::
oo 115 (.pick (.t 112) (.c (Value.bool true)) (.t 114)) ::
om 116 115 ::
og 117 116 false (.loadn 2 (.t 5)) ::
ocg 118 116 false 30 [(.c (Value.int .i64 2))] ::
og 119 116 false (.pure (rawOp Try.f12 12 37)) ::
oo 120 (.pick (.t 116) (.c (Value.bool true)) (.t 119)) ::
om 121 120 ::
og 122 121 false (.loadn 2 (.t 7)) ::
ocg 123 121 false 30 [(.c (Value.int .i64 24))] ::
og 124 121 false (.pure (rawOp Try.f12 12 42)) ::
oo 125 (.pick (.t 121) (.c (Value.bool true)) (.t 124)) ::
om 126 125 ::
og 127 126 false (.loadn 2 (.t 9)) ::
ocg 128 126 false 30 [(.c (Value.int .i64 2))] ::
og 129 126 false (.pure (rawOp Try.f12 12 47)) ::
oo 130 (.pick (.t 126) (.c (Value.bool true)) (.t 129)) ::
om 131 130 ::
og 132 131 false (.mv (.t 19)) ::
og 133 131 false (.int .neq (.t 132) z1) ::
oo 134 (.pick (.t 131) (.c (Value.bool true)) (.t 133)) ::
om 135 134 ::
og 136 135 false (.loadn 2 (.t 20)) ::
ocg 137 135 false 30 [z0] ::
og 138 135 false (.pure (rawOp Try.f12 12 56)) ::
oo 139 (.pick (.t 135) (.c (Value.bool true)) (.t 138)) :: []) []) (.cond (.t 139) (.seq (.reg (
 oo 0 (.mv (.c (Value.bool false))) :: [])) .ret) .skip)) (.seq (.reg (
 om 141 1 ::
oo 142 (.loadn 2 (.t 15)) ::
oc 143 20 [(.t 141), z0, z1, (.t 142)] ::
om 140 143 ::
oo 144 (.extract (.t 140) 0) ::
oo 145 (.extract (.t 140) 1) ::
oo 22 (.alloc [k0, k0] 38) ::
oz (.store 2 (.t 22) (.t 144)) ::
om 4 145 :: [])) (.seq (.reg (
 om 147 2 ::
oo 148 (.loadn 2 (.t 17)) ::
oc 149 20 [(.t 147), z0, z0, (.t 148)] ::
om 146 149 ::
oo 150 (.extract (.t 146) 0) ::
oo 151 (.extract (.t 146) 1) ::
oo 23 (.alloc [k0, k0] 38) ::
oz (.store 2 (.t 23) (.t 150)) ::
om 6 151 :: [])) (.seq (.dreg (
 om 152 4 ::
oo 153 (.int .eql (.t 152) z0) ::
om 154 153 ::
og 155 154 true (.mv (.t 6)) ::
og 156 154 true (.int .eql (.t 155) z0) ::
oo 157 (.pick (.t 154) (.t 156) (.c (Value.bool false))) ::
om 158 157 ::
og 159 158 true (.loadn 2 (.t 22)) ::
ocg 160 158 true 30 [(.c (Value.int .i64 2))] ::
og 161 158 true (.pure (rawOp Try.f12 16 9)) ::
oo 162 (.pick (.t 158) (.t 161) (.c (Value.bool false))) ::
om 163 162 ::
og 164 163 true (.faddr 0 (.t 23)) ::
og 165 163 true (.load1 (.t 164)) ::
og 166 163 true (.int .gtr (.t 165) z0) ::
oo 167 (.pick (.t 163) (.t 166) (.c (Value.bool false))) ::
om 168 167 ::
og 169 168 true (.mv (.t 1)) ::
og 170 168 true (.loadn 3 (.t 13)) ::
ocg 171 168 true 16 [(.t 169), (.t 170)] ::
og 172 168 true (.int .eql (.t 171) z0) ::
oo 173 (.pick (.t 168) (.t 172) (.c (Value.bool false))) ::
om 174 173 ::
og 175 174 true (.loadn 3 (.t 13)) ::
ocg 176 174 true 25 [z0, z1, (.t 175)] ::
ocg 177 174 true 30 [(.c (Value.int .i64 2))] ::
og 178 174 true (.pure (rawOp Try.f12 16 26)) ::
oo 179 (.pick (.t 174) (.t 178) (.c (Value.bool false))) ::
om 0 179 :: []) []) .ret))))))))))))))))
def r12 : List ResultVar := [.tmp 0]
theorem fun12 : Fun Try.prog 12 180 0 a12 r12 :=
  ⟨rfl, Try.f12, _, rfl, rfl, rfl, by decide, rfl, rfl, rfl⟩
noncomputable def a13 : ACode := (.seq (.reg (
 oo 2 (.mv z0) :: [])) (.seq (.block 0 (.seq (.reg (
 om 4 0 ::
oo 5 (.len (.t 4)) ::
oo 6 (.int .gtr (.t 5) (.c (Value.int .i64 12))) ::
om 3 6 :: [])) (.cond (.t 3) (.seq (.reg (
 oo 2 (.mv (.c (Value.int .i64 6))) :: [])) .ret) (.seq (.reg (
 om 8 0 ::
oc 9 37 [(.t 8), (.c (Value.func (.func 38) #[] #[]))] ::
om 7 9 :: [])) (.cond (.t 7) (.seq (.reg (
 oo 2 (.mv (.c (Value.int .i64 2))) :: [])) .ret) .skip))))) (.seq (.reg (
 oo 2 (.mv z0) :: [])) .ret)))
def r13 : List ResultVar := [.tmp 2]
theorem fun13 : Fun Try.prog 13 10 1 a13 r13 :=
  ⟨rfl, Try.f13, _, rfl, rfl, rfl, by decide, rfl, rfl, rfl⟩
noncomputable def a14 : ACode := (.seq (.reg (
 oo 2 (.mv z0) :: [])) (.seq (.seq (.reg (
 om 4 0 ::
oo 5 (.len (.t 4)) ::
oo 6 (.int .gtr (.t 5) (.c (Value.int .i64 12))) :: [])) (.cond (.t 6) (.seq (.reg (
 oo 2 (.mv (.c (Value.int .i64 6))) :: [])) .ret) .skip)) (.seq (.seq (.reg (
 oo 3 (.mv z0) :: [])) (.block 0 (.loop (.seq (.seq (.reg (
 om 7 3 ::
om 8 0 ::
oo 9 (.len (.t 8)) ::
oo 10 (.int .lss (.t 7) (.t 9)) :: [])) (.cond (.t 10) .skip (.exit 0))) (.seq (.block 1 (.seq (.reg (
 om 13 0 ::
om 14 3 ::
oo 15 (.ixsl 4 (.t 13) (.t 14)) ::
oo 16 (.faddr 0 (.t 15)) ::
oo 17 (.load1 (.t 16)) ::
oc 18 40 [(.t 17)] ::
oo 19 (.not (.t 18)) ::
om 20 19 ::
og 21 20 false (.mv (.t 0)) ::
og 22 20 false (.mv (.t 3)) ::
og 23 20 false (.ixsl 4 (.t 21) (.t 22)) ::
og 24 20 false (.faddr 1 (.t 23)) ::
og 25 20 false (.load1 (.t 24)) ::
ocg 26 20 false 40 [(.t 25)] ::
og 27 20 false (.not (.t 26)) ::
oo 28 (.pick (.t 20) (.c (Value.bool true)) (.t 27)) ::
om 29 28 ::
og 30 29 false (.mv (.t 0)) ::
og 31 29 false (.mv (.t 3)) ::
og 32 29 false (.ixsl 4 (.t 30) (.t 31)) ::
og 33 29 false (.faddr 0 (.t 32)) ::
og 34 29 false (.load1 (.t 33)) ::
og 35 29 false (.int .eql (.t 34) z0) ::
og 36 29 false (.mv (.t 35)) ::
og 37 36 true (.mv (.t 0)) ::
og 38 36 true (.mv (.t 3)) ::
og 39 36 true (.ixsl 4 (.t 37) (.t 38)) ::
og 40 36 true (.faddr 1 (.t 39)) ::
og 41 36 true (.load1 (.t 40)) ::
og 42 36 true (.int .eql (.t 41) z0) ::
og 43 29 false (.pick (.t 36) (.t 42) (.c (Value.bool false))) ::
oo 44 (.pick (.t 29) (.c (Value.bool true)) (.t 43)) ::
om 45 44 ::
og 46 45 false (.mv (.t 0)) ::
og 47 45 false (.mv (.t 3)) ::
og 48 45 false (.ixsl 4 (.t 46) (.t 47)) ::
og 49 45 false (.faddr 2 (.t 48)) ::
og 50 45 false (.loadn 2 (.t 49)) ::
ocg 51 45 false 41 [(.t 50)] ::
og 52 45 false (.not (.t 51)) ::
oo 53 (.pick (.t 45) (.c (Value.bool true)) (.t 52)) :: [])) (.cond (.t 53) (.seq (.reg (
 oo 2 (.mv (.c (Value.int .i64 2))) :: [])) .ret) .skip))) (.reg (
 om 11 3 ::
oo 12 (.int .add (.t 11) z1) ::
om 3 12 :: []))))))) (.seq (.reg (
 oo 2 (.mv z0) :: [])) .ret))))
def r14 : List ResultVar := [.tmp 2]
theorem fun14 : Fun Try.prog 14 54 1 a14 r14 :=
  ⟨rfl, Try.f14, _, rfl, rfl, rfl, by decide, rfl, rfl, rfl⟩
noncomputable def a15 : ACode := (.seq (.reg (
 oo 3 (.box (.t 1) 24) ::
oo 4 (.mv z0) :: [])) (.seq (.seq (.reg (
 om 8 0 ::
oc 9 13 [(.t 8)] ::
om 5 9 :: [])) (.seq (.reg (
 om 10 5 ::
oo 11 (.int .neq (.t 10) z0) :: [])) (.cond (.t 11) (.seq (.reg (
 om 12 5 ::
om 4 12 :: [])) .ret) .skip))) (.seq (.seq (.reg (
 oo 13 (.faddr 2 (.t 3)) ::
oo 14 (.load1 (.t 13)) ::
oo 15 (.bslice [k0] [(0, 1, (.t 14))] 1 2) ::
oc 16 42 [z1, (.c (Value.int .i64 1099511627776)), (.t 15)] ::
oo 17 (.not (.t 16)) ::
om 18 17 ::
og 19 18 false (.faddr 0 (.t 3)) ::
og 20 18 false (.load1 (.t 19)) ::
og 21 18 false (.faddr 1 (.t 3)) ::
og 22 18 false (.load1 (.t 21)) ::
og 23 18 false (.bslice [k0, k0] [(0, 1, (.t 20)), (1, 1, (.t 22))] 2 2) ::
ocg 24 18 false 42 [(.c (Value.int .i64 (-1099511627776))), (.c (Value.int .i64 1099511627776)), (.t 23)] ::
og 25 18 false (.not (.t 24)) ::
oo 26 (.pick (.t 18) (.c (Value.bool true)) (.t 25)) :: [])) (.cond (.t 26) (.seq (.reg (
 oo 4 (.mv (.c (Value.int .i64 2))) :: [])) .ret) .skip)) (.seq (.seq (.reg (
 om 27 0 ::
oo 28 (.len (.t 27)) ::
oo 29 (.mv z0) :: [])) (.block 0 (.loop (.seq (.reg (
 oo 30 (.int .lss (.t 29) (.t 28)) :: [])) (.seq (.cond (.t 30) .skip (.exit 0)) (.seq (.block 1 (.seq (.reg (
 oo 31 (.ixsl 4 (.t 27) (.t 29)) ::
oo 32 (.loadn 4 (.t 31)) ::
oo 7 (.alloc [k0, k0, k0, k0] 56) ::
oz (.store 4 (.t 7) (.t 32)) :: [])) (.seq (.reg (
 oo 33 (.faddr 2 (.t 7)) ::
oo 34 (.faddr 0 (.t 33)) ::
oo 35 (.load1 (.t 34)) ::
oo 36 (.faddr 2 (.t 3)) ::
oo 37 (.load1 (.t 36)) ::
oo 38 (.int .mul (.t 35) (.t 37)) ::
oo 39 (.faddr 2 (.t 7)) ::
oo 40 (.faddr 1 (.t 39)) ::
oo 41 (.load1 (.t 40)) ::
oo 42 (.faddr 2 (.t 3)) ::
oo 43 (.load1 (.t 42)) ::
oo 44 (.int .mul (.t 41) (.t 43)) ::
oo 45 (.faddr 0 (.t 7)) ::
oo 46 (.load1 (.t 45)) ::
oo 47 (.faddr 0 (.t 3)) ::
oo 48 (.load1 (.t 47)) ::
oo 49 (.int .mul (.t 46) (.t 48)) ::
oo 50 (.faddr 1 (.t 7)) ::
oo 51 (.load1 (.t 50)) ::
oo 52 (.faddr 1 (.t 3)) ::
oo 53 (.load1 (.t 52)) ::
oo 54 (.int .mul (.t 51) (.t 53)) ::
oo 55 (.int .add (.t 49) (.t 54)) ::
oo 56 (.bslice [k0] [(0, 1, (.t 55))] 1 2) ::
oc 57 42 [(.t 38), (.t 44), (.t 56)] ::
oo 58 (.not (.t 57)) :: [])) (.cond (.t 58) (.seq (.reg (
 oo 4 (.mv (.c (Value.int .i64 20))) :: [])) .ret) .skip)))) (.reg (
 oo 59 (.int .add (.t 29) z1) ::
om 29 59 :: [])))))))) (.seq (.reg (
 oo 4 (.mv z0) :: [])) .ret)))))
def r15 : List ResultVar := [.tmp 4]
theorem fun15 : Fun Try.prog 15 60 2 a15 r15 :=
  ⟨rfl, Try.f15, _, rfl, rfl, rfl, by decide, rfl, rfl, rfl⟩
noncomputable def a16 : ACode := (.seq (.reg (
 oo 3 (.box (.t 1) 24) ::
oo 4 (.mv z0) :: [])) (.seq (.seq (.reg (
 om 5 0 ::
oc 6 14 [(.t 5)] ::
oo 7 (.int .neq (.t 6) z0) :: [])) (.cond (.t 7) (.seq (.reg (
 om 8 0 ::
oc 9 14 [(.t 8)] ::
om 4 9 :: [])) .ret) .skip)) (.seq (.seq (.reg (
 oo 10 (.loadn 3 (.t 3)) ::
oc 11 43 [(.t 10)] ::
oo 12 (.not (.t 11)) :: [])) (.cond (.t 12) (.seq (.reg (
 oo 4 (.mv (.c (Value.int .i64 2))) :: [])) .ret) .skip)) (.seq (.seq (.reg (
 om 13 0 ::
oo 14 (.loadn 3 (.t 3)) ::
oc 15 44 [(.t 13), (.t 14)] ::
oo 16 (.not (.t 15)) :: [])) (.cond (.t 16) (.seq (.reg (
 oo 4 (.mv (.c (Value.int .i64 20))) :: [])) .ret) .skip)) (.seq (.reg (
 oo 4 (.mv z0) :: [])) .ret)))))
def r16 : List ResultVar := [.tmp 4]
theorem fun16 : Fun Try.prog 16 17 2 a16 r16 :=
  ⟨rfl, Try.f16, _, rfl, rfl, rfl, by decide, rfl, rfl, rfl⟩
noncomputable def a17 : ACode := (.seq (.reg (
 oo 2 (.alloc [k0, k0, k0] 24) ::
oo 3 (.mv z0) :: [])) (.seq (.reg (
 om 4 0 ::
oc 5 23 [(.t 4), z0, z0] ::
oo 6 (.extract (.t 5) 0) ::
oo 7 (.extract (.t 5) 1) ::
oz (.store 3 (.t 2) (.t 6)) ::
om 3 7 :: [])) .ret))
def r17 : List ResultVar := [.cell 2 24, .tmp 3]
theorem fun17 : Fun Try.prog 17 8 1 a17 r17 :=
  ⟨rfl, Try.f17, _, rfl, rfl, rfl, by decide, rfl, rfl, rfl⟩
noncomputable def a18 : ACode := (.seq (.reg (
 oo 2 (.alloc [Value.slice none 0 0, k0] 33) ::
oo 3 (.mv z0) :: [])) (.seq (.seq (.reg (
 om 7 0 ::
oc 8 13 [(.t 7)] ::
om 4 8 :: [])) (.seq (.reg (
 om 9 4 ::
oo 10 (.int .neq (.t 9) z0) :: [])) (.cond (.t 10) (.seq (.reg (
 oo 11 (.build [Value.slice none 0 0, k0] []) ::
om 12 4 ::
oz (.store 2 (.t 2) (.t 11)) ::
om 3 12 :: [])) .ret) .skip))) (.seq (.seq (.reg (
 om 14 0 ::
oc 15 45 [(.t 14)] ::
oc 16 46 [(.t 15)] ::
om 13 16 ::
oo 17 (.extract (.t 13) 0) ::
oo 18 (.extract (.t 13) 1) ::
oo 5 (.alloc [Value.map none, k0, k0, k0, k0] 82) ::
oz (.store 5 (.t 5) (.t 17)) ::
om 6 18 :: [])) (.seq (.reg (
 om 19 6 :: [])) (.cond (.t 19) (.seq (.reg (
 oo 20 (.loadn 5 (.t 5)) ::
oc 21 47 [(.t 20)] ::
oz (.store 2 (.t 2) (.t 21)) ::
oo 3 (.mv z0) :: [])) .ret) .skip))) (.seq (.reg (
 oo 22 (.build [Value.slice none 0 0, k0] []) ::
oz (.store 2 (.t 2) (.t 22)) ::
oo 3 (.mv (.c (Value.int .i64 5))) :: [])) .ret))))
def r18 : List ResultVar := [.cell 2 33, .tmp 3]
theorem fun18 : Fun Try.prog 18 23 1 a18 r18 :=
  ⟨rfl, Try.f18, _, rfl, rfl, rfl, by decide, rfl, rfl, rfl⟩
noncomputable def a20 : ACode := (.seq (.reg (
 oo 7 (.box (.t 3) 33) ::
oo 8 (.alloc [k0, k0] 38) ::
oo 9 (.mv z0) :: [])) (.seq (.seq (.reg (
 om 18 0 ::
om 19 1 ::
om 20 2 ::
oc 21 49 [(.t 18), (.t 19), (.t 20)] ::
oo 22 (.int .neq (.t 21) z0) :: [])) (.cond (.t 22) (.seq (.reg (
 oo 23 (.build [k0, k0] []) ::
om 24 0 ::
om 25 1 ::
om 26 2 ::
oc 27 49 [(.t 24), (.t 25), (.t 26)] ::
oz (.store 2 (.t 8) (.t 23)) ::
om 9 27 :: [])) .ret) .skip)) (.seq (.seq (.reg (
 oo 28 (.faddr 0 (.t 7)) ::
oo 29 (.load1 (.t 28)) ::
oo 30 (.len (.t 29)) ::
oo 31 (.int .gtr (.t 30) (.c (Value.int .i64 24))) :: [])) (.cond (.t 31) (.seq (.reg (
 oo 32 (.build [k0, k0] []) ::
oz (.store 2 (.t 8) (.t 32)) ::
oo 9 (.mv (.c (Value.int .i64 6))) :: [])) .ret) .skip)) (.seq (.seq (.reg (
 oo 10 (.mv z0) :: [])) (.block 0 (.loop (.seq (.seq (.reg (
 om 33 10 ::
oo 34 (.faddr 0 (.t 7)) ::
oo 35 (.load1 (.t 34)) ::
oo 36 (.len (.t 35)) ::
oo 37 (.int .lss (.t 33) (.t 36)) :: [])) (.cond (.t 37) .skip (.exit 0))) (.seq (.block 1 (.seq (.reg (
 oo 40 (.faddr 0 (.t 7)) ::
oo 41 (.load1 (.t 40)) ::
om 42 10 ::
oo 43 (.ixsl 3 (.t 41) (.t 42)) ::
oo 44 (.loadn 3 (.t 43)) ::
oo 11 (.alloc [k0, Value.bool false, k0] 72) ::
oz (.store 3 (.t 11) (.t 44)) :: [])) (.seq (.reg (
 oo 45 (.faddr 0 (.t 11)) ::
oo 46 (.load1 (.t 45)) ::
oo 47 (.int .lss (.t 46) z0) ::
om 48 47 ::
og 49 48 false (.faddr 0 (.t 11)) ::
og 50 48 false (.load1 (.t 49)) ::
og 51 48 false (.mv (.t 0)) ::
og 52 48 false (.len (.t 51)) ::
og 53 48 false (.int .geq (.t 50) (.t 52)) ::
oo 54 (.pick (.t 48) (.c (Value.bool true)) (.t 53)) ::
om 55 54 ::
og 56 55 false (.faddr 2 (.t 11)) ::
og 57 55 false (.load1 (.t 56)) ::
og 58 55 false (.int .lss (.t 57) z1) ::
oo 59 (.pick (.t 55) (.c (Value.bool true)) (.t 58)) ::
om 60 59 ::
og 61 60 false (.faddr 2 (.t 11)) ::
og 62 60 false (.load1 (.t 61)) ::
og 63 60 false (.int .gtr (.t 62) (.c (Value.int .i64 1000000))) ::
oo 64 (.pick (.t 60) (.c (Value.bool true)) (.t 63)) :: [])) (.cond (.t 64) (.seq (.reg (
 oo 65 (.build [k0, k0] []) ::
oz (.store 2 (.t 8) (.t 65)) ::
oo 9 (.mv (.c (Value.int .i64 3))) :: [])) .ret) .skip)))) (.reg (
 om 38 10 ::
oo 39 (.int .add (.t 38) z1) ::
om 10 39 :: []))))))) (.seq (.seq (.reg (
 oo 66 (.faddr 1 (.t 7)) ::
oo 67 (.load1 (.t 66)) ::
oo 68 (.int .lss (.t 67) z1) ::
om 69 68 ::
og 70 69 false (.faddr 1 (.t 7)) ::
og 71 69 false (.load1 (.t 70)) ::
og 72 69 false (.int .gtr (.t 71) (.c (Value.int .i64 1099511627776))) ::
oo 73 (.pick (.t 69) (.c (Value.bool true)) (.t 72)) :: [])) (.cond (.t 73) (.seq (.reg (
 oo 74 (.build [k0, k0] []) ::
oz (.store 2 (.t 8) (.t 74)) ::
oo 9 (.mv (.c (Value.int .i64 3))) :: [])) .ret) .skip)) (.seq (.reg (
 oo 12 (.mv z0) ::
oo 13 (.mv z0) ::
oo 14 (.mv z0) :: [])) (.seq (.seq (.reg (
 oo 15 (.mv z0) :: [])) (.block 2 (.loop (.seq (.seq (.reg (
 om 75 15 ::
oo 76 (.faddr 0 (.t 7)) ::
oo 77 (.load1 (.t 76)) ::
oo 78 (.len (.t 77)) ::
oo 79 (.int .lss (.t 75) (.t 78)) :: [])) (.cond (.t 79) .skip (.exit 2))) (.seq (.block 3 (.seq (.reg (
 oo 82 (.faddr 0 (.t 7)) ::
oo 83 (.load1 (.t 82)) ::
om 84 15 ::
oo 85 (.ixsl 3 (.t 83) (.t 84)) ::
oo 86 (.loadn 3 (.t 85)) ::
oo 16 (.alloc [k0, Value.bool false, k0] 72) ::
oz (.store 3 (.t 16) (.t 86)) :: [])) (.seq (.reg (
 om 87 0 ::
oo 88 (.faddr 0 (.t 16)) ::
oo 89 (.load1 (.t 88)) ::
oo 90 (.ixsl 4 (.t 87) (.t 89)) ::
oo 91 (.loadn 4 (.t 90)) ::
oo 17 (.alloc [k0, k0, k0, k0] 56) ::
oz (.store 4 (.t 17) (.t 91)) :: [])) (.seq (.reg (
 oo 92 (.faddr 1 (.t 16)) ::
oo 93 (.load1 (.t 92)) :: [])) (.cond (.t 93) (.seq (.reg (
 om 94 12 ::
oo 95 (.faddr 0 (.t 17)) ::
oo 96 (.load1 (.t 95)) ::
oo 97 (.faddr 2 (.t 16)) ::
oo 98 (.load1 (.t 97)) ::
oo 99 (.int .mul (.t 96) (.t 98)) ::
oo 100 (.int .sub (.t 94) (.t 99)) ::
om 12 100 :: [])) (.seq (.reg (
 om 101 13 ::
oo 102 (.faddr 1 (.t 17)) ::
oo 103 (.load1 (.t 102)) ::
oo 104 (.faddr 2 (.t 16)) ::
oo 105 (.load1 (.t 104)) ::
oo 106 (.int .mul (.t 103) (.t 105)) ::
oo 107 (.int .sub (.t 101) (.t 106)) ::
om 13 107 :: [])) (.reg (
 om 108 14 ::
oo 109 (.faddr 2 (.t 17)) ::
oo 110 (.faddr 1 (.t 109)) ::
oo 111 (.load1 (.t 110)) ::
oo 112 (.faddr 2 (.t 16)) ::
oo 113 (.load1 (.t 112)) ::
oo 114 (.int .mul (.t 111) (.t 113)) ::
oo 115 (.int .sub (.t 108) (.t 114)) ::
om 14 115 :: [])))) (.seq (.reg (
 om 116 12 ::
oo 117 (.faddr 0 (.t 17)) ::
oo 118 (.load1 (.t 117)) ::
oo 119 (.faddr 2 (.t 16)) ::
oo 120 (.load1 (.t 119)) ::
oo 121 (.int .mul (.t 118) (.t 120)) ::
oo 122 (.int .add (.t 116) (.t 121)) ::
om 12 122 :: [])) (.seq (.reg (
 om 123 13 ::
oo 124 (.faddr 1 (.t 17)) ::
oo 125 (.load1 (.t 124)) ::
oo 126 (.faddr 2 (.t 16)) ::
oo 127 (.load1 (.t 126)) ::
oo 128 (.int .mul (.t 125) (.t 127)) ::
oo 129 (.int .add (.t 123) (.t 128)) ::
om 13 129 :: [])) (.reg (
 om 130 14 ::
oo 131 (.faddr 2 (.t 17)) ::
oo 132 (.faddr 0 (.t 131)) ::
oo 133 (.load1 (.t 132)) ::
oo 134 (.faddr 2 (.t 16)) ::
oo 135 (.load1 (.t 134)) ::
oo 136 (.int .mul (.t 133) (.t 135)) ::
oo 137 (.int .add (.t 130) (.t 136)) ::
om 14 137 :: []))))))))) (.reg (
 om 80 15 ::
oo 81 (.int .add (.t 80) z1) ::
om 15 81 :: []))))))) (.seq (.seq (.reg (
 om 138 12 ::
om 139 1 ::
oo 140 (.faddr 1 (.t 7)) ::
oo 141 (.load1 (.t 140)) ::
oo 142 (.int .mul (.t 139) (.t 141)) ::
oo 143 (.int .neq (.t 138) (.t 142)) ::
om 144 143 ::
og 145 144 false (.mv (.t 13)) ::
og 146 144 false (.mv (.t 2)) ::
og 147 144 false (.faddr 1 (.t 7)) ::
og 148 144 false (.load1 (.t 147)) ::
og 149 144 false (.int .mul (.t 146) (.t 148)) ::
og 150 144 false (.int .neq (.t 145) (.t 149)) ::
oo 151 (.pick (.t 144) (.c (Value.bool true)) (.t 150)) :: [])) (.cond (.t 151) (.seq (.reg (
 oo 152 (.build [k0, k0] []) ::
oz (.store 2 (.t 8) (.t 152)) ::
oo 9 (.mv (.c (Value.int .i64 14))) :: [])) .ret) .skip)) (.seq (.reg (
 om 153 14 ::
oo 154 (.faddr 1 (.t 7)) ::
oo 155 (.load1 (.t 154)) ::
oc 156 33 [(.t 153), (.t 155)] ::
oz (.store 2 (.t 8) (.t 156)) ::
oo 9 (.mv z0) :: [])) .ret)))))))))
def r20 : List ResultVar := [.cell 8 38, .tmp 9]
theorem fun20 : Fun Try.prog 20 157 4 a20 r20 :=
  ⟨rfl, Try.f20, _, rfl, rfl, rfl, by decide, rfl, rfl, rfl⟩
noncomputable def a22 : ACode := (.seq (.reg (
 oo 6 (.alloc [k0, k0] 38) ::
oo 7 (.mv z0) :: [])) (.seq (.reg (
 om 11 0 ::
om 12 1 ::
om 13 2 ::
oc 14 51 [(.t 11), (.t 12), (.t 13)] ::
om 10 14 ::
oo 15 (.extract (.t 10) 0) ::
oo 16 (.extract (.t 10) 1) ::
oo 8 (.alloc [Value.map none, k0, k0, k0, k0] 82) ::
oz (.store 5 (.t 8) (.t 15)) ::
om 9 16 :: [])) (.seq (.seq (.reg (
 om 17 9 ::
oo 18 (.int .neq (.t 17) z0) :: [])) (.cond (.t 18) (.seq (.reg (
 oo 19 (.build [k0, k0] []) ::
om 20 9 ::
oz (.store 2 (.t 6) (.t 19)) ::
om 7 20 :: [])) .ret) .skip)) (.seq (.reg (
 oo 21 (.loadn 5 (.t 8)) ::
oc 22 52 [(.t 21)] ::
oz (.store 2 (.t 6) (.t 22)) ::
oo 7 (.mv z0) :: [])) .ret))))
def r22 : List ResultVar := [.cell 6 38, .tmp 7]
theorem fun22 : Fun Try.prog 22 23 3 a22 r22 :=
  ⟨rfl, Try.f22, _, rfl, rfl, rfl, by decide, rfl, rfl, rfl⟩
noncomputable def a23A0 : ACode := (.reg (
 oo 11 (.alloc [k0, k0, k0] 24) ::
oz (.store 3 (.t 11) (.t 28)) :: []))
noncomputable def a23B0 : ACode := (.block 1 (.seq (.dreg (
 oo 29 (.load1 (.t 3)) ::
oo 30 (.loadn 3 (.t 11)) ::
oc 31 15 [(.t 29), (.t 30)] ::
oo 32 (.int .eql (.t 31) z0) ::
om 33 32 ::
og 34 33 true (.load1 (.t 4)) ::
og 35 33 true (.faddr 0 (.t 11)) ::
og 36 33 true (.load1 (.t 35)) ::
og 37 33 true (.int .mul (.t 34) (.t 36)) ::
og 38 33 true (.load1 (.t 5)) ::
og 39 33 true (.faddr 1 (.t 11)) ::
og 40 33 true (.load1 (.t 39)) ::
og 41 33 true (.int .mul (.t 38) (.t 40)) ::
og 42 33 true (.int .add (.t 37) (.t 41)) ::
og 43 33 true (.faddr 2 (.t 11)) ::
og 44 33 true (.load1 (.t 43)) ::
ocg 45 33 true 54 [(.t 42), (.t 44)] ::
og 46 33 true (.loadn 2 (.t 10)) ::
og 47 33 true (.pure (rawOp Try.f23 7 18)) ::
oo 48 (.pick (.t 33) (.t 47) (.c (Value.bool false))) :: []) []) (.cond (.t 48) (.seq (.reg (
 oo 49 (.loadn 3 (.t 11)) ::
oz (.store 3 (.t 6) (.t 49)) ::
oz (.store 1 (.t 7) z0) :: [])) .ret) .skip)))
theorem c23A0 : cCode Try.prog 51 false (rfAt Try.f23 0).1 = some a23A0 := rfl
theorem c23B0 : cCode Try.prog 51 false (rfAt Try.f23 0).2 = some a23B0 := rfl
noncomputable def a23 : ACode := (.seq (.reg (
 oo 3 (.box (.t 0) 22) ::
oo 4 (.box (.t 1) 2) ::
oo 5 (.box (.t 2) 2) ::
oo 6 (.alloc [k0, k0, k0] 24) ::
oo 7 (.alloc [k0] 26) :: [])) (.seq (.reg (
 oo 13 (.load1 (.t 3)) ::
oo 14 (.load1 (.t 4)) ::
oo 15 (.load1 (.t 5)) ::
oc 16 51 [(.t 13), (.t 14), (.t 15)] ::
om 12 16 ::
oo 17 (.extract (.t 12) 0) ::
oo 18 (.extract (.t 12) 1) ::
oo 8 (.alloc [Value.map none, k0, k0, k0, k0] 82) ::
oz (.store 5 (.t 8) (.t 17)) ::
om 9 18 :: [])) (.seq (.seq (.reg (
 om 19 9 ::
oo 20 (.int .neq (.t 19) z0) :: [])) (.cond (.t 20) (.seq (.reg (
 oo 21 (.build [k0, k0, k0] []) ::
om 22 9 ::
oz (.store 3 (.t 6) (.t 21)) ::
oz (.store 1 (.t 7) (.t 22)) :: [])) .ret) .skip)) (.seq (.reg (
 oo 23 (.loadn 5 (.t 8)) ::
oc 24 52 [(.t 23)] ::
oo 10 (.alloc [k0, k0] 38) ::
oz (.store 2 (.t 10) (.t 24)) :: [])) (.seq (.seq (.reg (
 oo 25 (.load1 (.t 3)) ::
oc 26 45 [(.t 25)] ::
oc 27 53 [(.t 26)] :: [])) (.block 0 (.range (.t 27) [28] 51 (rfAt Try.f23 0).1 (rfAt Try.f23 0).2 a23A0 a23B0))) (.seq (.reg (
 oo 50 (.build [k0, k0, k0] []) ::
oz (.store 3 (.t 6) (.t 50)) ::
oz (.store 1 (.t 7) (.c (Value.int .i64 20))) :: [])) .ret))))))
def r23 : List ResultVar := [.cell 6 24, .cell 7 26]
theorem fun23 : Fun Try.prog 23 51 3 a23 r23 :=
  ⟨rfl, Try.f23, _, rfl, rfl, rfl, by decide, rfl, rfl, rfl⟩
noncomputable def a24 : ACode := (.seq (.reg (
 oo 6 (.alloc [Value.slice none 0 0, k0] 33) ::
oo 7 (.mv z0) :: [])) (.seq (.reg (
 om 11 0 ::
om 12 1 ::
om 13 2 ::
oc 14 51 [(.t 11), (.t 12), (.t 13)] ::
om 10 14 ::
oo 15 (.extract (.t 10) 0) ::
oo 16 (.extract (.t 10) 1) ::
oo 8 (.alloc [Value.map none, k0, k0, k0, k0] 82) ::
oz (.store 5 (.t 8) (.t 15)) ::
om 9 16 :: [])) (.seq (.seq (.reg (
 om 17 9 ::
oo 18 (.int .neq (.t 17) z0) :: [])) (.cond (.t 18) (.seq (.reg (
 oo 19 (.build [Value.slice none 0 0, k0] []) ::
om 20 9 ::
oz (.store 2 (.t 6) (.t 19)) ::
om 7 20 :: [])) .ret) .skip)) (.seq (.reg (
 oo 21 (.loadn 5 (.t 8)) ::
oc 22 47 [(.t 21)] ::
oz (.store 2 (.t 6) (.t 22)) ::
oo 7 (.mv z0) :: [])) .ret))))
def r24 : List ResultVar := [.cell 6 33, .tmp 7]
theorem fun24 : Fun Try.prog 24 23 3 a24 r24 :=
  ⟨rfl, Try.f24, _, rfl, rfl, rfl, by decide, rfl, rfl, rfl⟩
noncomputable def a25 : ACode := (.seq (.reg (
 oo 5 (.box (.t 2) 24) ::
oo 6 (.alloc [k0, k0] 38) :: [])) (.seq (.reg (
 om 7 0 ::
oo 8 (.faddr 0 (.t 5)) ::
oo 9 (.load1 (.t 8)) ::
oo 10 (.int .mul (.t 7) (.t 9)) ::
om 11 1 ::
oo 12 (.faddr 1 (.t 5)) ::
oo 13 (.load1 (.t 12)) ::
oo 14 (.int .mul (.t 11) (.t 13)) ::
oo 15 (.int .add (.t 10) (.t 14)) ::
oo 16 (.faddr 2 (.t 5)) ::
oo 17 (.load1 (.t 16)) ::
oc 18 33 [(.t 15), (.t 17)] ::
oz (.store 2 (.t 6) (.t 18)) :: [])) .ret))
def r25 : List ResultVar := [.cell 6 38]
theorem fun25 : Fun Try.prog 25 19 3 a25 r25 :=
  ⟨rfl, Try.f25, _, rfl, rfl, rfl, by decide, rfl, rfl, rfl⟩
noncomputable def a26 : ACode := (.seq (.reg (
 oo 4 (.box (.t 0) 22) ::
oo 7 (.box (.t 3) 33) ::
oo 8 (.alloc [k0, k0] 38) ::
oo 9 (.mv z0) :: [])) (.seq (.seq (.reg (
 oo 16 (.load1 (.t 4)) ::
om 17 1 ::
om 18 2 ::
oc 19 55 [(.t 16), (.t 17), (.t 18)] ::
om 10 19 :: [])) (.seq (.reg (
 om 20 10 ::
oo 21 (.int .neq (.t 20) z0) :: [])) (.cond (.t 21) (.seq (.reg (
 oo 22 (.build [k0, k0] []) ::
om 23 10 ::
oz (.store 2 (.t 8) (.t 22)) ::
om 9 23 :: [])) .ret) .skip))) (.seq (.reg (
 oo 24 (.mkfn (Fn.func 56) [] [(.t 4)]) ::
om 11 24 :: [])) (.seq (.block 0 (.seq (.reg (
 oo 26 (.faddr 0 (.t 7)) ::
oo 27 (.load1 (.t 26)) ::
oo 28 (.len (.t 27)) ::
oo 29 (.int .gtr (.t 28) (.c (Value.int .i64 24))) ::
om 25 29 :: [])) (.cond (.t 25) (.seq (.reg (
 oo 30 (.build [k0, k0] []) ::
oz (.store 2 (.t 8) (.t 30)) ::
oo 9 (.mv (.c (Value.int .i64 6))) :: [])) .ret) (.seq (.reg (
 oo 32 (.faddr 0 (.t 7)) ::
oo 33 (.load1 (.t 32)) ::
om 34 11 ::
oc 35 57 [(.t 33), (.t 34)] ::
om 36 35 ::
og 37 36 false (.faddr 1 (.t 7)) ::
og 38 36 false (.load1 (.t 37)) ::
og 39 36 false (.bslice [k0] [(0, 1, (.t 38))] 1 2) ::
ocg 40 36 false 42 [z1, (.c (Value.int .i64 1099511627776)), (.t 39)] ::
og 41 36 false (.not (.t 40)) ::
oo 42 (.pick (.t 36) (.c (Value.bool true)) (.t 41)) ::
om 31 42 :: [])) (.cond (.t 31) (.seq (.reg (
 oo 43 (.build [k0, k0] []) ::
oz (.store 2 (.t 8) (.t 43)) ::
oo 9 (.mv (.c (Value.int .i64 3))) :: [])) .ret) .skip))))) (.seq (.reg (
 oo 12 (.alloc [k0, k0, k0] 80) :: [])) (.seq (.seq (.reg (
 oo 44 (.faddr 0 (.t 7)) ::
oo 45 (.load1 (.t 44)) ::
oo 46 (.len (.t 45)) ::
oo 47 (.mv z0) :: [])) (.block 1 (.loop (.seq (.reg (
 oo 48 (.int .lss (.t 47) (.t 46)) :: [])) (.seq (.cond (.t 48) .skip (.exit 1)) (.seq (.block 2 (.seq (.reg (
 oo 49 (.ixsl 3 (.t 45) (.t 47)) ::
oo 50 (.loadn 3 (.t 49)) ::
oo 14 (.alloc [k0, Value.bool false, k0] 72) ::
oz (.store 3 (.t 14) (.t 50)) :: [])) (.seq (.reg (
 oo 51 (.load1 (.t 4)) ::
oo 52 (.faddr 0 (.t 14)) ::
oo 53 (.load1 (.t 52)) ::
oo 54 (.ixsl 4 (.t 51) (.t 53)) ::
oo 55 (.loadn 4 (.t 54)) ::
oc 56 58 [(.t 55)] ::
oo 57 (.fieldn 4 3 (.t 56)) ::
oo 15 (.alloc [k0, k0, k0] 80) ::
oz (.store 3 (.t 15) (.t 57)) :: [])) (.seq (.seq (.reg (
 oo 58 (.faddr 1 (.t 14)) ::
oo 59 (.load1 (.t 58)) :: [])) (.cond (.t 59) (.reg (
 oo 60 (.load1 (.t 4)) ::
oo 61 (.faddr 0 (.t 14)) ::
oo 62 (.load1 (.t 61)) ::
oo 63 (.ixsl 4 (.t 60) (.t 62)) ::
oo 64 (.loadn 4 (.t 63)) ::
oc 65 58 [(.t 64)] ::
oo 66 (.fieldn 7 3 (.t 65)) ::
oz (.store 3 (.t 15) (.t 66)) :: [])) .skip)) (.dreg (
 oo 67 (.loadn 3 (.t 12)) ::
oo 68 (.loadn 3 (.t 15)) ::
oo 69 (.faddr 2 (.t 14)) ::
oo 70 (.load1 (.t 69)) ::
oc 71 60 [(.t 68), (.t 70)] ::
oo 72 (.bslice [k0, k0, k0, k0, k0, k0] [(0, 3, (.t 67)), (3, 3, (.t 71))] 2 80) ::
oc 73 59 [(.t 72)] ::
oz (.store 3 (.t 12) (.t 73)) :: []) []))))) (.reg (
 oo 74 (.int .add (.t 47) z1) ::
om 47 74 :: [])))))))) (.seq (.seq (.dreg (
 oo 75 (.loadn 3 (.t 12)) ::
om 76 1 ::
om 77 2 ::
oo 78 (.build [k0, k0, k0] [(0, 1, (.t 76)), (1, 1, (.t 77))]) ::
oo 79 (.faddr 1 (.t 7)) ::
oo 80 (.load1 (.t 79)) ::
oo 81 (.neg (.t 80)) ::
oc 82 60 [(.t 78), (.t 81)] ::
oo 83 (.bslice [k0, k0, k0, k0, k0, k0] [(0, 3, (.t 75)), (3, 3, (.t 82))] 2 80) ::
oc 84 59 [(.t 83)] ::
oc 85 61 [(.t 84)] ::
oo 86 (.build [k0, k0, k0] []) ::
oo 87 (.pure (rawOp Try.f26 18 12)) :: []) []) (.cond (.t 87) (.seq (.reg (
 oo 88 (.build [k0, k0] []) ::
oz (.store 2 (.t 8) (.t 88)) ::
oo 9 (.mv (.c (Value.int .i64 14))) :: [])) .ret) .skip)) (.seq (.reg (
 oo 89 (.ixarr 3 1 (.t 12) (.c (Value.int .i64 2))) ::
oo 90 (.load1 (.t 89)) ::
oo 91 (.faddr 1 (.t 7)) ::
oo 92 (.load1 (.t 91)) ::
oc 93 54 [(.t 90), (.t 92)] ::
oz (.store 2 (.t 8) (.t 93)) ::
oo 9 (.mv z0) :: [])) .ret))))))))
def r26 : List ResultVar := [.cell 8 38, .tmp 9]
theorem fun26 : Fun Try.prog 26 94 4 a26 r26 :=
  ⟨rfl, Try.f26, _, rfl, rfl, rfl, by decide, rfl, rfl, rfl⟩
noncomputable def a27 : ACode := (.seq (.reg (
 oo 6 (.mv (.c (Value.bool false))) :: [])) (.seq (.reg (
 om 7 0 ::
oc 8 14 [(.t 7)] ::
oo 9 (.int .eql (.t 8) z0) ::
om 10 9 ::
og 11 10 true (.mv (.t 1)) ::
ocg 12 10 true 32 [(.t 11)] ::
oo 13 (.pick (.t 10) (.t 12) (.c (Value.bool false))) ::
om 14 13 ::
og 15 14 true (.mv (.t 2)) ::
ocg 16 14 true 32 [(.t 15)] ::
oo 17 (.pick (.t 14) (.t 16) (.c (Value.bool false))) ::
om 6 17 :: [])) .ret))
def r27 : List ResultVar := [.tmp 6]
theorem fun27 : Fun Try.prog 27 18 3 a27 r27 :=
  ⟨rfl, Try.f27, _, rfl, rfl, rfl, by decide, rfl, rfl, rfl⟩
noncomputable def a28 : ACode := (.seq (.reg (
 oo 2 (.box (.t 0) 38) ::
oo 3 (.box (.t 1) 38) ::
oo 4 (.mv (.c (Value.bool false))) :: [])) (.seq (.seq (.reg (
 oo 10 (.faddr 1 (.t 2)) ::
oo 11 (.load1 (.t 10)) ::
oo 12 (.int .lss (.t 11) z1) ::
om 13 12 ::
og 14 13 false (.faddr 1 (.t 3)) ::
og 15 13 false (.load1 (.t 14)) ::
og 16 13 false (.int .lss (.t 15) z1) ::
oo 17 (.pick (.t 13) (.c (Value.bool true)) (.t 16)) :: [])) (.cond (.t 17) (.seq (.reg (
 oo 4 (.mv (.c (Value.bool false))) :: [])) .ret) .skip)) (.seq (.reg (
 oo 5 (.mv (.c (Value.bool false))) :: [])) (.block 0 (.loop (.block 1 (.seq (.dreg (
 oo 18 (.loadn 2 (.t 2)) ::
oc 19 62 [(.t 18)] ::
oo 20 (.loadn 2 (.t 3)) ::
oc 21 62 [(.t 20)] ::
om 6 19 ::
om 7 21 :: []) []) (.seq (.seq (.reg (
 om 22 6 ::
om 23 7 ::
oo 24 (.int .neq (.t 22) (.t 23)) :: [])) (.cond (.t 24) (.seq (.reg (
 om 25 6 ::
om 26 7 ::
oo 27 (.int .lss (.t 25) (.t 26)) ::
om 28 5 ::
oo 29 (.pure (rawOp Try.f28 6 4)) ::
om 4 29 :: [])) .ret) .skip)) (.seq (.dreg (
 oo 30 (.faddr 0 (.t 2)) ::
oo 31 (.load1 (.t 30)) ::
om 32 6 ::
oo 33 (.faddr 1 (.t 2)) ::
oo 34 (.load1 (.t 33)) ::
oo 35 (.int .mul (.t 32) (.t 34)) ::
oo 36 (.int .sub (.t 31) (.t 35)) ::
oo 37 (.faddr 0 (.t 3)) ::
oo 38 (.load1 (.t 37)) ::
om 39 7 ::
oo 40 (.faddr 1 (.t 3)) ::
oo 41 (.load1 (.t 40)) ::
oo 42 (.int .mul (.t 39) (.t 41)) ::
oo 43 (.int .sub (.t 38) (.t 42)) ::
om 8 36 ::
om 9 43 :: []) []) (.seq (.seq (.reg (
 om 44 8 ::
oo 45 (.int .eql (.t 44) z0) ::
om 46 45 ::
og 47 46 false (.mv (.t 9)) ::
og 48 46 false (.int .eql (.t 47) z0) ::
oo 49 (.pick (.t 46) (.c (Value.bool true)) (.t 48)) :: [])) (.cond (.t 49) (.seq (.reg (
 om 50 8 ::
om 51 9 ::
oo 52 (.int .neq (.t 50) (.t 51)) ::
om 53 52 ::
og 54 53 true (.mv (.t 8)) ::
og 55 53 true (.int .eql (.t 54) z0) ::
og 56 53 true (.mv (.t 5)) ::
og 57 53 true (.pure (rawOp Try.f28 9 7)) ::
oo 58 (.pick (.t 53) (.t 57) (.c (Value.bool false))) ::
om 4 58 :: [])) .ret) .skip)) (.seq (.dreg (
 oo 59 (.faddr 1 (.t 2)) ::
oo 60 (.load1 (.t 59)) ::
om 61 8 ::
oo 62 (.build [k0, k0] [(0, 1, (.t 60)), (1, 1, (.t 61))]) ::
oo 63 (.faddr 1 (.t 3)) ::
oo 64 (.load1 (.t 63)) ::
om 65 9 ::
oo 66 (.build [k0, k0] [(0, 1, (.t 64)), (1, 1, (.t 65))]) ::
oz (.store 2 (.t 2) (.t 62)) ::
oz (.store 2 (.t 3) (.t 66)) :: []) [((.t 63), (.t 2))]) (.reg (
 om 67 5 ::
oo 68 (.not (.t 67)) ::
om 5 68 :: [])))))))))))))
def r28 : List ResultVar := [.tmp 4]
theorem fun28 : Fun Try.prog 28 69 2 a28 r28 :=
  ⟨rfl, Try.f28, _, rfl, rfl, rfl, by decide, rfl, rfl, rfl⟩
noncomputable def a30 : ACode := (.seq (.reg (
 oo 2 (.alloc [k0, k0] 38) :: [])) (.seq (.reg (
 om 3 0 ::
oo 4 (.build [k0, k0] [(0, 1, (.t 3)), (1, 1, z1)]) ::
oz (.store 2 (.t 2) (.t 4)) :: [])) .ret))
def r30 : List ResultVar := [.cell 2 38]
theorem fun30 : Fun Try.prog 30 5 1 a30 r30 :=
  ⟨rfl, Try.f30, _, rfl, rfl, rfl, by decide, rfl, rfl, rfl⟩
noncomputable def a32 : ACode := (.seq (.reg (
 oo 2 (.mv (.c (Value.bool false))) :: [])) (.seq (.reg (
 om 3 0 ::
oo 4 (.int .geq (.t 3) (.c (Value.int .i64 (-20)))) ::
om 5 4 ::
og 6 5 true (.mv (.t 0)) ::
og 7 5 true (.int .leq (.t 6) (.c (Value.int .i64 20))) ::
oo 8 (.pick (.t 5) (.t 7) (.c (Value.bool false))) ::
om 2 8 :: [])) .ret))
def r32 : List ResultVar := [.tmp 2]
theorem fun32 : Fun Try.prog 32 9 1 a32 r32 :=
  ⟨rfl, Try.f32, _, rfl, rfl, rfl, by decide, rfl, rfl, rfl⟩
noncomputable def a33 : ACode := (.seq (.reg (
 oo 4 (.alloc [k0, k0] 38) :: [])) (.seq (.reg (
 om 6 0 ::
oc 7 64 [(.t 6)] ::
om 8 1 ::
oc 9 63 [(.t 7), (.t 8)] ::
om 5 9 :: [])) (.seq (.dreg (
 om 10 0 ::
om 11 5 ::
oo 12 (.idiv true (.t 10) (.t 11)) ::
om 13 1 ::
om 14 5 ::
oo 15 (.idiv true (.t 13) (.t 14)) ::
oo 16 (.build [k0, k0] [(0, 1, (.t 12)), (1, 1, (.t 15))]) ::
oz (.store 2 (.t 4) (.t 16)) :: []) []) .ret)))
def r33 : List ResultVar := [.cell 4 38]
theorem fun33 : Fun Try.prog 33 17 2 a33 r33 :=
  ⟨rfl, Try.f33, _, rfl, rfl, rfl, by decide, rfl, rfl, rfl⟩
noncomputable def a34 : ACode := (.seq (.reg (
 oo 0 (.mv (.c (Value.slice none 0 0))) :: [])) (.seq (.reg (
 oo 1 (.build [k0, k0] [(0, 1, (.c (Value.int .i64 10))), (1, 1, (.c (Value.int .i64 12)))]) ::
oo 2 (.build [k0, k0, k0, k0] [(0, 1, z1), (1, 1, z1), (2, 2, (.t 1))]) ::
oo 3 (.build [k0, k0] [(0, 1, (.c (Value.int .i64 14))), (1, 1, (.c (Value.int .i64 15)))]) ::
oo 4 (.build [k0, k0, k0, k0] [(0, 1, z1), (1, 1, (.c (Value.int .i64 2))), (2, 2, (.t 3))]) ::
oo 5 (.bslice [k0, k0, k0, k0, k0, k0, k0, k0] [(0, 4, (.t 2)), (4, 4, (.t 4))] 2 56) ::
om 0 5 :: [])) .ret))
def r34 : List ResultVar := [.tmp 0]
theorem fun34 : Fun Try.prog 34 6 0 a34 r34 :=
  ⟨rfl, Try.f34, _, rfl, rfl, rfl, by decide, rfl, rfl, rfl⟩
noncomputable def a35 : ACode := (.seq (.reg (
 oo 8 (.mv z0) ::
oo 9 (.alloc [k0, k0] 38) ::
oo 10 (.mv z0) :: [])) (.seq (.seq (.reg (
 om 30 0 ::
om 31 1 ::
om 32 2 ::
oc 33 55 [(.t 30), (.t 31), (.t 32)] ::
om 11 33 :: [])) (.seq (.reg (
 om 34 11 ::
oo 35 (.int .neq (.t 34) z0) :: [])) (.cond (.t 35) (.seq (.reg (
 oo 36 (.build [k0, k0] []) ::
om 37 11 ::
oo 8 (.mv z0) ::
oz (.store 2 (.t 9) (.t 36)) ::
om 10 37 :: [])) .ret) .skip))) (.seq (.block 0 (.seq (.reg (
 om 39 3 ::
oo 40 (.len (.t 39)) ::
oo 41 (.int .eql (.t 40) z0) ::
om 42 41 ::
og 43 42 false (.mv (.t 3)) ::
og 44 42 false (.len (.t 43)) ::
og 45 42 false (.int .gtr (.t 44) (.c (Value.int .i64 8))) ::
oo 46 (.pick (.t 42) (.c (Value.bool true)) (.t 45)) ::
om 38 46 :: [])) (.cond (.t 38) (.seq (.reg (
 oo 47 (.build [k0, k0] []) ::
oo 8 (.mv z0) ::
oz (.store 2 (.t 9) (.t 47)) ::
oo 10 (.mv (.c (Value.int .i64 6))) :: [])) .ret) (.seq (.reg (
 om 49 3 ::
oc 50 65 [(.t 49), (.c (Value.func (.func 66) #[] #[]))] ::
om 48 50 :: [])) (.cond (.t 48) (.seq (.reg (
 oo 51 (.build [k0, k0] []) ::
oo 8 (.mv z0) ::
oz (.store 2 (.t 9) (.t 51)) ::
oo 10 (.mv (.c (Value.int .i64 2))) :: [])) .ret) .skip))))) (.seq (.seq (.reg (
 om 53 0 ::
oc 54 45 [(.t 53)] ::
oc 55 46 [(.t 54)] ::
om 52 55 ::
oo 56 (.extract (.t 52) 0) ::
oo 57 (.extract (.t 52) 1) ::
oo 12 (.alloc [Value.map none, k0, k0, k0, k0] 82) ::
oz (.store 5 (.t 12) (.t 56)) ::
om 13 57 :: [])) (.seq (.reg (
 om 58 13 :: [])) (.cond (.t 58) (.seq (.reg (
 oo 59 (.build [k0, k0] []) ::
oo 8 (.mv z0) ::
oz (.store 2 (.t 9) (.t 59)) ::
oo 10 (.mv (.c (Value.int .i64 20))) :: [])) .ret) .skip))) (.seq (.reg (
 oo 60 (.bslice [] [] 0 3) ::
om 14 60 :: [])) (.seq (.reg (
 oo 61 (.mkmap) ::
oo 15 (.alloc [Value.map none] 114) ::
oz (.store 1 (.t 15) (.t 61)) :: [])) (.seq (.seq (.reg (
 om 62 3 ::
oo 63 (.len (.t 62)) ::
oo 64 (.mv z0) :: [])) (.block 1 (.loop (.seq (.reg (
 oo 65 (.int .lss (.t 64) (.t 63)) :: [])) (.seq (.cond (.t 65) .skip (.exit 1)) (.seq (.block 2 (.seq (.reg (
 om 66 64 ::
oo 67 (.ixsl 3 (.t 62) (.t 64)) ::
oo 68 (.loadn 3 (.t 67)) ::
oo 17 (.alloc [k0, k0, Value.slice none 0 0] 111) ::
om 16 66 ::
oz (.store 3 (.t 17) (.t 68)) :: [])) (.seq (.seq (.reg (
 oo 69 (.faddr 2 (.t 17)) ::
oo 70 (.load1 (.t 69)) ::
oo 71 (.len (.t 70)) ::
oo 72 (.mv z0) :: [])) (.block 3 (.loop (.seq (.reg (
 oo 73 (.int .lss (.t 72) (.t 71)) :: [])) (.seq (.cond (.t 73) .skip (.exit 3)) (.seq (.block 4 (.seq (.reg (
 oo 74 (.ixsl 2 (.t 70) (.t 72)) ::
oo 75 (.loadn 2 (.t 74)) ::
oo 19 (.alloc [k0, k0] 54) ::
oz (.store 2 (.t 19) (.t 75)) :: [])) (.seq (.dreg (
 om 76 0 ::
om 77 0 ::
oo 78 (.len (.t 77)) ::
om 79 0 ::
oo 80 (.len (.t 79)) ::
oo 81 (.slsl 4 (.t 76) none (some (.t 78)) (some (.t 80))) ::
oo 82 (.faddr 0 (.t 17)) ::
oo 83 (.load1 (.t 82)) ::
oo 84 (.faddr 1 (.t 17)) ::
oo 85 (.load1 (.t 84)) ::
oo 86 (.loadn 2 (.t 19)) ::
oo 87 (.build [k0, k0, k0, k0] [(0, 1, (.t 83)), (1, 1, (.t 85)), (2, 2, (.t 86))]) ::
oo 88 (.bslice [k0, k0, k0, k0] [(0, 4, (.t 87))] 1 56) ::
oo 89 (.append 56 4 32 (.t 81) (.t 88)) ::
oc 90 45 [(.t 89)] ::
om 20 90 :: []) []) (.seq (.seq (.reg (
 om 92 20 ::
oc 93 46 [(.t 92)] ::
om 91 93 ::
oo 94 (.extract (.t 91) 0) ::
oo 95 (.extract (.t 91) 1) ::
oo 21 (.alloc [Value.map none, k0, k0, k0, k0] 82) ::
oz (.store 5 (.t 21) (.t 94)) ::
om 22 95 :: [])) (.seq (.reg (
 om 96 22 :: [])) (.cond (.t 96) (.exit 4) .skip))) (.seq (.reg (
 om 98 20 ::
om 99 1 ::
om 100 2 ::
oc 101 68 [(.t 98), (.t 99), (.t 100)] ::
om 97 101 ::
oo 102 (.extract (.t 97) 0) ::
oo 103 (.extract (.t 97) 1) ::
oo 23 (.alloc [k0, k0] 38) ::
oz (.store 2 (.t 23) (.t 102)) ::
om 24 103 :: [])) (.seq (.seq (.reg (
 om 104 24 ::
oo 105 (.not (.t 104)) :: [])) (.cond (.t 105) (.seq (.reg (
 oo 106 (.build [k0, k0] []) ::
oo 8 (.mv z0) ::
oz (.store 2 (.t 9) (.t 106)) ::
oo 10 (.mv (.c (Value.int .i64 5))) :: [])) .ret) .skip)) (.seq (.reg (
 oo 108 (.load1 (.t 15)) ::
om 109 16 ::
oo 110 (.lookup 3 (Value.agg #[k0, k0]) true (.t 108) (.t 109)) ::
om 107 110 ::
oo 111 (.extract (.t 107) 0) ::
oo 112 (.extract (.t 107) 1) ::
oo 25 (.alloc [k0, k0] 38) ::
oz (.store 2 (.t 25) (.t 111)) ::
om 26 112 :: [])) (.seq (.reg (
 om 113 26 ::
oo 114 (.not (.t 113)) ::
om 115 114 ::
og 116 115 false (.loadn 2 (.t 25)) ::
og 117 115 false (.loadn 2 (.t 23)) ::
ocg 118 115 false 69 [(.t 116), (.t 117)] ::
oo 119 (.pick (.t 115) (.c (Value.bool true)) (.t 118)) :: [])) (.cond (.t 119) (.reg (
 oo 120 (.load1 (.t 15)) ::
om 121 16 ::
oo 122 (.loadn 2 (.t 23)) ::
oz (.mapup 3 (.t 120) (.t 121) (.t 122)) :: [])) .skip))))))))) (.reg (
 oo 123 (.int .add (.t 72) z1) ::
om 72 123 :: [])))))))) (.seq (.reg (
 oo 125 (.load1 (.t 15)) ::
om 126 16 ::
oo 127 (.lookup 3 (Value.agg #[k0, k0]) true (.t 125) (.t 126)) ::
om 124 127 ::
oo 128 (.extract (.t 124) 0) ::
oo 129 (.extract (.t 124) 1) ::
oo 27 (.alloc [k0, k0] 38) ::
oz (.store 2 (.t 27) (.t 128)) ::
om 28 129 :: [])) (.seq (.reg (
 om 130 28 :: [])) (.cond (.t 130) (.reg (
 om 131 14 ::
om 132 16 ::
oo 133 (.bslice [k0] [(0, 1, (.t 132))] 1 3) ::
oo 134 (.append 3 1 8 (.t 131) (.t 133)) ::
om 14 134 :: [])) .skip)))))) (.reg (
 oo 135 (.int .add (.t 64) z1) ::
om 64 135 :: [])))))))) (.seq (.seq (.reg (
 om 136 14 ::
oo 137 (.len (.t 136)) ::
oo 138 (.int .eql (.t 137) z0) :: [])) (.cond (.t 138) (.seq (.reg (
 oo 139 (.build [k0, k0] []) ::
oo 8 (.mv z0) ::
oz (.store 2 (.t 9) (.t 139)) ::
oo 10 (.mv (.c (Value.int .i64 5))) :: [])) .ret) .skip)) (.seq (.reg (
 om 140 14 ::
oo 141 (.mkfn (Fn.func 71) [] [(.t 15)]) ::
oc 142 70 [(.t 140), (.t 141)] ::
om 29 142 :: [])) (.seq (.dreg (
 om 143 29 ::
oo 144 (.load1 (.t 15)) ::
om 145 29 ::
oo 146 (.lookup 3 (Value.agg #[k0, k0]) false (.t 144) (.t 145)) ::
om 8 143 ::
oz (.store 2 (.t 9) (.t 146)) ::
oo 10 (.mv z0) :: []) []) .ret))))))))))
def r35 : List ResultVar := [.tmp 8, .cell 9 38, .tmp 10]
theorem fun35 : Fun Try.prog 35 147 4 a35 r35 :=
  ⟨rfl, Try.f35, _, rfl, rfl, rfl, by decide, rfl, rfl, rfl⟩
noncomputable def a36 : ACode := (.seq (.reg (
 oo 0 (.mv (.c (Value.slice none 0 0))) :: [])) (.seq (.reg (
 oo 1 (.build [k0, k0] [(0, 1, (.c (Value.int .i64 5))), (1, 1, (.c (Value.int .i64 6)))]) ::
oo 2 (.build [k0, k0] [(0, 1, (.c (Value.int .i64 8))), (1, 1, (.c (Value.int .i64 9)))]) ::
oo 3 (.bslice [k0, k0, k0, k0] [(0, 2, (.t 1)), (2, 2, (.t 2))] 2 54) ::
oo 4 (.build [k0, k0, Value.slice none 0 0] [(0, 1, z1), (2, 1, (.t 3))]) ::
oo 5 (.build [k0, k0] [(0, 1, (.c (Value.int .i64 16))), (1, 1, (.c (Value.int .i64 16)))]) ::
oo 6 (.build [k0, k0] [(0, 1, (.c (Value.int .i64 20))), (1, 1, (.c (Value.int .i64 20)))]) ::
oo 7 (.bslice [k0, k0, k0, k0] [(0, 2, (.t 5)), (2, 2, (.t 6))] 2 54) ::
oo 8 (.build [k0, k0, Value.slice none 0 0] [(0, 1, z1), (1, 1, (.c (Value.int .i64 3))), (2, 1, (.t 7))]) ::
oo 9 (.bslice [k0, k0, Value.slice none 0 0, k0, k0, Value.slice none 0 0] [(0, 3, (.t 4)), (3, 3, (.t 8))] 2 111) ::
om 0 9 :: [])) .ret))
def r36 : List ResultVar := [.tmp 0]
theorem fun36 : Fun Try.prog 36 10 0 a36 r36 :=
  ⟨rfl, Try.f36, _, rfl, rfl, rfl, by decide, rfl, rfl, rfl⟩
noncomputable def a37 : ACode := (.seq (.reg (
 oo 4 (.mv (.c (Value.bool false))) :: [])) (.seq (.reg (
 om 5 0 ::
om 6 1 ::
oc 7 72 [(.t 5), (.t 6)] ::
oo 8 (.int .geq (.t 7) z0) ::
om 4 8 :: [])) .ret))
def r37 : List ResultVar := [.tmp 4]
theorem fun37 : Fun Try.prog 37 9 2 a37 r37 :=
  ⟨rfl, Try.f37, _, rfl, rfl, rfl, by decide, rfl, rfl, rfl⟩
noncomputable def a38 : ACode := (.seq (.reg (
 oo 1 (.box (.t 0) 56) ::
oo 2 (.mv (.c (Value.bool false))) :: [])) (.seq (.reg (
 oo 3 (.loadn 4 (.t 1)) ::
oc 4 39 [(.t 3)] ::
oo 5 (.not (.t 4)) ::
om 2 5 :: [])) .ret))
def r38 : List ResultVar := [.tmp 2]
theorem fun38 : Fun Try.prog 38 6 1 a38 r38 :=
  ⟨rfl, Try.f38, _, rfl, rfl, rfl, by decide, rfl, rfl, rfl⟩
noncomputable def a39 : ACode := (.seq (.reg (
 oo 1 (.box (.t 0) 56) ::
oo 2 (.mv (.c (Value.bool false))) :: [])) (.seq (.reg (
 oo 3 (.faddr 0 (.t 1)) ::
oo 4 (.load1 (.t 3)) ::
oo 5 (.faddr 1 (.t 1)) ::
oo 6 (.load1 (.t 5)) ::
oo 7 (.bslice [k0, k0] [(0, 1, (.t 4)), (1, 1, (.t 6))] 2 2) ::
oc 8 73 [(.t 7)] ::
om 9 8 ::
og 10 9 true (.faddr 0 (.t 1)) ::
og 11 9 true (.load1 (.t 10)) ::
og 12 9 true (.int .neq (.t 11) z0) ::
og 13 9 true (.mv (.t 12)) ::
og 14 13 false (.faddr 1 (.t 1)) ::
og 15 13 false (.load1 (.t 14)) ::
og 16 13 false (.int .neq (.t 15) z0) ::
og 17 9 true (.pick (.t 13) (.c (Value.bool true)) (.t 16)) ::
oo 18 (.pick (.t 9) (.t 17) (.c (Value.bool false))) ::
om 19 18 ::
og 20 19 true (.faddr 2 (.t 1)) ::
og 21 19 true (.faddr 0 (.t 20)) ::
og 22 19 true (.load1 (.t 21)) ::
og 23 19 true (.faddr 2 (.t 1)) ::
og 24 19 true (.faddr 1 (.t 23)) ::
og 25 19 true (.load1 (.t 24)) ::
og 26 19 true (.int .leq (.t 22) (.t 25)) ::
oo 27 (.pick (.t 19) (.t 26) (.c (Value.bool false))) ::
om 28 27 ::
og 29 28 true (.faddr 2 (.t 1)) ::
og 30 28 true (.faddr 0 (.t 29)) ::
og 31 28 true (.load1 (.t 30)) ::
og 32 28 true (.faddr 2 (.t 1)) ::
og 33 28 true (.faddr 1 (.t 32)) ::
og 34 28 true (.load1 (.t 33)) ::
og 35 28 true (.bslice [k0, k0] [(0, 1, (.t 31)), (1, 1, (.t 34))] 2 2) ::
ocg 36 28 true 42 [(.c (Value.int .i64 (-100000))), (.c (Value.int .i64 100000)), (.t 35)] ::
oo 37 (.pick (.t 28) (.t 36) (.c (Value.bool false))) ::
om 2 37 :: [])) .ret))
def r39 : List ResultVar := [.tmp 2]
theorem fun39 : Fun Try.prog 39 38 1 a39 r39 :=
  ⟨rfl, Try.f39, _, rfl, rfl, rfl, by decide, rfl, rfl, rfl⟩
noncomputable def a40 : ACode := (.seq (.reg (
 oo 2 (.mv (.c (Value.bool false))) :: [])) (.seq (.reg (
 om 3 0 ::
oo 4 (.int .geq (.t 3) (.c (Value.int .i64 (-20)))) ::
om 5 4 ::
og 6 5 true (.mv (.t 0)) ::
og 7 5 true (.int .leq (.t 6) (.c (Value.int .i64 20))) ::
oo 8 (.pick (.t 5) (.t 7) (.c (Value.bool false))) ::
om 2 8 :: [])) .ret))
def r40 : List ResultVar := [.tmp 2]
theorem fun40 : Fun Try.prog 40 9 1 a40 r40 :=
  ⟨rfl, Try.f40, _, rfl, rfl, rfl, by decide, rfl, rfl, rfl⟩
noncomputable def a41 : ACode := (.seq (.reg (
 oo 1 (.box (.t 0) 54) ::
oo 2 (.mv (.c (Value.bool false))) :: [])) (.seq (.reg (
 oo 3 (.faddr 0 (.t 1)) ::
oo 4 (.load1 (.t 3)) ::
oo 5 (.int .geq (.t 4) (.c (Value.int .i64 (-100000)))) ::
om 6 5 ::
og 7 6 true (.faddr 0 (.t 1)) ::
og 8 6 true (.load1 (.t 7)) ::
og 9 6 true (.faddr 1 (.t 1)) ::
og 10 6 true (.load1 (.t 9)) ::
og 11 6 true (.int .leq (.t 8) (.t 10)) ::
oo 12 (.pick (.t 6) (.t 11) (.c (Value.bool false))) ::
om 13 12 ::
og 14 13 true (.faddr 1 (.t 1)) ::
og 15 13 true (.load1 (.t 14)) ::
og 16 13 true (.int .leq (.t 15) (.c (Value.int .i64 100000))) ::
oo 17 (.pick (.t 13) (.t 16) (.c (Value.bool false))) ::
om 2 17 :: [])) .ret))
def r41 : List ResultVar := [.tmp 2]
theorem fun41 : Fun Try.prog 41 18 1 a41 r41 :=
  ⟨rfl, Try.f41, _, rfl, rfl, rfl, by decide, rfl, rfl, rfl⟩
noncomputable def a42 : ACode := (.seq (.reg (
 oo 3 (.box (.t 0) 2) ::
oo 4 (.box (.t 1) 2) ::
oo 6 (.mv (.c (Value.bool false))) :: [])) (.seq (.reg (
 om 7 2 ::
oo 8 (.mkfn (Fn.func 75) [] [(.t 3), (.t 4)]) ::
oc 9 74 [(.t 7), (.t 8)] ::
oo 10 (.not (.t 9)) ::
om 6 10 :: [])) .ret))
def r42 : List ResultVar := [.tmp 6]
theorem fun42 : Fun Try.prog 42 11 3 a42 r42 :=
  ⟨rfl, Try.f42, _, rfl, rfl, rfl, by decide, rfl, rfl, rfl⟩
noncomputable def a43 : ACode := (.seq (.reg (
 oo 1 (.box (.t 0) 24) ::
oo 2 (.mv (.c (Value.bool false))) :: [])) (.seq (.reg (
 oo 3 (.faddr 2 (.t 1)) ::
oo 4 (.load1 (.t 3)) ::
oo 5 (.int .geq (.t 4) z1) ::
om 6 5 ::
og 7 6 true (.faddr 2 (.t 1)) ::
og 8 6 true (.load1 (.t 7)) ::
og 9 6 true (.int .leq (.t 8) (.c (Value.int .i64 1099511627776))) ::
oo 10 (.pick (.t 6) (.t 9) (.c (Value.bool false))) ::
om 11 10 ::
og 12 11 true (.faddr 0 (.t 1)) ::
og 13 11 true (.load1 (.t 12)) ::
og 14 11 true (.int .geq (.t 13) (.c (Value.int .i64 (-1099511627776)))) ::
oo 15 (.pick (.t 11) (.t 14) (.c (Value.bool false))) ::
om 16 15 ::
og 17 16 true (.faddr 0 (.t 1)) ::
og 18 16 true (.load1 (.t 17)) ::
og 19 16 true (.int .leq (.t 18) (.c (Value.int .i64 1099511627776))) ::
oo 20 (.pick (.t 16) (.t 19) (.c (Value.bool false))) ::
om 21 20 ::
og 22 21 true (.faddr 1 (.t 1)) ::
og 23 21 true (.load1 (.t 22)) ::
og 24 21 true (.int .geq (.t 23) (.c (Value.int .i64 (-1099511627776)))) ::
oo 25 (.pick (.t 21) (.t 24) (.c (Value.bool false))) ::
om 26 25 ::
og 27 26 true (.faddr 1 (.t 1)) ::
og 28 26 true (.load1 (.t 27)) ::
og 29 26 true (.int .leq (.t 28) (.c (Value.int .i64 1099511627776))) ::
oo 30 (.pick (.t 26) (.t 29) (.c (Value.bool false))) ::
om 2 30 :: [])) .ret))
def r43 : List ResultVar := [.tmp 2]
theorem fun43 : Fun Try.prog 43 31 1 a43 r43 :=
  ⟨rfl, Try.f43, _, rfl, rfl, rfl, by decide, rfl, rfl, rfl⟩
noncomputable def a44 : ACode := (.seq (.reg (
 oo 3 (.box (.t 1) 24) ::
oo 4 (.mv (.c (Value.bool false))) :: [])) (.seq (.seq (.reg (
 oo 5 (.mv z0) :: [])) (.block 0 (.loop (.seq (.seq (.reg (
 om 7 5 ::
om 8 0 ::
oo 9 (.len (.t 8)) ::
oo 10 (.int .lss (.t 7) (.t 9)) :: [])) (.cond (.t 10) .skip (.exit 0))) (.seq (.block 1 (.seq (.dreg (
 om 13 0 ::
om 14 5 ::
oo 15 (.ixsl 4 (.t 13) (.t 14)) ::
oo 16 (.faddr 0 (.t 15)) ::
oo 17 (.load1 (.t 16)) ::
oo 18 (.faddr 0 (.t 3)) ::
oo 19 (.load1 (.t 18)) ::
oo 20 (.int .mul (.t 17) (.t 19)) ::
om 21 0 ::
om 22 5 ::
oo 23 (.ixsl 4 (.t 21) (.t 22)) ::
oo 24 (.faddr 1 (.t 23)) ::
oo 25 (.load1 (.t 24)) ::
oo 26 (.faddr 1 (.t 3)) ::
oo 27 (.load1 (.t 26)) ::
oo 28 (.int .mul (.t 25) (.t 27)) ::
oo 29 (.int .add (.t 20) (.t 28)) ::
om 6 29 :: []) []) (.seq (.dreg (
 om 30 6 ::
om 31 0 ::
om 32 5 ::
oo 33 (.ixsl 4 (.t 31) (.t 32)) ::
oo 34 (.faddr 2 (.t 33)) ::
oo 35 (.faddr 0 (.t 34)) ::
oo 36 (.load1 (.t 35)) ::
oo 37 (.faddr 2 (.t 3)) ::
oo 38 (.load1 (.t 37)) ::
oo 39 (.int .mul (.t 36) (.t 38)) ::
oo 40 (.int .lss (.t 30) (.t 39)) ::
om 41 40 ::
og 42 41 false (.mv (.t 6)) ::
og 43 41 false (.mv (.t 0)) ::
og 44 41 false (.mv (.t 5)) ::
og 45 41 false (.ixsl 4 (.t 43) (.t 44)) ::
og 46 41 false (.faddr 2 (.t 45)) ::
og 47 41 false (.faddr 1 (.t 46)) ::
og 48 41 false (.load1 (.t 47)) ::
og 49 41 false (.faddr 2 (.t 3)) ::
og 50 41 false (.load1 (.t 49)) ::
og 51 41 false (.int .mul (.t 48) (.t 50)) ::
og 52 41 false (.int .gtr (.t 42) (.t 51)) ::
oo 53 (.pick (.t 41) (.c (Value.bool true)) (.t 52)) :: []) []) (.cond (.t 53) (.seq (.reg (
 oo 4 (.mv (.c (Value.bool false))) :: [])) .ret) .skip)))) (.reg (
 om 11 5 ::
oo 12 (.int .add (.t 11) z1) ::
om 5 12 :: []))))))) (.seq (.reg (
 oo 4 (.mv (.c (Value.bool true))) :: [])) .ret)))
def r44 : List ResultVar := [.tmp 4]
theorem fun44 : Fun Try.prog 44 54 2 a44 r44 :=
  ⟨rfl, Try.f44, _, rfl, rfl, rfl, by decide, rfl, rfl, rfl⟩
noncomputable def a45 : ACode := (.seq (.reg (
 oo 2 (.mv (.c (Value.pointer none))) :: [])) (.seq (.reg (
 oo 7 (.build [Value.slice none 0 0, Value.slice none 0 0] []) ::
oo 8 (.box (.t 7) 125) ::
om 3 8 :: [])) (.seq (.seq (.reg (
 om 9 0 ::
oo 10 (.len (.t 9)) ::
oo 11 (.mv z0) :: [])) (.block 0 (.loop (.seq (.reg (
 oo 12 (.int .lss (.t 11) (.t 10)) :: [])) (.seq (.cond (.t 12) .skip (.exit 0)) (.seq (.block 1 (.seq (.reg (
 oo 13 (.ixsl 4 (.t 9) (.t 11)) ::
oo 14 (.loadn 4 (.t 13)) ::
oo 5 (.alloc [k0, k0, k0, k0] 56) ::
oz (.store 4 (.t 5) (.t 14)) :: [])) (.seq (.reg (
 oo 15 (.loadn 4 (.t 5)) ::
oc 16 58 [(.t 15)] ::
oo 6 (.alloc [k0, k0, k0, k0, k0, k0, k0, k0, k0, k0] 100) ::
oz (.store 10 (.t 6) (.t 16)) :: [])) (.seq (.dreg (
 om 17 3 ::
om 18 3 ::
oo 19 (.nilck (.t 18)) ::
oo 20 (.faddr 0 (.t 19)) ::
oo 21 (.load1 (.t 20)) ::
oo 22 (.loadn 10 (.t 6)) ::
oo 23 (.bslice [k0, k0, k0, k0, k0, k0, k0, k0, k0, k0] [(0, 10, (.t 22))] 1 100) ::
oo 24 (.append 100 10 80 (.t 21) (.t 23)) ::
oo 25 (.nilck (.t 17)) ::
oo 26 (.faddr 0 (.t 25)) ::
oz (.store 1 (.t 26) (.t 24)) :: []) []) (.dreg (
 om 27 3 ::
om 28 3 ::
oo 29 (.nilck (.t 28)) ::
oo 30 (.faddr 1 (.t 29)) ::
oo 31 (.load1 (.t 30)) ::
oo 32 (.faddr 4 (.t 6)) ::
oo 33 (.loadn 3 (.t 32)) ::
oo 34 (.faddr 7 (.t 6)) ::
oo 35 (.loadn 3 (.t 34)) ::
oo 36 (.bslice [k0, k0, k0, k0, k0, k0] [(0, 3, (.t 33)), (3, 3, (.t 35))] 2 80) ::
oo 37 (.append 80 3 24 (.t 31) (.t 36)) ::
oo 38 (.nilck (.t 27)) ::
oo 39 (.faddr 1 (.t 38)) ::
oz (.store 1 (.t 39) (.t 37)) :: []) []))))) (.reg (
 oo 40 (.int .add (.t 11) z1) ::
om 11 40 :: [])))))))) (.seq (.reg (
 om 41 3 ::
om 2 41 :: [])) .ret))))
def r45 : List ResultVar := [.tmp 2]
theorem fun45 : Fun Try.prog 45 42 1 a45 r45 :=
  ⟨rfl, Try.f45, _, rfl, rfl, rfl, by decide, rfl, rfl, rfl⟩
noncomputable def a46A0 : ACode := (.reg (
 om 6 10 :: []))
noncomputable def a46B0 : ACode := (.block 1 (.seq (.reg (
 oo 11 (.load1 (.t 1)) ::
om 12 6 ::
oc 13 77 [(.t 11), (.t 12)] ::
oo 7 (.alloc [Value.map none, k0, k0, k0, k0] 82) ::
oz (.store 5 (.t 7) (.t 13)) :: [])) (.seq (.reg (
 oo 14 (.faddr 4 (.t 7)) ::
oo 15 (.load1 (.t 14)) ::
oo 16 (.int .eql (.t 15) z1) ::
om 17 16 ::
og 18 17 true (.faddr 1 (.t 7)) ::
og 19 17 true (.loadn 3 (.t 18)) ::
ocg 20 17 true 61 [(.t 19)] ::
og 21 17 true (.build [k0, k0, k0] []) ::
og 22 17 true (.pure (rawOp Try.f46 6 8)) ::
oo 23 (.pick (.t 17) (.t 22) (.c (Value.bool false))) ::
om 24 23 ::
og 25 24 true (.faddr 1 (.t 7)) ::
og 26 24 true (.ixarr 3 1 (.t 25) (.c (Value.int .i64 2))) ::
og 27 24 true (.load1 (.t 26)) ::
og 28 24 true (.int .gtr (.t 27) z0) ::
oo 29 (.pick (.t 24) (.t 28) (.c (Value.bool false))) :: [])) (.cond (.t 29) (.seq (.reg (
 oo 30 (.loadn 5 (.t 7)) ::
oz (.store 5 (.t 4) (.t 30)) ::
oz (.store 1 (.t 5) (.c (Value.bool true))) :: [])) (.exit 0)) .skip))))
theorem c46A0 : cCode Try.prog 33 false (rfAt Try.f46 0).1 = some a46A0 := rfl
theorem c46B0 : cCode Try.prog 33 false (rfAt Try.f46 0).2 = some a46B0 := rfl
noncomputable def a46 : ACode := (.seq (.reg (
 oo 1 (.box (.t 0) 84) ::
oo 2 (.alloc [Value.map none, k0, k0, k0, k0] 82) ::
oo 3 (.mv (.c (Value.bool false))) :: [])) (.seq (.reg (
 oo 4 (.alloc [Value.map none, k0, k0, k0, k0] 82) :: [])) (.seq (.reg (
 oo 5 (.alloc [Value.bool false] 4) ::
oz (.store 1 (.t 5) (.c (Value.bool false))) :: [])) (.seq .skip (.seq (.seq (.reg (
 oo 8 (.load1 (.t 1)) ::
oc 9 76 [(.t 8), (.c (Value.int .i64 3))] :: [])) (.block 0 (.range (.t 9) [10] 33 (rfAt Try.f46 0).1 (rfAt Try.f46 0).2 a46A0 a46B0))) (.seq (.dreg (
 oo 31 (.loadn 5 (.t 4)) ::
oo 32 (.load1 (.t 5)) ::
oz (.store 5 (.t 2) (.t 31)) ::
om 3 32 :: []) [((.t 5), (.t 2))]) .ret))))))
def r46 : List ResultVar := [.cell 2 82, .tmp 3]
theorem fun46 : Fun Try.prog 46 33 1 a46 r46 :=
  ⟨rfl, Try.f46, _, rfl, rfl, rfl, by decide, rfl, rfl, rfl⟩
noncomputable def a47 : ACode := (.seq (.reg (
 oo 1 (.box (.t 0) 82) ::
oo 2 (.alloc [Value.slice none 0 0, k0] 33) :: [])) (.seq (.reg (
 oo 10 (.faddr 4 (.t 1)) ::
oo 11 (.load1 (.t 10)) ::
oo 12 (.build [Value.slice none 0 0, k0] [(1, 1, (.t 11))]) ::
oo 3 (.alloc [Value.slice none 0 0, k0] 33) ::
oz (.store 2 (.t 3) (.t 12)) :: [])) (.seq (.seq (.reg (
 oo 13 (.faddr 0 (.t 1)) ::
oo 14 (.load1 (.t 13)) ::
oo 15 (.mrange (.t 14)) :: [])) (.block 0 (.loop (.seq (.next (.t 15) 16 17) (.seq (.cond (.t 17) .skip (.exit 0)) (.block 1 (.seq (.reg (
 oo 18 (.entry (.t 15)) ::
oo 19 (.extract (.t 18) 0) ::
oo 20 (.extract (.t 18) 1) ::
om 4 19 ::
om 5 20 :: [])) (.seq (.reg (
 om 21 5 ::
oo 22 (.int .eql (.t 21) z0) :: [])) (.cond (.t 22) (.reg (
 oo 23 (.faddr 0 (.t 1)) ::
oo 24 (.load1 (.t 23)) ::
om 25 4 ::
oz (.delete 3 (.t 24) (.t 25)) :: [])) .skip))))))))) (.seq (.reg (
 oo 6 (.mv (.c (Value.slice none 0 0))) :: [])) (.seq (.seq (.reg (
 oo 26 (.faddr 0 (.t 1)) ::
oo 27 (.load1 (.t 26)) ::
oo 28 (.mrange (.t 27)) :: [])) (.block 2 (.loop (.seq (.next (.t 28) 29 30) (.seq (.cond (.t 30) .skip (.exit 2)) (.block 3 (.seq (.reg (
 oo 31 (.entry (.t 28)) ::
oo 32 (.extract (.t 31) 0) ::
om 7 32 :: [])) (.reg (
 om 33 6 ::
om 34 7 ::
oo 35 (.bslice [k0] [(0, 1, (.t 34))] 1 3) ::
oo 36 (.append 3 1 8 (.t 33) (.t 35)) ::
om 6 36 :: []))))))))) (.seq (.reg (
 om 37 6 ::
oc 38 78 [(.t 37)] :: [])) (.seq (.seq (.reg (
 om 39 6 ::
oo 40 (.len (.t 39)) ::
oo 41 (.mv z0) :: [])) (.block 4 (.loop (.seq (.reg (
 oo 42 (.int .lss (.t 41) (.t 40)) :: [])) (.seq (.cond (.t 42) .skip (.exit 4)) (.seq (.block 5 (.seq (.reg (
 oo 43 (.ixsl 1 (.t 39) (.t 41)) ::
oo 44 (.load1 (.t 43)) ::
om 9 44 :: [])) (.reg (
 oo 45 (.faddr 0 (.t 3)) ::
oo 46 (.load1 (.t 45)) ::
om 47 9 ::
oo 48 (.idiv true (.t 47) (.c (Value.int .i64 2))) ::
om 49 9 ::
oo 50 (.idiv false (.t 49) (.c (Value.int .i64 2))) ::
oo 51 (.int .eql (.t 50) z1) ::
oo 52 (.faddr 0 (.t 1)) ::
oo 53 (.load1 (.t 52)) ::
om 54 9 ::
oo 55 (.lookup 3 (k0) false (.t 53) (.t 54)) ::
oo 56 (.build [k0, Value.bool false, k0] [(0, 1, (.t 48)), (1, 1, (.t 51)), (2, 1, (.t 55))]) ::
oo 57 (.bslice [k0, Value.bool false, k0] [(0, 3, (.t 56))] 1 72) ::
oo 58 (.append 72 3 24 (.t 46) (.t 57)) ::
oo 59 (.faddr 0 (.t 3)) ::
oz (.store 1 (.t 59) (.t 58)) :: [])))) (.reg (
 oo 60 (.int .add (.t 41) z1) ::
om 41 60 :: [])))))))) (.seq (.reg (
 oo 61 (.loadn 2 (.t 3)) ::
oz (.store 2 (.t 2) (.t 61)) :: [])) .ret))))))))
def r47 : List ResultVar := [.cell 2 33]
theorem fun47 : FunD Try.prog 47 62 1 a47 r47 :=
  ⟨rfl, Try.f47, _, rfl, rfl, rfl, by decide, rfl, rfl, rfl⟩
noncomputable def a49 : ACode := (.seq (.reg (
 oo 6 (.mv z0) :: [])) (.seq (.seq (.reg (
 om 7 0 ::
oc 8 14 [(.t 7)] ::
oo 9 (.int .neq (.t 8) z0) :: [])) (.cond (.t 9) (.seq (.reg (
 om 10 0 ::
oc 11 14 [(.t 10)] ::
om 6 11 :: [])) .ret) .skip)) (.seq (.seq (.reg (
 om 12 1 ::
oc 13 40 [(.t 12)] ::
oo 14 (.not (.t 13)) ::
om 15 14 ::
og 16 15 false (.mv (.t 2)) ::
ocg 17 15 false 40 [(.t 16)] ::
og 18 15 false (.not (.t 17)) ::
oo 19 (.pick (.t 15) (.c (Value.bool true)) (.t 18)) :: [])) (.cond (.t 19) (.seq (.reg (
 oo 6 (.mv (.c (Value.int .i64 3))) :: [])) .ret) .skip)) (.seq (.reg (
 oo 6 (.mv z0) :: [])) .ret))))
def r49 : List ResultVar := [.tmp 6]
theorem fun49 : Fun Try.prog 49 20 3 a49 r49 :=
  ⟨rfl, Try.f49, _, rfl, rfl, rfl, by decide, rfl, rfl, rfl⟩
noncomputable def a51 : ACode := (.seq (.reg (
 oo 6 (.alloc [Value.map none, k0, k0, k0, k0] 82) ::
oo 7 (.mv z0) :: [])) (.seq (.seq (.reg (
 om 14 0 ::
om 15 1 ::
om 16 2 ::
oc 17 55 [(.t 14), (.t 15), (.t 16)] ::
om 8 17 :: [])) (.seq (.reg (
 om 18 8 ::
oo 19 (.int .neq (.t 18) z0) :: [])) (.cond (.t 19) (.seq (.reg (
 oo 20 (.build [Value.map none, k0, k0, k0, k0] []) ::
om 21 8 ::
oz (.store 5 (.t 6) (.t 20)) ::
om 7 21 :: [])) .ret) .skip))) (.seq (.reg (
 om 22 0 ::
oc 23 45 [(.t 22)] ::
om 9 23 :: [])) (.seq (.seq (.reg (
 om 25 9 ::
oc 26 46 [(.t 25)] ::
om 24 26 ::
oo 27 (.extract (.t 24) 0) ::
oo 28 (.extract (.t 24) 1) ::
oo 10 (.alloc [Value.map none, k0, k0, k0, k0] 82) ::
oz (.store 5 (.t 10) (.t 27)) ::
om 11 28 :: [])) (.seq (.reg (
 om 29 11 :: [])) (.cond (.t 29) (.seq (.reg (
 oo 30 (.build [Value.map none, k0, k0, k0, k0] []) ::
oz (.store 5 (.t 6) (.t 30)) ::
oo 7 (.mv (.c (Value.int .i64 20))) :: [])) .ret) .skip))) (.seq (.reg (
 om 32 9 ::
om 33 1 ::
om 34 2 ::
oc 35 81 [(.t 32), (.t 33), (.t 34)] ::
om 31 35 ::
oo 36 (.extract (.t 31) 0) ::
oo 37 (.extract (.t 31) 1) ::
oo 12 (.alloc [Value.map none, k0, k0, k0, k0] 82) ::
oz (.store 5 (.t 12) (.t 36)) ::
om 13 37 :: [])) (.seq (.seq (.reg (
 om 38 13 ::
oo 39 (.not (.t 38)) :: [])) (.cond (.t 39) (.seq (.reg (
 oo 40 (.build [Value.map none, k0, k0, k0, k0] []) ::
oz (.store 5 (.t 6) (.t 40)) ::
oo 7 (.mv (.c (Value.int .i64 5))) :: [])) .ret) .skip)) (.seq (.reg (
 oo 41 (.loadn 5 (.t 12)) ::
oz (.store 5 (.t 6) (.t 41)) ::
oo 7 (.mv z0) :: [])) .ret)))))))
def r51 : List ResultVar := [.cell 6 82, .tmp 7]
theorem fun51 : Fun Try.prog 51 42 3 a51 r51 :=
  ⟨rfl, Try.f51, _, rfl, rfl, rfl, by decide, rfl, rfl, rfl⟩
noncomputable def a52 : ACode := (.seq (.reg (
 oo 1 (.box (.t 0) 82) ::
oo 2 (.alloc [k0, k0] 38) :: [])) (.seq (.reg (
 oo 3 (.faddr 1 (.t 1)) ::
oo 4 (.ixarr 3 1 (.t 3) (.c (Value.int .i64 2))) ::
oo 5 (.load1 (.t 4)) ::
oo 6 (.faddr 4 (.t 1)) ::
oo 7 (.load1 (.t 6)) ::
oc 8 54 [(.t 5), (.t 7)] ::
oz (.store 2 (.t 2) (.t 8)) :: [])) .ret))
def r52 : List ResultVar := [.cell 2 38]
theorem fun52 : Fun Try.prog 52 9 1 a52 r52 :=
  ⟨rfl, Try.f52, _, rfl, rfl, rfl, by decide, rfl, rfl, rfl⟩
noncomputable def a53 : ACode := (.seq (.reg (
 oo 1 (.box (.t 0) 84) ::
oo 2 (.mv (.c (Value.nilFunc))) :: [])) (.seq (.reg (
 oo 3 (.mkfn (Fn.func 82) [] [(.t 1)]) ::
om 2 3 :: [])) .ret))
def r53 : List ResultVar := [.tmp 2]
theorem fun53 : Fun Try.prog 53 4 1 a53 r53 :=
  ⟨rfl, Try.f53, _, rfl, rfl, rfl, by decide, rfl, rfl, rfl⟩
noncomputable def a54 : ACode := (.seq (.reg (
 oo 4 (.alloc [k0, k0] 38) :: [])) (.seq (.reg (
 om 6 0 ::
om 7 1 ::
oc 8 84 [(.t 6), (.t 7)] ::
om 5 8 :: [])) (.seq (.dreg (
 om 9 0 ::
om 10 5 ::
oo 11 (.idiv true (.t 9) (.t 10)) ::
om 12 1 ::
om 13 5 ::
oo 14 (.idiv true (.t 12) (.t 13)) ::
oo 15 (.build [k0, k0] [(0, 1, (.t 11)), (1, 1, (.t 14))]) ::
oz (.store 2 (.t 4) (.t 15)) :: []) []) .ret)))
def r54 : List ResultVar := [.cell 4 38]
theorem fun54 : Fun Try.prog 54 16 2 a54 r54 :=
  ⟨rfl, Try.f54, _, rfl, rfl, rfl, by decide, rfl, rfl, rfl⟩
noncomputable def a55 : ACode := (.seq (.reg (
 oo 6 (.mv z0) :: [])) (.seq (.seq (.reg (
 om 8 0 ::
oc 9 13 [(.t 8)] ::
om 7 9 :: [])) (.seq (.reg (
 om 10 7 ::
oo 11 (.int .neq (.t 10) z0) :: [])) (.cond (.t 11) (.seq (.reg (
 om 12 7 ::
om 6 12 :: [])) .ret) .skip))) (.seq (.seq (.reg (
 om 13 1 ::
om 14 2 ::
oo 15 (.bslice [k0, k0] [(0, 1, (.t 13)), (1, 1, (.t 14))] 2 2) ::
oc 16 73 [(.t 15)] ::
oo 17 (.not (.t 16)) :: [])) (.cond (.t 17) (.seq (.reg (
 oo 6 (.mv (.c (Value.int .i64 3))) :: [])) .ret) .skip)) (.seq (.reg (
 oo 6 (.mv z0) :: [])) .ret))))
def r55 : List ResultVar := [.tmp 6]
theorem fun55 : Fun Try.prog 55 18 3 a55 r55 :=
  ⟨rfl, Try.f55, _, rfl, rfl, rfl, by decide, rfl, rfl, rfl⟩
noncomputable def a56 : ACode := (.seq (.reg (
 oo 2 (.box (.t 0) 72) ::
oo 3 (.mv (.c (Value.bool false))) :: [])) (.seq (.reg (
 oo 4 (.faddr 0 (.t 2)) ::
oo 5 (.load1 (.t 4)) ::
oo 6 (.int .lss (.t 5) z0) ::
om 7 6 ::
og 8 7 false (.faddr 0 (.t 2)) ::
og 9 7 false (.load1 (.t 8)) ::
og 10 7 false (.load1 (.t 1)) ::
og 11 7 false (.len (.t 10)) ::
og 12 7 false (.int .geq (.t 9) (.t 11)) ::
oo 13 (.pick (.t 7) (.c (Value.bool true)) (.t 12)) ::
om 14 13 ::
og 15 14 false (.faddr 2 (.t 2)) ::
og 16 14 false (.load1 (.t 15)) ::
og 17 14 false (.bslice [k0] [(0, 1, (.t 16))] 1 2) ::
ocg 18 14 false 42 [z1, (.c (Value.int .i64 1000000)), (.t 17)] ::
og 19 14 false (.not (.t 18)) ::
oo 20 (.pick (.t 14) (.c (Value.bool true)) (.t 19)) ::
om 3 20 :: [])) .ret))
def r56 : List ResultVar := [.tmp 3]
theorem fun56 : Fun Try.prog 56 21 2 a56 r56 :=
  ⟨rfl, Try.f56, _, rfl, rfl, rfl, by decide, rfl, rfl, rfl⟩
noncomputable def a57 : ACode := (.seq (.reg (
 oo 4 (.mv (.c (Value.bool false))) :: [])) (.seq (.reg (
 om 5 0 ::
om 6 1 ::
oc 7 85 [(.t 5), (.t 6)] ::
oo 8 (.int .geq (.t 7) z0) ::
om 4 8 :: [])) .ret))
def r57 : List ResultVar := [.tmp 4]
theorem fun57 : Fun Try.prog 57 9 2 a57 r57 :=
  ⟨rfl, Try.f57, _, rfl, rfl, rfl, by decide, rfl, rfl, rfl⟩
noncomputable def a58 : ACode := (.seq (.reg (
 oo 1 (.box (.t 0) 56) ::
oo 2 (.alloc [k0, k0, k0, k0, k0, k0, k0, k0, k0, k0] 100) :: [])) (.seq (.reg (
 oo 3 (.loadn 4 (.t 1)) ::
oo 4 (.faddr 0 (.t 1)) ::
oo 5 (.load1 (.t 4)) ::
oo 6 (.faddr 1 (.t 1)) ::
oo 7 (.load1 (.t 6)) ::
oo 8 (.faddr 2 (.t 1)) ::
oo 9 (.faddr 0 (.t 8)) ::
oo 10 (.load1 (.t 9)) ::
oo 11 (.build [k0, k0, k0] [(0, 1, (.t 5)), (1, 1, (.t 7)), (2, 1, (.t 10))]) ::
oo 12 (.faddr 0 (.t 1)) ::
oo 13 (.load1 (.t 12)) ::
oo 14 (.neg (.t 13)) ::
oo 15 (.faddr 1 (.t 1)) ::
oo 16 (.load1 (.t 15)) ::
oo 17 (.neg (.t 16)) ::
oo 18 (.faddr 2 (.t 1)) ::
oo 19 (.faddr 1 (.t 18)) ::
oo 20 (.load1 (.t 19)) ::
oo 21 (.neg (.t 20)) ::
oo 22 (.build [k0, k0, k0] [(0, 1, (.t 14)), (1, 1, (.t 17)), (2, 1, (.t 21))]) ::
oo 23 (.build [k0, k0, k0, k0, k0, k0, k0, k0, k0, k0] [(0, 4, (.t 3)), (4, 3, (.t 11)), (7, 3, (.t 22))]) ::
oz (.store 10 (.t 2) (.t 23)) :: [])) .ret))
def r58 : List ResultVar := [.cell 2 100]
theorem fun58 : Fun Try.prog 58 24 1 a58 r58 :=
  ⟨rfl, Try.f58, _, rfl, rfl, rfl, by decide, rfl, rfl, rfl⟩
noncomputable def a59 : ACode := (.seq (.reg (
 oo 2 (.alloc [k0, k0, k0] 80) :: [])) (.seq (.reg (
 oo 3 (.alloc [k0, k0, k0] 80) :: [])) (.seq (.seq (.reg (
 om 8 0 ::
oo 9 (.len (.t 8)) ::
oo 10 (.mv z0) :: [])) (.block 0 (.loop (.seq (.reg (
 oo 11 (.int .lss (.t 10) (.t 9)) :: [])) (.seq (.cond (.t 11) .skip (.exit 0)) (.seq (.block 1 (.seq (.reg (
 oo 12 (.ixsl 3 (.t 8) (.t 10)) ::
oo 13 (.loadn 3 (.t 12)) ::
oo 5 (.alloc [k0, k0, k0] 80) ::
oz (.store 3 (.t 5) (.t 13)) :: [])) (.seq (.reg (
 oo 14 (.loadn 3 (.t 5)) ::
oo 15 (.mv z0) :: [])) (.block 2 (.loop (.seq (.reg (
 oo 16 (.int .lss (.t 15) (.c (Value.int .i64 3))) :: [])) (.seq (.cond (.t 16) .skip (.exit 2)) (.seq (.block 3 (.seq (.reg (
 om 17 15 ::
oo 18 (.ixv1 3 (.t 14) (.t 15)) ::
om 6 17 ::
om 7 18 :: [])) (.reg (
 om 19 6 ::
oo 20 (.ixarr 3 1 (.t 3) (.t 19)) ::
oo 21 (.load1 (.t 20)) ::
om 22 7 ::
oo 23 (.int .add (.t 21) (.t 22)) ::
oo 24 (.ixarr 3 1 (.t 3) (.t 19)) ::
oz (.store 1 (.t 24) (.t 23)) :: [])))) (.reg (
 oo 25 (.int .add (.t 15) z1) ::
om 15 25 :: [])))))))))) (.reg (
 oo 26 (.int .add (.t 10) z1) ::
om 10 26 :: [])))))))) (.seq (.reg (
 oo 27 (.loadn 3 (.t 3)) ::
oz (.store 3 (.t 2) (.t 27)) :: [])) .ret))))
def r59 : List ResultVar := [.cell 2 80]
theorem fun59 : Fun Try.prog 59 28 1 a59 r59 :=
  ⟨rfl, Try.f59, _, rfl, rfl, rfl, by decide, rfl, rfl, rfl⟩
noncomputable def a60 : ACode := (.seq (.reg (
 oo 2 (.box (.t 0) 80) ::
oo 4 (.alloc [k0, k0, k0] 80) :: [])) (.seq (.reg (
 oo 5 (.ixarr 3 1 (.t 2) z0) ::
oo 6 (.load1 (.t 5)) ::
om 7 1 ::
oo 8 (.int .mul (.t 6) (.t 7)) ::
oo 9 (.ixarr 3 1 (.t 2) z1) ::
oo 10 (.load1 (.t 9)) ::
om 11 1 ::
oo 12 (.int .mul (.t 10) (.t 11)) ::
oo 13 (.ixarr 3 1 (.t 2) (.c (Value.int .i64 2))) ::
oo 14 (.load1 (.t 13)) ::
om 15 1 ::
oo 16 (.int .mul (.t 14) (.t 15)) ::
oo 17 (.build [k0, k0, k0] [(0, 1, (.t 8)), (1, 1, (.t 12)), (2, 1, (.t 16))]) ::
oz (.store 3 (.t 4) (.t 17)) :: [])) .ret))
def r60 : List ResultVar := [.cell 4 80]
theorem fun60 : Fun Try.prog 60 18 2 a60 r60 :=
  ⟨rfl, Try.f60, _, rfl, rfl, rfl, by decide, rfl, rfl, rfl⟩
noncomputable def a61 : ACode := (.seq (.reg (
 oo 1 (.box (.t 0) 80) ::
oo 2 (.alloc [k0, k0, k0] 80) :: [])) (.seq (.reg (
 oo 3 (.ixarr 3 1 (.t 1) z0) ::
oo 4 (.load1 (.t 3)) ::
oo 5 (.ixarr 3 1 (.t 1) z1) ::
oo 6 (.load1 (.t 5)) ::
oo 7 (.build [k0, k0, k0] [(0, 1, (.t 4)), (1, 1, (.t 6)), (2, 1, z0)]) ::
oz (.store 3 (.t 2) (.t 7)) :: [])) .ret))
def r61 : List ResultVar := [.cell 2 80]
theorem fun61 : Fun Try.prog 61 8 1 a61 r61 :=
  ⟨rfl, Try.f61, _, rfl, rfl, rfl, by decide, rfl, rfl, rfl⟩
noncomputable def a62 : ACode := (.seq (.reg (
 oo 1 (.box (.t 0) 38) ::
oo 2 (.mv z0) :: [])) (.seq (.reg (
 oo 4 (.faddr 0 (.t 1)) ::
oo 5 (.load1 (.t 4)) ::
oo 6 (.faddr 1 (.t 1)) ::
oo 7 (.load1 (.t 6)) ::
oo 8 (.idiv true (.t 5) (.t 7)) ::
om 3 8 :: [])) (.seq (.seq (.reg (
 oo 9 (.faddr 0 (.t 1)) ::
oo 10 (.load1 (.t 9)) ::
oo 11 (.faddr 1 (.t 1)) ::
oo 12 (.load1 (.t 11)) ::
oo 13 (.idiv false (.t 10) (.t 12)) ::
oo 14 (.int .lss (.t 13) z0) :: [])) (.cond (.t 14) (.reg (
 om 15 3 ::
oo 16 (.int .sub (.t 15) z1) ::
om 3 16 :: [])) .skip)) (.seq (.reg (
 om 17 3 ::
om 2 17 :: [])) .ret))))
def r62 : List ResultVar := [.tmp 2]
theorem fun62 : Fun Try.prog 62 18 1 a62 r62 :=
  ⟨rfl, Try.f62, _, rfl, rfl, rfl, by decide, rfl, rfl, rfl⟩
noncomputable def a63 : ACode := (.seq (.reg (
 oo 4 (.mv z0) :: [])) (.seq (.block 0 (.loop (.seq (.seq (.reg (
 om 5 1 ::
oo 6 (.int .neq (.t 5) z0) :: [])) (.cond (.t 6) .skip (.exit 0))) (.block 1 (.dreg (
 om 7 1 ::
om 8 0 ::
om 9 1 ::
oo 10 (.idiv false (.t 8) (.t 9)) ::
om 0 7 ::
om 1 10 :: []) []))))) (.seq (.reg (
 om 11 0 ::
om 4 11 :: [])) .ret)))
def r63 : List ResultVar := [.tmp 4]
theorem fun63 : Fun Try.prog 63 12 2 a63 r63 :=
  ⟨rfl, Try.f63, _, rfl, rfl, rfl, by decide, rfl, rfl, rfl⟩
noncomputable def a64 : ACode := (.seq (.reg (
 oo 2 (.mv z0) :: [])) (.seq (.reg (
 om 3 0 ::
om 4 0 ::
oo 5 (.neg (.t 4)) ::
oo 6 (.mnmx true (.t 3) (.t 5)) ::
om 2 6 :: [])) .ret))
def r64 : List ResultVar := [.tmp 2]
theorem fun64 : Fun Try.prog 64 7 1 a64 r64 :=
  ⟨rfl, Try.f64, _, rfl, rfl, rfl, by decide, rfl, rfl, rfl⟩
noncomputable def a65 : ACode := (.seq (.reg (
 oo 4 (.mv (.c (Value.bool false))) :: [])) (.seq (.reg (
 om 5 0 ::
om 6 1 ::
oc 7 86 [(.t 5), (.t 6)] ::
oo 8 (.int .geq (.t 7) z0) ::
om 4 8 :: [])) .ret))
def r65 : List ResultVar := [.tmp 4]
theorem fun65 : Fun Try.prog 65 9 2 a65 r65 :=
  ⟨rfl, Try.f65, _, rfl, rfl, rfl, by decide, rfl, rfl, rfl⟩
noncomputable def a66 : ACode := (.seq (.reg (
 oo 1 (.box (.t 0) 111) ::
oo 2 (.mv (.c (Value.bool false))) :: [])) (.seq (.reg (
 oo 3 (.loadn 3 (.t 1)) ::
oc 4 67 [(.t 3)] ::
oo 5 (.not (.t 4)) ::
om 2 5 :: [])) .ret))
def r66 : List ResultVar := [.tmp 2]
theorem fun66 : Fun Try.prog 66 6 1 a66 r66 :=
  ⟨rfl, Try.f66, _, rfl, rfl, rfl, by decide, rfl, rfl, rfl⟩
noncomputable def a67 : ACode := (.seq (.reg (
 oo 1 (.box (.t 0) 111) ::
oo 2 (.mv (.c (Value.bool false))) :: [])) (.seq (.seq (.reg (
 oo 3 (.faddr 2 (.t 1)) ::
oo 4 (.load1 (.t 3)) ::
oo 5 (.len (.t 4)) ::
oo 6 (.int .eql (.t 5) z0) ::
om 7 6 ::
og 8 7 false (.faddr 2 (.t 1)) ::
og 9 7 false (.load1 (.t 8)) ::
og 10 7 false (.len (.t 9)) ::
og 11 7 false (.int .gtr (.t 10) (.c (Value.int .i64 6))) ::
oo 12 (.pick (.t 7) (.c (Value.bool true)) (.t 11)) :: [])) (.cond (.t 12) (.seq (.reg (
 oo 2 (.mv (.c (Value.bool false))) :: [])) .ret) .skip)) (.seq (.reg (
 oo 13 (.faddr 2 (.t 1)) ::
oo 14 (.load1 (.t 13)) ::
oo 15 (.mkfn (Fn.func 88) [] [(.t 1)]) ::
oc 16 87 [(.t 14), (.t 15)] ::
oo 17 (.not (.t 16)) ::
om 2 17 :: [])) .ret)))
def r67 : List ResultVar := [.tmp 2]
theorem fun67 : Fun Try.prog 67 18 1 a67 r67 :=
  ⟨rfl, Try.f67, _, rfl, rfl, rfl, by decide, rfl, rfl, rfl⟩
noncomputable def a68 : ACode := (.seq (.reg (
 oo 6 (.alloc [k0, k0] 38) ::
oo 7 (.mv (.c (Value.bool false))) :: [])) (.seq (.reg (
 om 15 0 ::
om 16 1 ::
om 17 2 ::
oc 18 81 [(.t 15), (.t 16), (.t 17)] ::
om 14 18 ::
oo 19 (.extract (.t 14) 0) ::
oo 20 (.extract (.t 14) 1) ::
oo 8 (.alloc [Value.map none, k0, k0, k0, k0] 82) ::
oz (.store 5 (.t 8) (.t 19)) ::
om 9 20 :: [])) (.seq (.reg (
 om 22 0 ::
om 23 1 ::
oo 24 (.neg (.t 23)) ::
om 25 2 ::
oo 26 (.neg (.t 25)) ::
oc 27 81 [(.t 22), (.t 24), (.t 26)] ::
om 21 27 ::
oo 28 (.extract (.t 21) 0) ::
oo 29 (.extract (.t 21) 1) ::
oo 10 (.alloc [Value.map none, k0, k0, k0, k0] 82) ::
oz (.store 5 (.t 10) (.t 28)) ::
om 11 29 :: [])) (.seq (.seq (.reg (
 om 30 9 ::
oo 31 (.not (.t 30)) ::
om 32 31 ::
og 33 32 false (.mv (.t 11)) ::
og 34 32 false (.not (.t 33)) ::
oo 35 (.pick (.t 32) (.c (Value.bool true)) (.t 34)) :: [])) (.cond (.t 35) (.seq (.reg (
 oo 36 (.build [k0, k0] []) ::
oz (.store 2 (.t 6) (.t 36)) ::
oo 7 (.mv (.c (Value.bool false))) :: [])) .ret) .skip)) (.seq (.dreg (
 oo 37 (.loadn 5 (.t 8)) ::
oc 38 52 [(.t 37)] ::
oo 39 (.loadn 5 (.t 10)) ::
oc 40 52 [(.t 39)] ::
oo 12 (.alloc [k0, k0] 38) ::
oo 13 (.alloc [k0, k0] 38) ::
oz (.store 2 (.t 12) (.t 38)) ::
oz (.store 2 (.t 13) (.t 40)) :: []) []) (.seq (.reg (
 oo 41 (.faddr 0 (.t 13)) ::
oo 42 (.load1 (.t 41)) ::
oo 43 (.neg (.t 42)) ::
oo 44 (.faddr 1 (.t 12)) ::
oo 45 (.load1 (.t 44)) ::
oo 46 (.int .mul (.t 43) (.t 45)) ::
oo 47 (.faddr 0 (.t 12)) ::
oo 48 (.load1 (.t 47)) ::
oo 49 (.faddr 1 (.t 13)) ::
oo 50 (.load1 (.t 49)) ::
oo 51 (.int .mul (.t 48) (.t 50)) ::
oo 52 (.int .sub (.t 46) (.t 51)) ::
oo 53 (.faddr 1 (.t 12)) ::
oo 54 (.load1 (.t 53)) ::
oo 55 (.faddr 1 (.t 13)) ::
oo 56 (.load1 (.t 55)) ::
oo 57 (.int .mul (.t 54) (.t 56)) ::
oc 58 54 [(.t 52), (.t 57)] ::
oz (.store 2 (.t 6) (.t 58)) ::
oo 7 (.mv (.c (Value.bool true))) :: [])) .ret))))))
def r68 : List ResultVar := [.cell 6 38, .tmp 7]
theorem fun68 : Fun Try.prog 68 59 3 a68 r68 :=
  ⟨rfl, Try.f68, _, rfl, rfl, rfl, by decide, rfl, rfl, rfl⟩
noncomputable def a69 : ACode := (.seq (.reg (
 oo 2 (.box (.t 0) 38) ::
oo 3 (.box (.t 1) 38) ::
oo 4 (.mv (.c (Value.bool false))) :: [])) (.seq (.reg (
 oo 5 (.faddr 0 (.t 2)) ::
oo 6 (.load1 (.t 5)) ::
oo 7 (.faddr 1 (.t 3)) ::
oo 8 (.load1 (.t 7)) ::
oo 9 (.int .mul (.t 6) (.t 8)) ::
oo 10 (.faddr 0 (.t 3)) ::
oo 11 (.load1 (.t 10)) ::
oo 12 (.faddr 1 (.t 2)) ::
oo 13 (.load1 (.t 12)) ::
oo 14 (.int .mul (.t 11) (.t 13)) ::
oo 15 (.int .lss (.t 9) (.t 14)) ::
om 4 15 :: [])) .ret))
def r69 : List ResultVar := [.tmp 4]
theorem fun69 : Fun Try.prog 69 16 2 a69 r69 :=
  ⟨rfl, Try.f69, _, rfl, rfl, rfl, by decide, rfl, rfl, rfl⟩
noncomputable def a70 : ACode := (.seq (.reg (
 oo 4 (.mv z0) :: [])) (.seq (.reg (
 om 8 0 ::
oo 9 (.ixsl 1 (.t 8) z0) ::
oo 10 (.load1 (.t 9)) ::
om 5 10 :: [])) (.seq (.seq (.reg (
 om 11 0 ::
oo 12 (.slsl 1 (.t 11) (some z1) none none) ::
oo 13 (.len (.t 12)) ::
oo 14 (.mv z0) :: [])) (.block 0 (.loop (.seq (.reg (
 oo 15 (.int .lss (.t 14) (.t 13)) :: [])) (.seq (.cond (.t 15) .skip (.exit 0)) (.seq (.block 1 (.seq (.reg (
 oo 16 (.ixsl 1 (.t 12) (.t 14)) ::
oo 17 (.load1 (.t 16)) ::
om 7 17 :: [])) (.seq (.reg (
 om 18 1 ::
om 19 7 ::
om 20 5 ::
⟨(some 21), none, (.call (.t 18) [(.t 19), (.t 20)])⟩ :: [])) (.cond (.t 21) (.reg (
 om 22 7 ::
om 5 22 :: [])) .skip)))) (.reg (
 oo 23 (.int .add (.t 14) z1) ::
om 14 23 :: [])))))))) (.seq (.reg (
 om 24 5 ::
om 4 24 :: [])) .ret))))
def r70 : List ResultVar := [.tmp 4]
theorem fun70 : Fun Try.prog 70 25 2 a70 r70 :=
  ⟨rfl, Try.f70, _, rfl, rfl, rfl, by decide, rfl, rfl, rfl⟩
noncomputable def a71 : ACode := (.seq (.reg (
 oo 5 (.mv (.c (Value.bool false))) :: [])) (.seq (.reg (
 oo 6 (.load1 (.t 2)) ::
om 7 0 ::
oo 8 (.lookup 3 (Value.agg #[k0, k0]) false (.t 6) (.t 7)) ::
oo 9 (.load1 (.t 2)) ::
om 10 1 ::
oo 11 (.lookup 3 (Value.agg #[k0, k0]) false (.t 9) (.t 10)) ::
oc 12 69 [(.t 8), (.t 11)] ::
om 5 12 :: [])) .ret))
def r71 : List ResultVar := [.tmp 5]
theorem fun71 : Fun Try.prog 71 13 3 a71 r71 :=
  ⟨rfl, Try.f71, _, rfl, rfl, rfl, by decide, rfl, rfl, rfl⟩
noncomputable def a72 : ACode := (.seq (.reg (
 oo 4 (.mv z0) :: [])) (.seq (.seq (.reg (
 om 6 0 ::
oo 7 (.len (.t 6)) ::
oo 8 (.mv z0) :: [])) (.block 0 (.loop (.seq (.reg (
 oo 9 (.int .lss (.t 8) (.t 7)) :: [])) (.seq (.cond (.t 9) .skip (.exit 0)) (.seq (.block 1 (.seq (.reg (
 om 10 8 ::
om 5 10 :: [])) (.seq (.reg (
 om 11 1 ::
om 12 0 ::
om 13 5 ::
oo 14 (.ixsl 4 (.t 12) (.t 13)) ::
oo 15 (.loadn 4 (.t 14)) ::
⟨(some 16), none, (.call (.t 11) [(.t 15)])⟩ :: [])) (.cond (.t 16) (.seq (.reg (
 om 17 5 ::
om 4 17 :: [])) .ret) .skip)))) (.reg (
 oo 18 (.int .add (.t 8) z1) ::
om 8 18 :: [])))))))) (.seq (.reg (
 oo 4 (.mv (.c (Value.int .i64 (-1)))) :: [])) .ret)))
def r72 : List ResultVar := [.tmp 4]
theorem fun72 : Fun Try.prog 72 19 2 a72 r72 :=
  ⟨rfl, Try.f72, _, rfl, rfl, rfl, by decide, rfl, rfl, rfl⟩
noncomputable def a73 : ACode := (.seq (.reg (
 oo 2 (.mv (.c (Value.bool false))) :: [])) (.seq (.reg (
 om 3 0 ::
oc 4 42 [(.c (Value.int .i64 (-20))), (.c (Value.int .i64 20)), (.t 3)] ::
om 2 4 :: [])) .ret))
def r73 : List ResultVar := [.tmp 2]
theorem fun73 : Fun Try.prog 73 5 1 a73 r73 :=
  ⟨rfl, Try.f73, _, rfl, rfl, rfl, by decide, rfl, rfl, rfl⟩
noncomputable def a74 : ACode := (.seq (.reg (
 oo 4 (.mv (.c (Value.bool false))) :: [])) (.seq (.reg (
 om 5 0 ::
om 6 1 ::
oc 7 89 [(.t 5), (.t 6)] ::
oo 8 (.int .geq (.t 7) z0) ::
om 4 8 :: [])) .ret))
def r74 : List ResultVar := [.tmp 4]
theorem fun74 : Fun Try.prog 74 9 2 a74 r74 :=
  ⟨rfl, Try.f74, _, rfl, rfl, rfl, by decide, rfl, rfl, rfl⟩
noncomputable def a75 : ACode := (.seq (.reg (
 oo 4 (.mv (.c (Value.bool false))) :: [])) (.seq (.reg (
 om 5 0 ::
oo 6 (.load1 (.t 1)) ::
oo 7 (.int .lss (.t 5) (.t 6)) ::
om 8 7 ::
og 9 8 false (.mv (.t 0)) ::
og 10 8 false (.load1 (.t 2)) ::
og 11 8 false (.int .gtr (.t 9) (.t 10)) ::
oo 12 (.pick (.t 8) (.c (Value.bool true)) (.t 11)) ::
om 4 12 :: [])) .ret))
def r75 : List ResultVar := [.tmp 4]
theorem fun75 : Fun Try.prog 75 13 3 a75 r75 :=
  ⟨rfl, Try.f75, _, rfl, rfl, rfl, by decide, rfl, rfl, rfl⟩
noncomputable def a76 : ACode := (.seq (.reg (
 oo 2 (.box (.t 0) 84) ::
oo 3 (.box (.t 1) 3) ::
oo 4 (.mv (.c (Value.nilFunc))) :: [])) (.seq (.reg (
 oo 5 (.mkfn (Fn.func 90) [] [(.t 2), (.t 3)]) ::
om 4 5 :: [])) .ret))
def r76 : List ResultVar := [.tmp 4]
theorem fun76 : Fun Try.prog 76 6 2 a76 r76 :=
  ⟨rfl, Try.f76, _, rfl, rfl, rfl, by decide, rfl, rfl, rfl⟩
noncomputable def a77 : ACode := (.seq (.reg (
 oo 4 (.alloc [Value.map none, k0, k0, k0, k0] 82) :: [])) (.seq (.seq (.reg (
 om 15 1 ::
oo 16 (.len (.t 15)) :: [])) (.block 0 (.seq (.reg (
 oo 18 (.int .eql (.t 16) (.c (Value.int .i64 2))) ::
om 17 18 :: [])) (.cond (.t 17) (.seq (.dreg (
 om 19 0 ::
oo 20 (.nilck (.t 19)) ::
oo 21 (.faddr 1 (.t 20)) ::
oo 22 (.load1 (.t 21)) ::
om 23 1 ::
oo 24 (.ixsl 1 (.t 23) z0) ::
oo 25 (.load1 (.t 24)) ::
oo 26 (.ixsl 3 (.t 22) (.t 25)) ::
oo 27 (.loadn 3 (.t 26)) ::
om 28 0 ::
oo 29 (.nilck (.t 28)) ::
oo 30 (.faddr 1 (.t 29)) ::
oo 31 (.load1 (.t 30)) ::
om 32 1 ::
oo 33 (.ixsl 1 (.t 32) z1) ::
oo 34 (.load1 (.t 33)) ::
oo 35 (.ixsl 3 (.t 31) (.t 34)) ::
oo 36 (.loadn 3 (.t 35)) ::
oo 5 (.alloc [k0, k0, k0] 80) ::
oo 6 (.alloc [k0, k0, k0] 80) ::
oz (.store 3 (.t 5) (.t 27)) ::
oz (.store 3 (.t 6) (.t 36)) :: []) [((.t 30), (.t 5)), ((.t 33), (.t 5)), ((.t 35), (.t 5))]) (.seq (.dreg (
 oo 37 (.loadn 3 (.t 6)) ::
oc 38 91 [(.t 37)] ::
oo 39 (.loadn 3 (.t 5)) ::
oc 40 91 [(.t 39)] ::
om 7 38 ::
om 8 40 :: []) []) (.seq (.dreg (
 oo 41 (.loadn 3 (.t 5)) ::
oo 42 (.loadn 3 (.t 6)) ::
oc 43 83 [(.t 41), (.t 42)] ::
oo 44 (.int .eql (.t 43) z0) ::
om 45 44 ::
og 46 45 true (.loadn 3 (.t 5)) ::
og 47 45 true (.mv (.t 7)) ::
ocg 48 45 true 60 [(.t 46), (.t 47)] ::
og 49 45 true (.loadn 3 (.t 6)) ::
og 50 45 true (.mv (.t 8)) ::
ocg 51 45 true 60 [(.t 49), (.t 50)] ::
og 52 45 true (.bslice [k0, k0, k0, k0, k0, k0] [(0, 3, (.t 48)), (3, 3, (.t 51))] 2 80) ::
ocg 53 45 true 59 [(.t 52)] ::
ocg 54 45 true 61 [(.t 53)] ::
og 55 45 true (.build [k0, k0, k0] []) ::
og 56 45 true (.pure (rawOp Try.f77 5 15)) ::
oo 57 (.pick (.t 45) (.t 56) (.c (Value.bool false))) :: []) []) (.cond (.t 57) (.seq (.reg (
 om 58 0 ::
om 59 1 ::
om 60 7 ::
om 61 8 ::
oo 62 (.bslice [k0, k0] [(0, 1, (.t 60)), (1, 1, (.t 61))] 2 2) ::
oc 63 92 [(.t 58), (.t 59), z1, (.t 62)] ::
oz (.store 5 (.t 4) (.t 63)) :: [])) .ret) .skip)))) (.seq (.reg (
 oo 65 (.int .eql (.t 16) (.c (Value.int .i64 3))) ::
om 64 65 :: [])) (.cond (.t 64) (.seq (.dreg (
 om 66 0 ::
oo 67 (.nilck (.t 66)) ::
oo 68 (.faddr 1 (.t 67)) ::
oo 69 (.load1 (.t 68)) ::
om 70 1 ::
oo 71 (.ixsl 1 (.t 70) z0) ::
oo 72 (.load1 (.t 71)) ::
oo 73 (.ixsl 3 (.t 69) (.t 72)) ::
oo 74 (.loadn 3 (.t 73)) ::
om 75 0 ::
oo 76 (.nilck (.t 75)) ::
oo 77 (.faddr 1 (.t 76)) ::
oo 78 (.load1 (.t 77)) ::
om 79 1 ::
oo 80 (.ixsl 1 (.t 79) z1) ::
oo 81 (.load1 (.t 80)) ::
oo 82 (.ixsl 3 (.t 78) (.t 81)) ::
oo 83 (.loadn 3 (.t 82)) ::
om 84 0 ::
oo 85 (.nilck (.t 84)) ::
oo 86 (.faddr 1 (.t 85)) ::
oo 87 (.load1 (.t 86)) ::
om 88 1 ::
oo 89 (.ixsl 1 (.t 88) (.c (Value.int .i64 2))) ::
oo 90 (.load1 (.t 89)) ::
oo 91 (.ixsl 3 (.t 87) (.t 90)) ::
oo 92 (.loadn 3 (.t 91)) ::
oo 9 (.alloc [k0, k0, k0] 80) ::
oo 10 (.alloc [k0, k0, k0] 80) ::
oo 11 (.alloc [k0, k0, k0] 80) ::
oz (.store 3 (.t 9) (.t 74)) ::
oz (.store 3 (.t 10) (.t 83)) ::
oz (.store 3 (.t 11) (.t 92)) :: []) [((.t 77), (.t 9)), ((.t 80), (.t 9)), ((.t 82), (.t 9)), ((.t 86), (.t 9)), ((.t 89), (.t 9)), ((.t 91), (.t 9)), ((.t 86), (.t 10)), ((.t 89), (.t 10)), ((.t 91), (.t 10))]) (.seq (.dreg (
 oo 93 (.loadn 3 (.t 10)) ::
oo 94 (.loadn 3 (.t 11)) ::
oc 95 83 [(.t 93), (.t 94)] ::
oo 96 (.loadn 3 (.t 11)) ::
oo 97 (.loadn 3 (.t 9)) ::
oc 98 83 [(.t 96), (.t 97)] ::
oo 99 (.loadn 3 (.t 9)) ::
oo 100 (.loadn 3 (.t 10)) ::
oc 101 83 [(.t 99), (.t 100)] ::
om 12 95 ::
om 13 98 ::
om 14 101 :: []) []) (.seq (.seq (.reg (
 om 102 12 ::
om 103 13 ::
om 104 14 ::
oo 105 (.pure (rawOp Try.f77 10 3)) ::
oo 106 (.int .lss (.t 105) z0) :: [])) (.cond (.t 106) (.reg (
 om 107 12 ::
oo 108 (.neg (.t 107)) ::
om 109 13 ::
oo 110 (.neg (.t 109)) ::
om 111 14 ::
oo 112 (.neg (.t 111)) ::
om 12 108 ::
om 13 110 ::
om 14 112 :: [])) .skip)) (.seq (.reg (
 om 113 12 ::
om 114 13 ::
om 115 14 ::
oo 116 (.pure (rawOp Try.f77 12 3)) ::
oo 117 (.int .gtr (.t 116) z0) :: [])) (.cond (.t 117) (.seq (.reg (
 om 118 0 ::
om 119 1 ::
om 120 12 ::
om 121 13 ::
om 122 14 ::
oo 123 (.bslice [k0, k0, k0] [(0, 1, (.t 120)), (1, 1, (.t 121)), (2, 1, (.t 122))] 3 2) ::
oc 124 92 [(.t 118), (.t 119), z1, (.t 123)] ::
oz (.store 5 (.t 4) (.t 124)) :: [])) .ret) .skip))))) .skip)))))) (.seq (.reg (
 oo 125 (.build [Value.map none, k0, k0, k0, k0] []) ::
oz (.store 5 (.t 4) (.t 125)) :: [])) .ret)))
def r77 : List ResultVar := [.cell 4 82]
theorem fun77 : Fun Try.prog 77 126 2 a77 r77 :=
  ⟨rfl, Try.f77, _, rfl, rfl, rfl, by decide, rfl, rfl, rfl⟩
noncomputable def a78 : ACode := (.seq (.reg (
 om 3 0 ::
oo 4 (.len (.t 3)) ::
om 2 4 :: [])) (.reg (
 om 5 0 ::
om 6 2 ::
om 7 2 ::
oo 8 (.conv .u64 (.t 7)) ::
oc 9 94 [(.t 8)] ::
oc 10 93 [(.t 5), z0, (.t 6), (.t 9)] :: [])))
def r78 : List ResultVar := []
theorem fun78 : Fun Try.prog 78 11 1 a78 r78 :=
  ⟨rfl, Try.f78, _, rfl, rfl, rfl, by decide, rfl, rfl, rfl⟩
noncomputable def a81A0 : ACode := (.reg (
 om 10 30 :: []))
noncomputable def a81B0 : ACode := (.block 1 (.seq (.dreg (
 oo 31 (.load1 (.t 3)) ::
oo 32 (.nilck (.t 31)) ::
oo 33 (.faddr 1 (.t 32)) ::
oo 34 (.load1 (.t 33)) ::
om 35 10 ::
oo 36 (.ixsl 1 (.t 35) z0) ::
oo 37 (.load1 (.t 36)) ::
oo 38 (.ixsl 3 (.t 34) (.t 37)) ::
oo 39 (.loadn 3 (.t 38)) ::
oo 11 (.alloc [k0, k0, k0] 80) ::
oz (.store 3 (.t 11) (.t 39)) :: []) []) (.seq (.seq (.reg (
 om 40 10 ::
oo 41 (.len (.t 40)) ::
oo 42 (.int .eql (.t 41) z1) :: [])) (.cond (.t 42) (.seq (.dreg (
 oo 43 (.loadn 3 (.t 8)) ::
oc 44 91 [(.t 43)] ::
oo 45 (.loadn 3 (.t 11)) ::
oc 46 91 [(.t 45)] ::
om 12 44 ::
om 13 46 :: []) []) (.seq (.seq (.dreg (
 oo 47 (.loadn 3 (.t 11)) ::
oo 48 (.loadn 3 (.t 8)) ::
oc 49 83 [(.t 47), (.t 48)] ::
oo 50 (.int .eql (.t 49) z0) ::
om 51 50 ::
og 52 51 true (.loadn 3 (.t 11)) ::
og 53 51 true (.mv (.t 12)) ::
ocg 54 51 true 60 [(.t 52), (.t 53)] ::
og 55 51 true (.loadn 3 (.t 8)) ::
og 56 51 true (.mv (.t 13)) ::
og 57 51 true (.neg (.t 56)) ::
ocg 58 51 true 60 [(.t 55), (.t 57)] ::
og 59 51 true (.bslice [k0, k0, k0, k0, k0, k0] [(0, 3, (.t 54)), (3, 3, (.t 58))] 2 80) ::
ocg 60 51 true 59 [(.t 59)] ::
ocg 61 51 true 61 [(.t 60)] ::
og 62 51 true (.build [k0, k0, k0] []) ::
og 63 51 true (.pure (rawOp Try.f81 10 16)) ::
oo 64 (.pick (.t 51) (.t 63) (.c (Value.bool false))) :: []) []) (.cond (.t 64) (.dreg (
 oo 65 (.load1 (.t 9)) ::
oo 66 (.load1 (.t 3)) ::
om 67 10 ::
om 68 13 ::
om 69 12 ::
oo 70 (.bslice [k0] [(0, 1, (.t 69))] 1 2) ::
oc 71 92 [(.t 66), (.t 67), (.t 68), (.t 70)] ::
oo 72 (.bslice [Value.map none, k0, k0, k0, k0] [(0, 5, (.t 71))] 1 82) ::
oo 73 (.append 82 5 40 (.t 65) (.t 72)) ::
oz (.store 1 (.t 9) (.t 73)) :: []) []) .skip)) (.exit 1))) .skip)) (.seq (.dreg (
 oo 74 (.load1 (.t 3)) ::
oo 75 (.nilck (.t 74)) ::
oo 76 (.faddr 1 (.t 75)) ::
oo 77 (.load1 (.t 76)) ::
om 78 10 ::
oo 79 (.ixsl 1 (.t 78) z1) ::
oo 80 (.load1 (.t 79)) ::
oo 81 (.ixsl 3 (.t 77) (.t 80)) ::
oo 82 (.loadn 3 (.t 81)) ::
oo 14 (.alloc [k0, k0, k0] 80) ::
oz (.store 3 (.t 14) (.t 82)) :: []) []) (.seq (.reg (
 oo 83 (.loadn 3 (.t 11)) ::
oo 84 (.mkfn (Fn.func 83) [(.t 83)] []) ::
om 15 84 :: [])) (.seq (.reg (
 om 85 15 ::
oo 86 (.loadn 3 (.t 14)) ::
⟨(some 87), none, (.call (.t 85) [(.t 86)])⟩ ::
om 16 87 :: [])) (.seq (.seq (.dreg (
 oo 88 (.loadn 3 (.t 8)) ::
oo 89 (.loadn 3 (.t 14)) ::
oc 90 83 [(.t 88), (.t 89)] ::
om 91 15 ::
oo 92 (.loadn 3 (.t 8)) :: []) []) (.reg (
    ⟨(some 93), none, (.call (.t 91) [(.t 92)])⟩ ::
om 17 90 ::
om 18 93 :: []))) (.seq (.seq (.reg (
 om 94 16 ::
oo 95 (.int .lss (.t 94) z0) :: [])) (.cond (.t 95) (.reg (
 om 96 16 ::
oo 97 (.neg (.t 96)) ::
om 98 17 ::
oo 99 (.neg (.t 98)) ::
om 100 18 ::
oo 101 (.neg (.t 100)) ::
om 16 97 ::
om 17 99 ::
om 18 101 :: [])) .skip)) (.seq (.reg (
 om 102 16 ::
oo 103 (.int .gtr (.t 102) z0) ::
om 104 103 ::
og 105 104 true (.mv (.t 17)) ::
og 106 104 true (.int .geq (.t 105) z0) ::
oo 107 (.pick (.t 104) (.t 106) (.c (Value.bool false))) ::
om 108 107 ::
og 109 108 true (.mv (.t 18)) ::
og 110 108 true (.int .geq (.t 109) z0) ::
oo 111 (.pick (.t 108) (.t 110) (.c (Value.bool false))) :: [])) (.cond (.t 111) (.dreg (
 oo 112 (.load1 (.t 9)) ::
oo 113 (.load1 (.t 3)) ::
om 114 10 ::
om 115 16 ::
om 116 17 ::
om 117 18 ::
oo 118 (.bslice [k0, k0] [(0, 1, (.t 116)), (1, 1, (.t 117))] 2 2) ::
oc 119 92 [(.t 113), (.t 114), (.t 115), (.t 118)] ::
oo 120 (.bslice [Value.map none, k0, k0, k0, k0] [(0, 5, (.t 119))] 1 82) ::
oo 121 (.append 82 5 40 (.t 112) (.t 120)) ::
oz (.store 1 (.t 9) (.t 121)) :: []) []) .skip))))))))))
theorem c81A0 : cCode Try.prog 128 false (rfAt Try.f81 0).1 = some a81A0 := rfl
theorem c81B0 : cCode Try.prog 128 false (rfAt Try.f81 0).2 = some a81B0 := rfl
noncomputable def a81 : ACode := (.seq (.reg (
 oo 3 (.box (.t 0) 84) ::
oo 6 (.alloc [Value.map none, k0, k0, k0, k0] 82) ::
oo 7 (.mv (.c (Value.bool false))) :: [])) (.seq (.reg (
 om 19 1 ::
om 20 2 ::
oo 21 (.build [k0, k0, k0] [(0, 1, (.t 19)), (1, 1, (.t 20))]) ::
oo 8 (.alloc [k0, k0, k0] 80) ::
oz (.store 3 (.t 8) (.t 21)) :: [])) (.seq (.seq (.reg (
 oo 22 (.loadn 3 (.t 8)) ::
oo 23 (.build [k0, k0, k0] []) ::
oo 24 (.pure (rawOp Try.f81 2 2)) :: [])) (.cond (.t 24) (.seq (.reg (
 oo 25 (.mkmap) ::
oo 26 (.build [k0, k0, k0] []) ::
oo 27 (.build [Value.map none, k0, k0, k0, k0] [(0, 1, (.t 25)), (1, 3, (.t 26)), (4, 1, z1)]) ::
oz (.store 5 (.t 6) (.t 27)) ::
oo 7 (.mv (.c (Value.bool true))) :: [])) .ret) .skip)) (.seq (.reg (
 oo 9 (.alloc [Value.slice none 0 0] 143) :: [])) (.seq (.seq (.reg (
 oo 28 (.load1 (.t 3)) ::
oc 29 76 [(.t 28), (.c (Value.int .i64 2))] :: [])) (.block 0 (.range (.t 29) [30] 128 (rfAt Try.f81 0).1 (rfAt Try.f81 0).2 a81A0 a81B0))) (.seq (.seq (.reg (
 oo 122 (.load1 (.t 9)) ::
oo 123 (.len (.t 122)) ::
oo 124 (.int .eql (.t 123) z0) :: [])) (.cond (.t 124) (.seq (.reg (
 oo 125 (.build [Value.map none, k0, k0, k0, k0] []) ::
oz (.store 5 (.t 6) (.t 125)) ::
oo 7 (.mv (.c (Value.bool false))) :: [])) .ret) .skip)) (.seq (.reg (
 oo 126 (.load1 (.t 9)) ::
oc 127 95 [(.t 126), (.c (Value.func (.func 96) #[] #[]))] ::
oz (.store 5 (.t 6) (.t 127)) ::
oo 7 (.mv (.c (Value.bool true))) :: [])) .ret)))))))
def r81 : List ResultVar := [.cell 6 82, .tmp 7]
theorem fun81 : Fun Try.prog 81 128 3 a81 r81 :=
  ⟨rfl, Try.f81, _, rfl, rfl, rfl, by decide, rfl, rfl, rfl⟩
noncomputable def a82 : ACode := (.seq (.seq (.reg (
 oo 13 (.load1 (.t 1)) ::
oo 14 (.nilck (.t 13)) ::
oo 15 (.faddr 0 (.t 14)) ::
oo 16 (.load1 (.t 15)) ::
oo 17 (.len (.t 16)) ::
oo 18 (.int .eql (.t 17) z0) ::
om 19 18 ::
og 20 19 true (.mv (.t 0)) ::
og 21 19 true (.build [k0, k0, k0] [(2, 1, z1)]) ::
⟨(some 22), (some (19, true)), (.call (.t 20) [(.t 21)])⟩ ::
og 23 19 true (.not (.t 22)) ::
oo 24 (.pick (.t 19) (.t 23) (.c (Value.bool false))) :: [])) (.cond (.t 24) .ret .skip)) (.seq (.reg (
 oo 25 (.load1 (.t 1)) ::
oo 26 (.nilck (.t 25)) ::
oo 27 (.faddr 1 (.t 26)) ::
oo 28 (.load1 (.t 27)) ::
oo 29 (.len (.t 28)) ::
oo 30 (.mkslice [k0, k0, k0] 24 80 (.t 29) (.t 29)) ::
om 3 30 :: [])) (.seq (.reg (
 om 31 3 ::
oo 32 (.load1 (.t 1)) ::
oo 33 (.nilck (.t 32)) ::
oo 34 (.faddr 1 (.t 33)) ::
oo 35 (.load1 (.t 34)) ::
oo 36 (.copy 3 (.t 31) (.t 35)) :: [])) (.seq (.reg (
 om 37 3 ::
oo 38 (.len (.t 37)) ::
oo 39 (.mv z0) :: [])) (.block 0 (.loop (.seq (.reg (
 oo 40 (.int .lss (.t 39) (.t 38)) :: [])) (.seq (.cond (.t 40) .skip (.exit 0)) (.seq (.block 1 (.seq (.reg (
 om 41 39 ::
oo 42 (.ixsl 3 (.t 37) (.t 39)) ::
oo 43 (.loadn 3 (.t 42)) ::
oo 5 (.alloc [k0, k0, k0] 80) ::
om 4 41 ::
oz (.store 3 (.t 5) (.t 43)) :: [])) (.seq (.reg (
 oo 44 (.load1 (.t 1)) ::
oo 45 (.nilck (.t 44)) ::
oo 46 (.faddr 0 (.t 45)) ::
oo 47 (.load1 (.t 46)) ::
om 48 4 ::
oo 49 (.idiv true (.t 48) (.c (Value.int .i64 2))) ::
oo 50 (.ixsl 10 (.t 47) (.t 49)) ::
oo 51 (.loadn 10 (.t 50)) ::
oo 6 (.alloc [k0, k0, k0, k0, k0, k0, k0, k0, k0, k0] 100) ::
oz (.store 10 (.t 6) (.t 51)) :: [])) (.seq (.reg (
 oo 52 (.faddr 0 (.t 6)) ::
oo 53 (.faddr 0 (.t 52)) ::
oo 54 (.load1 (.t 53)) ::
oo 55 (.faddr 0 (.t 6)) ::
oo 56 (.faddr 0 (.t 55)) ::
oo 57 (.load1 (.t 56)) ::
oo 58 (.int .mul (.t 54) (.t 57)) ::
oo 59 (.faddr 0 (.t 6)) ::
oo 60 (.faddr 1 (.t 59)) ::
oo 61 (.load1 (.t 60)) ::
oo 62 (.faddr 0 (.t 6)) ::
oo 63 (.faddr 1 (.t 62)) ::
oo 64 (.load1 (.t 63)) ::
oo 65 (.int .mul (.t 61) (.t 64)) ::
oo 66 (.int .add (.t 58) (.t 65)) ::
om 7 66 :: [])) (.seq (.seq (.reg (
 om 67 0 ::
oo 68 (.ixarr 3 1 (.t 5) z0) ::
oo 69 (.load1 (.t 68)) ::
oo 70 (.ixarr 3 1 (.t 5) (.c (Value.int .i64 2))) ::
oo 71 (.load1 (.t 70)) ::
oo 72 (.int .mul (.t 69) (.t 71)) ::
oo 73 (.ixarr 3 1 (.t 5) z1) ::
oo 74 (.load1 (.t 73)) ::
oo 75 (.ixarr 3 1 (.t 5) (.c (Value.int .i64 2))) ::
oo 76 (.load1 (.t 75)) ::
oo 77 (.int .mul (.t 74) (.t 76)) ::
om 78 7 ::
oo 79 (.build [k0, k0, k0] [(0, 1, (.t 72)), (1, 1, (.t 77)), (2, 1, (.t 78))]) ::
⟨(some 80), none, (.call (.t 67) [(.t 79)])⟩ ::
oo 81 (.not (.t 80)) :: [])) (.cond (.t 81) .ret .skip)) (.seq (.reg (
 om 82 3 ::
om 83 4 ::
oo 84 (.slsl 3 (.t 82) none (some (.t 83)) none) ::
oo 85 (.len (.t 84)) ::
oo 86 (.mv z0) :: [])) (.block 2 (.loop (.seq (.reg (
 oo 87 (.int .lss (.t 86) (.t 85)) :: [])) (.seq (.cond (.t 87) .skip (.exit 2)) (.seq (.block 3 (.seq (.reg (
 oo 88 (.ixsl 3 (.t 84) (.t 86)) ::
oo 89 (.loadn 3 (.t 88)) ::
oo 9 (.alloc [k0, k0, k0] 80) ::
oz (.store 3 (.t 9) (.t 89)) :: [])) (.seq (.reg (
 oo 90 (.loadn 3 (.t 5)) ::
oo 91 (.loadn 3 (.t 9)) ::
oc 92 83 [(.t 90), (.t 91)] ::
om 10 92 :: [])) (.seq (.dreg (
 oo 93 (.ixarr 3 1 (.t 5) (.c (Value.int .i64 2))) ::
oo 94 (.load1 (.t 93)) ::
oo 95 (.ixarr 3 1 (.t 9) z1) ::
oo 96 (.load1 (.t 95)) ::
oo 97 (.int .mul (.t 94) (.t 96)) ::
oo 98 (.ixarr 3 1 (.t 9) (.c (Value.int .i64 2))) ::
oo 99 (.load1 (.t 98)) ::
oo 100 (.ixarr 3 1 (.t 5) z1) ::
oo 101 (.load1 (.t 100)) ::
oo 102 (.int .mul (.t 99) (.t 101)) ::
oo 103 (.int .sub (.t 97) (.t 102)) ::
oo 104 (.ixarr 3 1 (.t 5) z0) ::
oo 105 (.load1 (.t 104)) ::
oo 106 (.ixarr 3 1 (.t 9) (.c (Value.int .i64 2))) ::
oo 107 (.load1 (.t 106)) ::
oo 108 (.int .mul (.t 105) (.t 107)) ::
oo 109 (.ixarr 3 1 (.t 9) z0) ::
oo 110 (.load1 (.t 109)) ::
oo 111 (.ixarr 3 1 (.t 5) (.c (Value.int .i64 2))) ::
oo 112 (.load1 (.t 111)) ::
oo 113 (.int .mul (.t 110) (.t 112)) ::
oo 114 (.int .sub (.t 108) (.t 113)) ::
om 11 103 ::
om 12 114 :: []) []) (.seq (.seq (.reg (
 om 115 10 ::
oo 116 (.int .lss (.t 115) z0) :: [])) (.cond (.t 116) (.reg (
 om 117 10 ::
oo 118 (.neg (.t 117)) ::
om 119 11 ::
oo 120 (.neg (.t 119)) ::
om 121 12 ::
oo 122 (.neg (.t 121)) ::
om 10 118 ::
om 11 120 ::
om 12 122 :: [])) .skip)) (.seq (.reg (
 om 123 10 ::
oo 124 (.int .gtr (.t 123) z0) ::
om 125 124 ::
og 126 125 true (.mv (.t 0)) ::
og 127 125 true (.mv (.t 11)) ::
og 128 125 true (.mv (.t 12)) ::
og 129 125 true (.mv (.t 10)) ::
og 130 125 true (.build [k0, k0, k0] [(0, 1, (.t 127)), (1, 1, (.t 128)), (2, 1, (.t 129))]) ::
⟨(some 131), (some (125, true)), (.call (.t 126) [(.t 130)])⟩ ::
og 132 125 true (.not (.t 131)) ::
oo 133 (.pick (.t 125) (.t 132) (.c (Value.bool false))) :: [])) (.cond (.t 133) .ret .skip))))))) (.reg (
 oo 134 (.int .add (.t 86) z1) ::
om 86 134 :: []))))))))))))) (.reg (
 oo 135 (.int .add (.t 39) z1) ::
om 39 135 :: [])))))))))))
def r82 : List ResultVar := []
theorem fun82 : Fun Try.prog 82 136 2 a82 r82 :=
  ⟨rfl, Try.f82, _, rfl, rfl, rfl, by decide, rfl, rfl, rfl⟩
noncomputable def a83 : ACode := (.seq (.reg (
 oo 2 (.box (.t 0) 80) ::
oo 3 (.box (.t 1) 80) ::
oo 4 (.mv z0) :: [])) (.seq (.reg (
 oo 5 (.ixarr 3 1 (.t 2) z0) ::
oo 6 (.load1 (.t 5)) ::
oo 7 (.ixarr 3 1 (.t 3) z1) ::
oo 8 (.load1 (.t 7)) ::
oo 9 (.int .mul (.t 6) (.t 8)) ::
oo 10 (.ixarr 3 1 (.t 2) z1) ::
oo 11 (.load1 (.t 10)) ::
oo 12 (.ixarr 3 1 (.t 3) z0) ::
oo 13 (.load1 (.t 12)) ::
oo 14 (.int .mul (.t 11) (.t 13)) ::
oo 15 (.int .sub (.t 9) (.t 14)) ::
om 4 15 :: [])) .ret))
def r83 : List ResultVar := [.tmp 4]
theorem fun83 : Fun Try.prog 83 16 2 a83 r83 :=
  ⟨rfl, Try.f83, _, rfl, rfl, rfl, by decide, rfl, rfl, rfl⟩
noncomputable def a84 : ACode := (.seq (.reg (
 oo 4 (.mv z0) :: [])) (.seq (.reg (
 om 5 0 ::
om 6 0 ::
oo 7 (.neg (.t 6)) ::
oo 8 (.mnmx true (.t 5) (.t 7)) ::
om 0 8 :: [])) (.seq (.block 0 (.loop (.seq (.seq (.reg (
 om 9 0 ::
oo 10 (.int .neq (.t 9) z0) :: [])) (.cond (.t 10) .skip (.exit 0))) (.block 1 (.reg (
 om 11 1 ::
om 12 0 ::
oo 13 (.idiv false (.t 11) (.t 12)) ::
om 14 0 ::
om 0 13 ::
om 1 14 :: [])))))) (.seq (.reg (
 om 15 1 ::
om 4 15 :: [])) .ret))))
def r84 : List ResultVar := [.tmp 4]
theorem fun84 : Fun Try.prog 84 16 2 a84 r84 :=
  ⟨rfl, Try.f84, _, rfl, rfl, rfl, by decide, rfl, rfl, rfl⟩
noncomputable def a85 : ACode := (.seq (.reg (
 oo 4 (.mv z0) :: [])) (.seq (.seq (.reg (
 om 6 0 ::
oo 7 (.len (.t 6)) ::
oo 8 (.mv z0) :: [])) (.block 0 (.loop (.seq (.reg (
 oo 9 (.int .lss (.t 8) (.t 7)) :: [])) (.seq (.cond (.t 9) .skip (.exit 0)) (.seq (.block 1 (.seq (.reg (
 om 10 8 ::
om 5 10 :: [])) (.seq (.reg (
 om 11 1 ::
om 12 0 ::
om 13 5 ::
oo 14 (.ixsl 3 (.t 12) (.t 13)) ::
oo 15 (.loadn 3 (.t 14)) ::
⟨(some 16), none, (.call (.t 11) [(.t 15)])⟩ :: [])) (.cond (.t 16) (.seq (.reg (
 om 17 5 ::
om 4 17 :: [])) .ret) .skip)))) (.reg (
 oo 18 (.int .add (.t 8) z1) ::
om 8 18 :: [])))))))) (.seq (.reg (
 oo 4 (.mv (.c (Value.int .i64 (-1)))) :: [])) .ret)))
def r85 : List ResultVar := [.tmp 4]
theorem fun85 : Fun Try.prog 85 19 2 a85 r85 :=
  ⟨rfl, Try.f85, _, rfl, rfl, rfl, by decide, rfl, rfl, rfl⟩
noncomputable def a86 : ACode := (.seq (.reg (
 oo 4 (.mv z0) :: [])) (.seq (.seq (.reg (
 om 6 0 ::
oo 7 (.len (.t 6)) ::
oo 8 (.mv z0) :: [])) (.block 0 (.loop (.seq (.reg (
 oo 9 (.int .lss (.t 8) (.t 7)) :: [])) (.seq (.cond (.t 9) .skip (.exit 0)) (.seq (.block 1 (.seq (.reg (
 om 10 8 ::
om 5 10 :: [])) (.seq (.reg (
 om 11 1 ::
om 12 0 ::
om 13 5 ::
oo 14 (.ixsl 3 (.t 12) (.t 13)) ::
oo 15 (.loadn 3 (.t 14)) ::
⟨(some 16), none, (.call (.t 11) [(.t 15)])⟩ :: [])) (.cond (.t 16) (.seq (.reg (
 om 17 5 ::
om 4 17 :: [])) .ret) .skip)))) (.reg (
 oo 18 (.int .add (.t 8) z1) ::
om 8 18 :: [])))))))) (.seq (.reg (
 oo 4 (.mv (.c (Value.int .i64 (-1)))) :: [])) .ret)))
def r86 : List ResultVar := [.tmp 4]
theorem fun86 : Fun Try.prog 86 19 2 a86 r86 :=
  ⟨rfl, Try.f86, _, rfl, rfl, rfl, by decide, rfl, rfl, rfl⟩
noncomputable def a87 : ACode := (.seq (.reg (
 oo 4 (.mv (.c (Value.bool false))) :: [])) (.seq (.reg (
 om 5 0 ::
om 6 1 ::
oc 7 97 [(.t 5), (.t 6)] ::
oo 8 (.int .geq (.t 7) z0) ::
om 4 8 :: [])) .ret))
def r87 : List ResultVar := [.tmp 4]
theorem fun87 : Fun Try.prog 87 9 2 a87 r87 :=
  ⟨rfl, Try.f87, _, rfl, rfl, rfl, by decide, rfl, rfl, rfl⟩
noncomputable def a88 : ACode := (.seq (.reg (
 oo 2 (.box (.t 0) 54) ::
oo 3 (.mv (.c (Value.bool false))) :: [])) (.seq (.reg (
 oo 4 (.faddr 0 (.t 1)) ::
oo 5 (.load1 (.t 4)) ::
oo 6 (.faddr 1 (.t 1)) ::
oo 7 (.load1 (.t 6)) ::
oo 8 (.loadn 2 (.t 2)) ::
oo 9 (.build [k0, k0, k0, k0] [(0, 1, (.t 5)), (1, 1, (.t 7)), (2, 2, (.t 8))]) ::
oc 10 39 [(.t 9)] ::
oo 11 (.not (.t 10)) ::
om 3 11 :: [])) .ret))
def r88 : List ResultVar := [.tmp 3]
theorem fun88 : Fun Try.prog 88 12 2 a88 r88 :=
  ⟨rfl, Try.f88, _, rfl, rfl, rfl, by decide, rfl, rfl, rfl⟩
noncomputable def a89 : ACode := (.seq (.reg (
 oo 4 (.mv z0) :: [])) (.seq (.seq (.reg (
 om 6 0 ::
oo 7 (.len (.t 6)) ::
oo 8 (.mv z0) :: [])) (.block 0 (.loop (.seq (.reg (
 oo 9 (.int .lss (.t 8) (.t 7)) :: [])) (.seq (.cond (.t 9) .skip (.exit 0)) (.seq (.block 1 (.seq (.reg (
 om 10 8 ::
om 5 10 :: [])) (.seq (.reg (
 om 11 1 ::
om 12 0 ::
om 13 5 ::
oo 14 (.ixsl 1 (.t 12) (.t 13)) ::
oo 15 (.load1 (.t 14)) ::
⟨(some 16), none, (.call (.t 11) [(.t 15)])⟩ :: [])) (.cond (.t 16) (.seq (.reg (
 om 17 5 ::
om 4 17 :: [])) .ret) .skip)))) (.reg (
 oo 18 (.int .add (.t 8) z1) ::
om 8 18 :: [])))))))) (.seq (.reg (
 oo 4 (.mv (.c (Value.int .i64 (-1)))) :: [])) .ret)))
def r89 : List ResultVar := [.tmp 4]
theorem fun89 : Fun Try.prog 89 19 2 a89 r89 :=
  ⟨rfl, Try.f89, _, rfl, rfl, rfl, by decide, rfl, rfl, rfl⟩
noncomputable def a90 : ACode := (.seq (.reg (
 oo 8 (.load1 (.t 1)) ::
oo 9 (.nilck (.t 8)) ::
oo 10 (.faddr 1 (.t 9)) ::
oo 11 (.load1 (.t 10)) ::
oo 12 (.len (.t 11)) ::
om 4 12 :: [])) (.seq (.reg (
 om 13 4 ::
oo 14 (.mv z0) :: [])) (.block 0 (.loop (.seq (.reg (
 oo 15 (.int .lss (.t 14) (.t 13)) :: [])) (.seq (.cond (.t 15) .skip (.exit 0)) (.seq (.block 1 (.seq (.reg (
 om 16 14 ::
om 5 16 :: [])) (.seq (.seq (.reg (
 om 17 0 ::
om 18 5 ::
oo 19 (.bslice [k0] [(0, 1, (.t 18))] 1 3) ::
⟨(some 20), none, (.call (.t 17) [(.t 19)])⟩ ::
oo 21 (.not (.t 20)) :: [])) (.cond (.t 21) .ret .skip)) (.seq (.reg (
 om 22 5 ::
oo 23 (.int .add (.t 22) z1) ::
om 6 23 :: [])) (.block 2 (.loop (.seq (.seq (.reg (
 om 24 6 ::
om 25 4 ::
oo 26 (.int .lss (.t 24) (.t 25)) ::
om 27 26 ::
og 28 27 true (.load1 (.t 2)) ::
og 29 27 true (.int .gtr (.t 28) z1) ::
oo 30 (.pick (.t 27) (.t 29) (.c (Value.bool false))) :: [])) (.cond (.t 30) .skip (.exit 2))) (.seq (.block 3 (.seq (.seq (.reg (
 om 33 0 ::
om 34 5 ::
om 35 6 ::
oo 36 (.bslice [k0, k0] [(0, 1, (.t 34)), (1, 1, (.t 35))] 2 3) ::
⟨(some 37), none, (.call (.t 33) [(.t 36)])⟩ ::
oo 38 (.not (.t 37)) :: [])) (.cond (.t 38) .ret .skip)) (.seq (.reg (
 om 39 6 ::
oo 40 (.int .add (.t 39) z1) ::
om 7 40 :: [])) (.block 4 (.loop (.seq (.seq (.reg (
 om 41 7 ::
om 42 4 ::
oo 43 (.int .lss (.t 41) (.t 42)) ::
om 44 43 ::
og 45 44 true (.load1 (.t 2)) ::
og 46 44 true (.int .gtr (.t 45) (.c (Value.int .i64 2))) ::
oo 47 (.pick (.t 44) (.t 46) (.c (Value.bool false))) :: [])) (.cond (.t 47) .skip (.exit 4))) (.seq (.block 5 (.seq (.reg (
 om 50 0 ::
om 51 5 ::
om 52 6 ::
om 53 7 ::
oo 54 (.bslice [k0, k0, k0] [(0, 1, (.t 51)), (1, 1, (.t 52)), (2, 1, (.t 53))] 3 3) ::
⟨(some 55), none, (.call (.t 50) [(.t 54)])⟩ ::
oo 56 (.not (.t 55)) :: [])) (.cond (.t 56) .ret .skip))) (.reg (
 om 48 7 ::
oo 49 (.int .add (.t 48) z1) ::
om 7 49 :: []))))))))) (.reg (
 om 31 6 ::
oo 32 (.int .add (.t 31) z1) ::
om 6 32 :: [])))))))))) (.reg (
 oo 57 (.int .add (.t 14) z1) ::
om 14 57 :: [])))))))))
def r90 : List ResultVar := []
theorem fun90 : Fun Try.prog 90 58 3 a90 r90 :=
  ⟨rfl, Try.f90, _, rfl, rfl, rfl, by decide, rfl, rfl, rfl⟩
noncomputable def a91 : ACode := (.seq (.reg (
 oo 1 (.box (.t 0) 80) ::
oo 2 (.mv z0) :: [])) (.seq (.reg (
 oo 3 (.ixarr 3 1 (.t 1) z0) ::
oo 4 (.load1 (.t 3)) ::
oo 5 (.ixarr 3 1 (.t 1) z0) ::
oo 6 (.load1 (.t 5)) ::
oo 7 (.neg (.t 6)) ::
oo 8 (.mnmx true (.t 4) (.t 7)) ::
oo 9 (.ixarr 3 1 (.t 1) z1) ::
oo 10 (.load1 (.t 9)) ::
oo 11 (.ixarr 3 1 (.t 1) z1) ::
oo 12 (.load1 (.t 11)) ::
oo 13 (.neg (.t 12)) ::
oo 14 (.mnmx true (.t 10) (.t 13)) ::
oo 15 (.int .add (.t 8) (.t 14)) ::
om 2 15 :: [])) .ret))
def r91 : List ResultVar := [.tmp 2]
theorem fun91 : Fun Try.prog 91 16 1 a91 r91 :=
  ⟨rfl, Try.f91, _, rfl, rfl, rfl, by decide, rfl, rfl, rfl⟩
noncomputable def a92 : ACode := (.seq (.reg (
 oo 8 (.alloc [Value.map none, k0, k0, k0, k0] 82) :: [])) (.seq (.reg (
 oo 12 (.mkmap) ::
oo 13 (.build [k0, k0, k0] []) ::
om 14 2 ::
oo 15 (.build [Value.map none, k0, k0, k0, k0] [(0, 1, (.t 12)), (1, 3, (.t 13)), (4, 1, (.t 14))]) ::
oo 9 (.alloc [Value.map none, k0, k0, k0, k0] 82) ::
oz (.store 5 (.t 9) (.t 15)) :: [])) (.seq (.seq (.reg (
 om 16 1 ::
oo 17 (.len (.t 16)) ::
oo 18 (.mv z0) :: [])) (.block 0 (.loop (.seq (.reg (
 oo 19 (.int .lss (.t 18) (.t 17)) :: [])) (.seq (.cond (.t 19) .skip (.exit 0)) (.seq (.block 1 (.seq (.reg (
 om 20 18 ::
oo 21 (.ixsl 1 (.t 16) (.t 18)) ::
oo 22 (.load1 (.t 21)) ::
om 10 20 ::
om 11 22 :: [])) (.seq (.dreg (
 oo 23 (.faddr 0 (.t 9)) ::
oo 24 (.load1 (.t 23)) ::
om 25 11 ::
om 26 3 ::
om 27 10 ::
oo 28 (.ixsl 1 (.t 26) (.t 27)) ::
oo 29 (.load1 (.t 28)) ::
oz (.mapup 3 (.t 24) (.t 25) (.t 29)) :: []) []) (.dreg (
 oo 30 (.faddr 1 (.t 9)) ::
oo 31 (.loadn 3 (.t 30)) ::
om 32 0 ::
oo 33 (.nilck (.t 32)) ::
oo 34 (.faddr 1 (.t 33)) ::
oo 35 (.load1 (.t 34)) ::
om 36 11 ::
oo 37 (.ixsl 3 (.t 35) (.t 36)) ::
oo 38 (.loadn 3 (.t 37)) ::
om 39 3 ::
om 40 10 ::
oo 41 (.ixsl 1 (.t 39) (.t 40)) ::
oo 42 (.load1 (.t 41)) ::
oc 43 60 [(.t 38), (.t 42)] ::
oo 44 (.bslice [k0, k0, k0, k0, k0, k0] [(0, 3, (.t 31)), (3, 3, (.t 43))] 2 80) ::
oc 45 59 [(.t 44)] ::
oo 46 (.faddr 1 (.t 9)) ::
oz (.store 3 (.t 46) (.t 45)) :: []) [])))) (.reg (
 oo 47 (.int .add (.t 18) z1) ::
om 18 47 :: [])))))))) (.seq (.reg (
 oo 48 (.loadn 5 (.t 9)) ::
oz (.store 5 (.t 8) (.t 48)) :: [])) .ret))))
def r92 : List ResultVar := [.cell 8 82]
theorem fun92 : Fun Try.prog 92 49 4 a92 r92 :=
  ⟨rfl, Try.f92, _, rfl, rfl, rfl, by decide, rfl, rfl, rfl⟩
noncomputable def a93 : ACode := (.seq (.reg (
 oo 8 (.mv (.c (Value.bool true))) :: [])) (.seq (.reg (
 oo 9 (.mv (.c (Value.bool true))) :: [])) (.block 0 (.loop (.block 1 (.seq (.reg (
 om 19 2 ::
om 20 1 ::
oo 21 (.int .sub (.t 19) (.t 20)) ::
om 10 21 :: [])) (.seq (.seq (.reg (
 om 22 10 ::
oo 23 (.int .leq (.t 22) (.c (Value.int .i64 12))) :: [])) (.cond (.t 23) (.seq (.reg (
 om 24 0 ::
om 25 1 ::
om 26 2 ::
oc 27 98 [(.t 24), (.t 25), (.t 26)] :: [])) .ret) .skip)) (.seq (.seq (.reg (
 om 28 3 ::
oo 29 (.int .eql (.t 28) z0) :: [])) (.cond (.t 29) (.seq (.reg (
 om 30 0 ::
om 31 1 ::
om 32 2 ::
oc 33 99 [(.t 30), (.t 31), (.t 32)] :: [])) .ret) .skip)) (.seq (.seq (.reg (
 om 34 8 ::
oo 35 (.not (.t 34)) :: [])) (.cond (.t 35) (.seq (.reg (
 om 36 0 ::
om 37 1 ::
om 38 2 ::
oc 39 100 [(.t 36), (.t 37), (.t 38)] :: [])) (.reg (
 om 40 3 ::
oo 41 (.int .sub (.t 40) z1) ::
om 3 41 :: []))) .skip)) (.seq (.reg (
 om 43 0 ::
om 44 1 ::
om 45 2 ::
oc 46 101 [(.t 43), (.t 44), (.t 45)] ::
om 42 46 ::
oo 47 (.extract (.t 42) 0) ::
oo 48 (.extract (.t 42) 1) ::
om 11 47 ::
om 12 48 :: [])) (.seq (.seq (.reg (
 om 49 12 ::
oo 50 (.int .eql (.t 49) (.c (Value.int .i64 2))) :: [])) (.cond (.t 50) (.seq (.reg (
 om 51 0 ::
om 52 1 ::
om 53 2 ::
oc 54 102 [(.t 51), (.t 52), (.t 53)] :: [])) (.seq (.reg (
 om 55 2 ::
oo 56 (.int .sub (.t 55) z1) ::
om 57 11 ::
om 58 1 ::
oo 59 (.int .sub (.t 57) (.t 58)) ::
oo 60 (.int .sub (.t 56) (.t 59)) ::
om 11 60 :: [])) (.reg (
 oo 12 (.mv z1) :: [])))) .skip)) (.seq (.seq (.reg (
 om 61 8 ::
om 62 61 ::
og 63 62 true (.mv (.t 9)) ::
oo 64 (.pick (.t 62) (.t 63) (.c (Value.bool false))) ::
om 65 64 ::
og 66 65 true (.mv (.t 12)) ::
og 67 65 true (.int .eql (.t 66) z1) ::
oo 68 (.pick (.t 65) (.t 67) (.c (Value.bool false))) :: [])) (.cond (.t 68) (.seq (.reg (
 om 69 0 ::
om 70 1 ::
om 71 2 ::
oc 72 103 [(.t 69), (.t 70), (.t 71)] :: [])) (.cond (.t 72) .ret .skip)) .skip)) (.seq (.seq (.dreg (
 om 73 1 ::
oo 74 (.int .gtr (.t 73) z0) ::
om 75 74 ::
og 76 75 true (.mv (.t 0)) ::
og 77 75 true (.mv (.t 1)) ::
og 78 75 true (.int .sub (.t 77) z1) ::
og 79 75 true (.ixsl 1 (.t 76) (.t 78)) ::
og 80 75 true (.load1 (.t 79)) ::
og 81 75 true (.mv (.t 0)) ::
og 82 75 true (.mv (.t 11)) ::
og 83 75 true (.ixsl 1 (.t 81) (.t 82)) ::
og 84 75 true (.load1 (.t 83)) ::
ocg 85 75 true 104 [(.t 80), (.t 84)] ::
og 86 75 true (.not (.t 85)) ::
oo 87 (.pick (.t 75) (.t 86) (.c (Value.bool false))) :: []) []) (.cond (.t 87) (.seq (.reg (
 om 88 0 ::
om 89 1 ::
om 90 2 ::
om 91 11 ::
oc 92 105 [(.t 88), (.t 89), (.t 90), (.t 91)] ::
om 13 92 :: [])) (.seq (.reg (
 om 93 13 ::
om 1 93 :: [])) (.exit 1))) .skip)) (.seq (.reg (
 om 95 0 ::
om 96 1 ::
om 97 2 ::
om 98 11 ::
oc 99 106 [(.t 95), (.t 96), (.t 97), (.t 98)] ::
om 94 99 ::
oo 100 (.extract (.t 94) 0) ::
oo 101 (.extract (.t 94) 1) ::
om 14 100 ::
om 15 101 :: [])) (.seq (.reg (
 om 102 15 ::
om 9 102 :: [])) (.seq (.reg (
 om 103 14 ::
om 104 1 ::
oo 105 (.int .sub (.t 103) (.t 104)) ::
om 106 2 ::
om 107 14 ::
oo 108 (.int .sub (.t 106) (.t 107)) ::
om 16 105 ::
om 17 108 :: [])) (.seq (.reg (
 om 109 10 ::
oo 110 (.idiv true (.t 109) (.c (Value.int .i64 8))) ::
om 18 110 :: [])) (.seq (.reg (
 om 111 16 ::
om 112 17 ::
oo 113 (.int .lss (.t 111) (.t 112)) :: [])) (.cond (.t 113) (.seq (.reg (
 om 114 16 ::
om 115 18 ::
oo 116 (.int .geq (.t 114) (.t 115)) ::
om 8 116 :: [])) (.seq (.reg (
 om 117 0 ::
om 118 1 ::
om 119 14 ::
om 120 3 ::
oc 121 93 [(.t 117), (.t 118), (.t 119), (.t 120)] :: [])) (.reg (
 om 122 14 ::
oo 123 (.int .add (.t 122) z1) ::
om 1 123 :: [])))) (.seq (.reg (
 om 124 17 ::
om 125 18 ::
oo 126 (.int .geq (.t 124) (.t 125)) ::
om 8 126 :: [])) (.seq (.reg (
 om 127 0 ::
om 128 14 ::
oo 129 (.int .add (.t 128) z1) ::
om 130 2 ::
om 131 3 ::
oc 132 93 [(.t 127), (.t 129), (.t 130), (.t 131)] :: [])) (.reg (
 om 133 14 ::
om 2 133 :: [])))))))))))))))))))))))
def r93 : List ResultVar := []
theorem fun93 : Fun Try.prog 93 134 4 a93 r93 :=
  ⟨rfl, Try.f93, _, rfl, rfl, rfl, by decide, rfl, rfl, rfl⟩
noncomputable def a94 : ACode := (.seq (.reg (
 oo 2 (.mv z0) :: [])) (.seq (.cond (.c (Value.bool false)) (.seq (.reg (
 om 3 0 ::
oo 4 (.conv .u32 (.t 3)) ::
oc 5 107 [(.t 4)] ::
om 2 5 :: [])) .ret) .skip) (.seq (.reg (
 om 6 0 ::
oc 7 108 [(.t 6)] ::
om 2 7 :: [])) .ret)))
def r94 : List ResultVar := [.tmp 2]
theorem fun94 : Fun Try.prog 94 8 1 a94 r94 :=
  ⟨rfl, Try.f94, _, rfl, rfl, rfl, by decide, rfl, rfl, rfl⟩
noncomputable def a95 : ACode := (.seq (.reg (
 oo 4 (.alloc [Value.map none, k0, k0, k0, k0] 82) :: [])) (.seq (.reg (
 om 8 0 ::
oo 9 (.ixsl 5 (.t 8) z0) ::
oo 10 (.loadn 5 (.t 9)) ::
oo 5 (.alloc [Value.map none, k0, k0, k0, k0] 82) ::
oz (.store 5 (.t 5) (.t 10)) :: [])) (.seq (.seq (.reg (
 om 11 0 ::
oo 12 (.slsl 5 (.t 11) (some z1) none none) ::
oo 13 (.len (.t 12)) ::
oo 14 (.mv z0) :: [])) (.block 0 (.loop (.seq (.reg (
 oo 15 (.int .lss (.t 14) (.t 13)) :: [])) (.seq (.cond (.t 15) .skip (.exit 0)) (.seq (.block 1 (.seq (.reg (
 oo 16 (.ixsl 5 (.t 12) (.t 14)) ::
oo 17 (.loadn 5 (.t 16)) ::
oo 7 (.alloc [Value.map none, k0, k0, k0, k0] 82) ::
oz (.store 5 (.t 7) (.t 17)) :: [])) (.seq (.reg (
 om 18 1 ::
oo 19 (.loadn 5 (.t 7)) ::
oo 20 (.loadn 5 (.t 5)) ::
⟨(some 21), none, (.call (.t 18) [(.t 19), (.t 20)])⟩ :: [])) (.cond (.t 21) (.reg (
 oo 22 (.loadn 5 (.t 7)) ::
oz (.store 5 (.t 5) (.t 22)) :: [])) .skip)))) (.reg (
 oo 23 (.int .add (.t 14) z1) ::
om 14 23 :: [])))))))) (.seq (.reg (
 oo 24 (.loadn 5 (.t 5)) ::
oz (.store 5 (.t 4) (.t 24)) :: [])) .ret))))
def r95 : List ResultVar := [.cell 4 82]
theorem fun95 : Fun Try.prog 95 25 2 a95 r95 :=
  ⟨rfl, Try.f95, _, rfl, rfl, rfl, by decide, rfl, rfl, rfl⟩
noncomputable def a96 : ACode := (.seq (.reg (
 oo 2 (.box (.t 0) 82) ::
oo 3 (.box (.t 1) 82) ::
oo 4 (.mv (.c (Value.bool false))) :: [])) (.seq (.dreg (
 oo 5 (.loadn 5 (.t 3)) ::
oc 6 52 [(.t 5)] ::
oo 7 (.loadn 5 (.t 2)) ::
oc 8 52 [(.t 7)] ::
oc 9 69 [(.t 6), (.t 8)] ::
om 4 9 :: []) []) .ret))
def r96 : List ResultVar := [.tmp 4]
theorem fun96 : Fun Try.prog 96 10 2 a96 r96 :=
  ⟨rfl, Try.f96, _, rfl, rfl, rfl, by decide, rfl, rfl, rfl⟩
noncomputable def a97 : ACode := (.seq (.reg (
 oo 4 (.mv z0) :: [])) (.seq (.seq (.reg (
 om 6 0 ::
oo 7 (.len (.t 6)) ::
oo 8 (.mv z0) :: [])) (.block 0 (.loop (.seq (.reg (
 oo 9 (.int .lss (.t 8) (.t 7)) :: [])) (.seq (.cond (.t 9) .skip (.exit 0)) (.seq (.block 1 (.seq (.reg (
 om 10 8 ::
om 5 10 :: [])) (.seq (.reg (
 om 11 1 ::
om 12 0 ::
om 13 5 ::
oo 14 (.ixsl 2 (.t 12) (.t 13)) ::
oo 15 (.loadn 2 (.t 14)) ::
⟨(some 16), none, (.call (.t 11) [(.t 15)])⟩ :: [])) (.cond (.t 16) (.seq (.reg (
 om 17 5 ::
om 4 17 :: [])) .ret) .skip)))) (.reg (
 oo 18 (.int .add (.t 8) z1) ::
om 8 18 :: [])))))))) (.seq (.reg (
 oo 4 (.mv (.c (Value.int .i64 (-1)))) :: [])) .ret)))
def r97 : List ResultVar := [.tmp 4]
theorem fun97 : Fun Try.prog 97 19 2 a97 r97 :=
  ⟨rfl, Try.f97, _, rfl, rfl, rfl, by decide, rfl, rfl, rfl⟩
noncomputable def a98 : ACode := (.seq (.reg (
 om 8 1 ::
oo 9 (.int .add (.t 8) z1) ::
om 6 9 :: [])) (.block 0 (.loop (.seq (.seq (.reg (
 om 10 6 ::
om 11 2 ::
oo 12 (.int .lss (.t 10) (.t 11)) :: [])) (.cond (.t 12) .skip (.exit 0))) (.seq (.block 1 (.seq (.reg (
 om 15 6 ::
om 7 15 :: [])) (.block 2 (.loop (.seq (.seq (.dreg (
 om 16 7 ::
om 17 1 ::
oo 18 (.int .gtr (.t 16) (.t 17)) ::
om 19 18 ::
og 20 19 true (.mv (.t 0)) ::
og 21 19 true (.mv (.t 7)) ::
og 22 19 true (.ixsl 1 (.t 20) (.t 21)) ::
og 23 19 true (.load1 (.t 22)) ::
og 24 19 true (.mv (.t 0)) ::
og 25 19 true (.mv (.t 7)) ::
og 26 19 true (.int .sub (.t 25) z1) ::
og 27 19 true (.ixsl 1 (.t 24) (.t 26)) ::
og 28 19 true (.load1 (.t 27)) ::
ocg 29 19 true 104 [(.t 23), (.t 28)] ::
oo 30 (.pick (.t 19) (.t 29) (.c (Value.bool false))) :: []) []) (.cond (.t 30) .skip (.exit 2))) (.seq (.block 3 (.dreg (
 om 33 0 ::
om 34 7 ::
om 35 0 ::
om 36 7 ::
oo 37 (.int .sub (.t 36) z1) ::
om 38 0 ::
om 39 7 ::
oo 40 (.int .sub (.t 39) z1) ::
oo 41 (.ixsl 1 (.t 38) (.t 40)) ::
oo 42 (.load1 (.t 41)) ::
om 43 0 ::
om 44 7 ::
oo 45 (.ixsl 1 (.t 43) (.t 44)) ::
oo 46 (.load1 (.t 45)) ::
oo 47 (.ixsl 1 (.t 33) (.t 34)) ::
oz (.store 1 (.t 47) (.t 42)) ::
oo 48 (.ixsl 1 (.t 35) (.t 37)) ::
oz (.store 1 (.t 48) (.t 46)) :: []) [])) (.reg (
 om 31 7 ::
oo 32 (.int .sub (.t 31) z1) ::
om 7 32 :: [])))))))) (.reg (
 om 13 6 ::
oo 14 (.int .add (.t 13) z1) ::
om 6 14 :: [])))))))
def r98 : List ResultVar := []
theorem fun98 : Fun Try.prog 98 49 3 a98 r98 :=
  ⟨rfl, Try.f98, _, rfl, rfl, rfl, by decide, rfl, rfl, rfl⟩
noncomputable def a104 : ACode := (.seq (.reg (
 oo 4 (.mv (.c (Value.bool false))) :: [])) (.seq (.reg (
 om 5 0 ::
oc 6 114 [(.t 5)] ::
om 7 6 ::
og 8 7 true (.mv (.t 1)) ::
ocg 9 7 true 114 [(.t 8)] ::
og 10 7 true (.not (.t 9)) ::
oo 11 (.pick (.t 7) (.t 10) (.c (Value.bool false))) ::
om 12 11 ::
og 13 12 false (.mv (.t 0)) ::
og 14 12 false (.mv (.t 1)) ::
og 15 12 false (.int .lss (.t 13) (.t 14)) ::
oo 16 (.pick (.t 12) (.c (Value.bool true)) (.t 15)) ::
om 4 16 :: [])) .ret))
def r104 : List ResultVar := [.tmp 4]
theorem fun104 : Fun Try.prog 104 17 2 a104 r104 :=
  ⟨rfl, Try.f104, _, rfl, rfl, rfl, by decide, rfl, rfl, rfl⟩
noncomputable def a108 : ACode := (.seq (.reg (
 oo 2 (.mv z0) :: [])) (.seq (.seq (.reg (
 om 3 0 ::
oo 4 (.pure (rawOp Try.f108 1 1)) :: [])) (.cond (.t 4) (.seq (.reg (
 om 5 0 ::
oo 6 (.pure (rawOp Try.f108 2 1)) ::
om 0 6 :: [])) (.reg (
 oo 2 (.mv (.c (Value.int .i64 32))) :: []))) .skip)) (.seq (.seq (.reg (
 om 7 0 ::
oo 8 (.pure (rawOp Try.f108 4 1)) :: [])) (.cond (.t 8) (.seq (.reg (
 om 9 0 ::
oo 10 (.pure (rawOp Try.f108 5 1)) ::
om 0 10 :: [])) (.reg (
 om 11 2 ::
oo 12 (.int .add (.t 11) (.c (Value.int .i64 16))) ::
om 2 12 :: []))) .skip)) (.seq (.seq (.reg (
 om 13 0 ::
oo 14 (.pure (rawOp Try.f108 7 1)) :: [])) (.cond (.t 14) (.seq (.reg (
 om 15 0 ::
oo 16 (.pure (rawOp Try.f108 8 1)) ::
om 0 16 :: [])) (.reg (
 om 17 2 ::
oo 18 (.int .add (.t 17) (.c (Value.int .i64 8))) ::
om 2 18 :: []))) .skip)) (.seq (.reg (
 om 19 2 ::
om 20 0 ::
oo 21 (.conv .u8 (.t 20)) ::
oo 22 (.pure (rawOp Try.f108 10 3)) ::
oo 23 (.conv .i64 (.t 22)) ::
oo 24 (.int .add (.t 19) (.t 23)) ::
om 2 24 :: [])) .ret)))))
def r108 : List ResultVar := [.tmp 2]
theorem fun108 : Fun Try.prog 108 25 1 a108 r108 :=
  ⟨rfl, Try.f108, _, rfl, rfl, rfl, by decide, rfl, rfl, rfl⟩
noncomputable def a114 : ACode := (.seq (.reg (
 oo 2 (.mv (.c (Value.bool false))) :: [])) (.seq (.reg (
 om 3 0 ::
om 4 0 ::
oo 5 (.int .neq (.t 3) (.t 4)) ::
om 2 5 :: [])) .ret))
def r114 : List ResultVar := [.tmp 2]
theorem fun114 : Fun Try.prog 114 6 1 a114 r114 :=
  ⟨rfl, Try.f114, _, rfl, rfl, rfl, by decide, rfl, rfl, rfl⟩
end AE.Try
